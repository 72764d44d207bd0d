/-
  A part of the proof of MessageTakes: the texts P4 P5.
-/
import Derived.Test.YtjehnejgojgahaaGreatDoorK09
import Derived.Test.YtjehnejgojgahaaGreatDoorK10
namespace Go.Proofs.YtjehnejgojgahaaGreatDoor
open Go.RowKit
set_option linter.unusedVariables false
set_option linter.unusedSimpArgs false
set_option maxRecDepth 100000 in
theorem frame220 (a : Act) (hd : a.defers = []) (hs : a.tmps.size = 220) : ∃ f : Nat → Value, (∀ i, f i = a.tmps.getD i undef) ∧ a = ⟨(f 0 :: f 1 :: f 2 :: f 3 :: f 4 :: f 5 :: f 6 :: f 7 :: f 8 :: f 9 :: f 10 :: f 11 :: f 12 :: f 13 :: f 14 :: f 15 :: f 16 :: f 17 :: f 18 :: f 19 :: f 20 :: f 21 :: f 22 :: f 23 :: f 24 :: f 25 :: f 26 :: f 27 :: f 28 :: f 29 :: f 30 :: f 31 :: f 32 :: f 33 :: f 34 :: f 35 :: f 36 :: f 37 :: f 38 :: f 39 :: f 40 :: f 41 :: f 42 :: f 43 :: f 44 :: f 45 :: f 46 :: f 47 :: f 48 :: f 49 :: f 50 :: f 51 :: f 52 :: f 53 :: f 54 :: f 55 :: f 56 :: f 57 :: f 58 :: f 59 :: f 60 :: f 61 :: f 62 :: f 63 :: f 64 :: f 65 :: f 66 :: f 67 :: f 68 :: f 69 :: f 70 :: f 71 :: f 72 :: f 73 :: f 74 :: f 75 :: f 76 :: f 77 :: f 78 :: f 79 :: f 80 :: f 81 :: f 82 :: f 83 :: f 84 :: f 85 :: f 86 :: f 87 :: f 88 :: f 89 :: f 90 :: f 91 :: f 92 :: f 93 :: f 94 :: f 95 :: f 96 :: f 97 :: f 98 :: f 99 :: f 100 :: f 101 :: f 102 :: f 103 :: f 104 :: f 105 :: f 106 :: f 107 :: f 108 :: f 109 :: f 110 :: f 111 :: f 112 :: f 113 :: f 114 :: f 115 :: f 116 :: f 117 :: f 118 :: f 119 :: f 120 :: f 121 :: f 122 :: f 123 :: f 124 :: f 125 :: f 126 :: f 127 :: f 128 :: f 129 :: f 130 :: f 131 :: f 132 :: f 133 :: f 134 :: f 135 :: f 136 :: f 137 :: f 138 :: f 139 :: f 140 :: f 141 :: f 142 :: f 143 :: f 144 :: f 145 :: f 146 :: f 147 :: f 148 :: f 149 :: f 150 :: f 151 :: f 152 :: f 153 :: f 154 :: f 155 :: f 156 :: f 157 :: f 158 :: f 159 :: f 160 :: f 161 :: f 162 :: f 163 :: f 164 :: f 165 :: f 166 :: f 167 :: f 168 :: f 169 :: f 170 :: f 171 :: f 172 :: f 173 :: f 174 :: f 175 :: f 176 :: f 177 :: f 178 :: f 179 :: f 180 :: f 181 :: f 182 :: f 183 :: f 184 :: f 185 :: f 186 :: f 187 :: f 188 :: f 189 :: f 190 :: f 191 :: f 192 :: f 193 :: f 194 :: f 195 :: f 196 :: f 197 :: f 198 :: f 199 :: f 200 :: f 201 :: f 202 :: f 203 :: f 204 :: f 205 :: f 206 :: f 207 :: f 208 :: f 209 :: f 210 :: f 211 :: f 212 :: f 213 :: f 214 :: f 215 :: f 216 :: f 217 :: f 218 :: f 219 :: []).toArray, []⟩ := by
 refine ⟨fun i => a.tmps.getD i undef, fun _ => rfl, ?_⟩
 obtain ⟨t, d⟩ := a
 have hd' : d = [] := hd
 subst hd'
 have hs' : t.size = 220 := hs
 have h := array_of_getD t
 rw [hs'] at h
 exact congrArg (fun t => Act.mk t []) (h.trans (by rfl))
def frs (fs : List FM) : List Fr := fs.map (·.fr)
theorem frs_snoc (fs : List FM) (t : FM) : frs (fs ++ [t]) = frs fs ++ [t.fr] := by unfold frs; simp
theorem frs_length (fs : List FM) : (frs fs).length = fs.length := by unfold frs; simp
structure PMid (w0 : World) (A : Option Addr) (c : Nat) (l : Bytes) (slack : Nat) (r : Bytes) (fs : List FM) (vs : Value) (vc : List Value) (w : World) : Prop where
 rs : MR w (w0.heap.size + 1) A c l r
 res : Blk w w0.heap.size [.int .i64 0, .string ⟨#[]⟩, .int .u64 0, .slice none 0 0, .slice none 0 0] 79
 vblk : Blk w (w0.heap.size + 2) vc 79
 vlen : vc.length = 5
 stk : PStk (w0.heap.size + 3) w fs vs
 only : Only (fun _ => False) w0 w
 low : LowA A l w0.heap.size
 few : fs.length ≤ 8
 room : ∀ t ∈ fs, t.fr.list.length + r.length + slack ≤ 1048576 ∧ t.fr.keys.length + r.length + slack ≤ 1048576
def XV (w0 : World) (fs : List FM) (vs : Value) (b : Nat) : Prop := w0.heap.size + 3 ≤ b ∧ b ∉ blocksOf vs fs
def PLab (w0 : World) (A : Option Addr) (c : Nat) (l : Bytes) (T : Option JV) (n : Nat) (v5 v6 v9 : Value) (w : World) : Nat → Prop
 | 0 => ∃ r fs vc, PMid w0 A c l 0 r fs v5 vc w ∧ n = 10 * r.length + 9 ∧ (VD (8 - fs.length) r).bind (behind (frs fs)) = T
 | 1 => ∃ x r fs vc, PMid w0 A c l 0 (x :: r) fs v5 vc w ∧ v9 = .int .u8 (x.toNat : Nat) ∧ (x = 91 ∨ x = 123) ∧ n = 10 * r.length + 18 ∧ (VD (8 - fs.length) (x :: r)).bind (behind (frs fs)) = T
 | 2 => Blk w w0.heap.size [.int .i64 0, .string ⟨#[]⟩, .int .u64 0, .slice none 0 0, .slice none 0 0] 79 ∧ Only (fun _ => False) w0 w ∧ T = none
 | 3 => ∃ r fs v vc, PMid w0 A c l 1 r fs v5 vc w ∧ JIs (XV w0 fs v5) w v vc ∧ n = 10 * r.length + 5 ∧ behind (frs fs) (v, r) = T
 | 4 => ∃ x r fs t vc sb cap, PMid w0 A c l 0 (x :: r) (fs ++ [t]) v5 vc w ∧ v5 = .slice (some ⟨sb, 0, none⟩) (fs.length + 1) cap ∧ v6 = .pointer (some ⟨sb, 5 * fs.length, none⟩) ∧ n = 10 * r.length + 14 ∧ behind (frs fs) (.mk t.fr.kind [] 0 t.fr.list t.fr.keys, r) = T
 | 5 => ∃ r fs t vc sb cap, PMid w0 A c l 0 r (fs ++ [t]) v5 vc w ∧ v5 = .slice (some ⟨sb, 0, none⟩) (fs.length + 1) cap ∧ v6 = .pointer (some ⟨sb, 5 * fs.length, none⟩) ∧ t.fr.kind = 6 ∧ n = 10 * r.length + 7 ∧
   (LD (8 - (fs.length + 1)) 6 125 t.fr.list t.fr.keys r).bind (behind (frs fs)) = T
 | _ => False
def J61 (w0 : World) (A : Option Addr) (c : Nat) (l : Bytes) (T : Option JV) (k n : Nat) (a : Act) (w : World) : Prop :=
 a.defers = [] ∧ a.tmps.size = 220 ∧ a.tmps.getD 0 undef = .slice A l.length c ∧ a.tmps.getD 2 undef = .pointer (some ⟨w0.heap.size, 0, none⟩) ∧ a.tmps.getD 4 undef = .pointer (some ⟨w0.heap.size + 1, 0, none⟩) ∧
  a.tmps.getD 7 undef = .pointer (some ⟨w0.heap.size + 2, 0, none⟩) ∧ PLab w0 A c l T n (a.tmps.getD 5 undef) (a.tmps.getD 6 undef) (a.tmps.getD 9 undef) w k
def ParseAt (T : Option JV) (err : Int) (w : World) (e : Ending) (w' : World) : Prop :=
 Only (fun _ => False) w w' ∧ match T with
 | some v => ∃ cs, e = .returned (.tuple #[.agg cs.toArray, .int .i64 0]) ∧ JIs (w.heap.size ≤ ·) w' v cs
 | none => e = .returned (.tuple #[.agg #[.int .i64 0, .string ⟨#[]⟩, .int .u64 0, .slice none 0 0, .slice none 0 0], .int .i64 err])
def Q61 (w0 : World) (T : Option JV) : Exit → Act → World → Prop := bodyPost Tryz.prog Tryz.f61 (ParseAt T 5 w0)
def Seg61 (w0 : World) (A : Option Addr) (c : Nat) (l : Bytes) (T : Option JV) (k : Nat) : Prop :=
 ∀ n a w, J61 w0 A c l T k n a w → (∀ l' n' a' w', n' < n → J61 w0 A c l T l' n' a' w' → Seg Tryz.prog (scopeOf Tryz.f61) (J61 w0 A c l T) n (Q61 w0 T) l' a' w') →
  Seg Tryz.prog (scopeOf Tryz.f61) (J61 w0 A c l T) n (Q61 w0 T) k a w
theorem PMid.call {w0 : World} {A : Option Addr} {c : Nat} {l r q : Bytes} {s s' : Nat} {fs : List FM} {vs : Value} {vc : List Value} {w w' : World} (h : PMid w0 A c l s r fs vs vc w) (hr : MR w' (w0.heap.size + 1) A c l q)
  (ho : Only (· = w0.heap.size + 1) w w') (hq : q.length + s' ≤ r.length + s) : PMid w0 A c l s' q fs vs vc w' :=
 ⟨hr, h.res.only ho (by omega), h.vblk.only ho (by omega), h.vlen, h.stk.keep ho (fun b _ e => by omega), h.only.then ho (fun i hi e => by omega), h.low, h.few, fun t ht => by have := h.room t ht; omega⟩
theorem PMid.drewN {w0 : World} {A : Option Addr} {c : Nat} {l r : Bytes} {s : Nat} {fs : List FM} {vs : Value} {vc : List Value} {w : World} (h : PMid w0 A c l s r fs vs vc w) (n : Nat) : PMid w0 A c l s r fs vs vc (w.drewN n) :=
 ⟨h.rs.drewN n, h.res, h.vblk, h.vlen, h.stk.keep ((Only.refl (fun _ => False) w).drewN n) (fun _ _ h => h.elim), h.only.drewN n, h.low, h.few, h.room⟩
theorem PMid.next {w0 : World} {A : Option Addr} {c : Nat} {l r : Bytes} {s s' : Nat} {fs : List FM} {vs : Value} {vc : List Value} {w : World} {i : Nat} {x : UInt8} (h : PMid w0 A c l s (x :: r) fs vs vc w) (hs : MS w (w0.heap.size + 1) A c l i) (hd : l.drop i = x :: r) (hss : s' ≤ s + 1) :
  PMid w0 A c l s' r fs vs vc (w.setCell ⟨w0.heap.size + 1, 1, none⟩ (.int .i64 ((i + 1 : Nat) : Int))) := by
 have hlt : i < l.length := by
  rcases Nat.lt_or_ge i l.length with h | h
  ·exact h
  ·rw [List.drop_eq_nil_of_le h] at hd; cases hd
 exact h.call ⟨i + 1, hs.setAt (i + 1) hlt, by rw [← List.tail_drop, hd]; rfl⟩ ((Only.refl (· = w0.heap.size + 1) w).setCell (fun _ => rfl) _) (by simp; omega)
theorem PMid.setV {w0 : World} {A : Option Addr} {c : Nat} {l r : Bytes} {s : Nat} {fs : List FM} {vs : Value} {vc vd : List Value} {w w' : World} (h : PMid w0 A c l s r fs vs vc w) (hb : Blk w' (w0.heap.size + 2) vd 79) (hl : vd.length = 5) (ho : Only (· = w0.heap.size + 2) w w') : PMid w0 A c l s r fs vs vd w' :=
 ⟨h.rs.only ho (by omega) (fun b o e hl e2 => by have := h.low b o e hl; omega), h.res.only ho (by omega), hb, hl, h.stk.keep ho (fun b _ e => by omega), h.only.then ho (fun i hi e => by omega), h.low, h.few, h.room⟩
theorem PMid.setV1 {w0 : World} {A : Option Addr} {c : Nat} {l r : Bytes} {s : Nat} {fs : List FM} {vs : Value} {vc vd : List Value} {w : World} (h : PMid w0 A c l s r fs vs vc w) (i : Nat) (v : Value) (hd : vd = vc.set i v) : PMid w0 A c l s r fs vs vd (w.setCell ⟨w0.heap.size + 2, i, none⟩ v) :=
 h.setV (h.vblk.set' i v hd) (by rw [hd]; simpa using h.vlen) ((Only.refl (· = w0.heap.size + 2) w).setCell (fun _ => rfl) v)
theorem PMid.at {w0 : World} {A : Option Addr} {c : Nat} {l r : Bytes} {s : Nat} {fs : List FM} {vs : Value} {vc : List Value} {w : World} (h : PMid w0 A c l s r fs vs vc w) :
  ∃ i, MS w (w0.heap.size + 1) A c l i ∧ l.drop i = r ∧ w.cell? ⟨w0.heap.size + 1, 0, none⟩ = some (.slice A l.length c) ∧ w.cell? ⟨w0.heap.size + 1, 1, none⟩ = some (.int .i64 i) ∧ w.frozen? ⟨w0.heap.size + 1, 1, none⟩ = false ∧ i ≤ l.length ∧ l.length ≤ 1048576 := by
 obtain ⟨i, hi, hd⟩ := h.rs
 obtain ⟨c0, c1, f1⟩ := hi.cells
 exact ⟨i, hi, hd, c0, c1, f1, hi.le, hi.len⟩
theorem PMid.gl {w0 : World} {A : Option Addr} {c : Nat} {l r : Bytes} {s : Nat} {fs : List FM} {vs : Value} {vc : List Value} {w : World} (h : PMid w0 A c l s r fs vs vc w) (hG : Gl w0) : Gl w ∧ 8 ≤ w0.heap.size + 1 := ⟨hG.only h.only (fun _ _ => id), by have := hG.size; omega⟩
theorem JIs.far {X : Nat → Prop} {w w' : World} {v : JV} {cs : List Value} {G : Nat → Prop} (h : JIs X w v cs) (ho : Only G w w') (hG : ∀ b, X b → ¬ G b) : JIs X w' v cs := h.only ho (fun b _ hx => ⟨hG b hx, hx⟩)
set_option maxRecDepth 100000 in
set_option maxHeartbeats 1600000 in
theorem parse_bad {w0 : World} {A : Option Addr} {c : Nat} {l : Bytes} {T : Option JV} : Seg61 w0 A c l T 2 := by
 rintro n a w ⟨hd, hs, h0, h2, h4, h7, hb, ho, hT⟩ fall
 obtain ⟨f, hf, rfl⟩ := frame220 a hd hs
 refine ⟨_, rfl, ?_⟩
 rw [← hf] at h0 h2 h4 h7
 rw [h0, h2, h4, h7]
 have HO := Lib.hid ho
 have HT := Lib.hid hT
 have HB := Lib.hid hb
 clear ho hT hb fall hd hs h0 h2 h4 h7 hf
 go_wp2_with (refine wpList_store_blk rfl 79 (.tmp 2) (.tmp 204) rfl rfl rfl rfl HB.out rfl info79s rfl ?_; intro w2 hb2 ho2; have HB2 := Lib.hid hb2; have HO2 := Lib.hid ho2; clear hb2 ho2)
 refine jumpsBelow_ret ?_
 unfold Q61
 refine bodyPost_ret (ret_cell_tmp rfl rfl HB2.out agg79 info79s) rfl ⟨?_, ?_⟩
 ·exact HO.out.then HO2.out (fun i hi e => by omega)
 ·rw [HT.out]; rfl
end Go.Proofs.YtjehnejgojgahaaGreatDoor
