/-
  A part of the proof of MessageTakes: the texts M0 M1 G0.
-/
import Derived.Test.YtjehnejgojgahaaGreatDoorK01
import Derived.Test.YtjehnejgojgahaaGreatDoorK02
import Derived.Test.YtjehnejgojgahaaGreatDoorK07
import Derived.Laws.BitsLemmas
import Derived.Laws.Bits64
import Derived.Lib.ItoaNum
import Derived.Lib.LaidTab
namespace Go.Proofs.YtjehnejgojgahaaGreatDoor
open Go.RowKit
set_option linter.unusedVariables false
set_option linter.unusedSimpArgs false
theorem quiet_add_same {P : Program} {f : FuncId} {args : Array Value} {w : World} {a n : Nat} {v : Value}
  (h : Calls P f args (w.drewN (a + n)) fun e w' => e = .returned v ∧ w' = w.drewN (a + n)) :
  Calls P f args (w.drewN (a + n)) fun e w'' => e = .returned v ∧ ∃ m, w'' = w.drewN (a + m) :=
 h.mono fun _ _ ⟨he, hm⟩ => ⟨he, n, hm⟩
theorem wp_gen0 {P : Program} {code : Code} {Q : Exit → Act → World → Prop} {a : Act} {W : World} (φ : World → Prop) (h : φ W) (k : ∀ W', φ W' → code.wp P Q a W') : code.wp P Q a W := k W h
structure MS (w : World) (g : Nat) (A : Option Addr) (c : Nat) (l : Bytes) (i : Nat) : Prop where
 blk : Blk w g [.slice A l.length c, .int .i64 i] 158
 bytes : BytesAt w A l
 ne : Apart A g
 le : i ≤ l.length
 len : l.length ≤ 1048576
 cap : l.length ≤ c
def MR (w : World) (g : Nat) (A : Option Addr) (c : Nat) (l : Bytes) (r : Bytes) : Prop := ∃ i, MS w g A c l i ∧ l.drop i = r
theorem MS.drewN {w : World} {g : Nat} {A : Option Addr} {c : Nat} {l : Bytes} {i : Nat} (h : MS w g A c l i) (n : Nat) : MS (w.drewN n) g A c l i := ⟨h.blk, h.bytes, h.ne, h.le, h.len, h.cap⟩
theorem MR.drewN {w : World} {g : Nat} {A : Option Addr} {c : Nat} {l r : Bytes} (h : MR w g A c l r) (n : Nat) : MR (w.drewN n) g A c l r := by
 obtain ⟨i, h, e⟩ := h
 exact ⟨i, h.drewN n, e⟩
theorem MS.setAt {w : World} {g : Nat} {A : Option Addr} {c : Nat} {l : Bytes} {i : Nat} (h : MS w g A c l i) (j : Nat) (hj : j ≤ l.length) : MS (w.setCell ⟨g, 1, none⟩ (.int .i64 j)) g A c l j :=
 ⟨h.blk.set _ _, h.bytes.set h.ne _, h.ne, hj, h.len, h.cap⟩
theorem MS.cells {w : World} {g : Nat} {A : Option Addr} {c : Nat} {l : Bytes} {i : Nat} (h : MS w g A c l i) :
  w.cell? ⟨g, 0, none⟩ = some (.slice A l.length c) ∧ w.cell? ⟨g, 1, none⟩ = some (.int .i64 i) ∧ w.frozen? ⟨g, 1, none⟩ = false :=
 ⟨h.blk.cell 0 rfl, h.blk.cell 1 rfl, h.blk.frozen 1⟩
theorem MS.only {w w' : World} {g : Nat} {A : Option Addr} {c : Nat} {l : Bytes} {i : Nat} {G : Nat → Prop} (h : MS w g A c l i) (ho : Only G w w') (hg : ¬ G g) (hA : ∀ b o, A = some ⟨b, o, none⟩ → l ≠ [] → ¬ G b) : MS w' g A c l i := by
 refine ⟨h.blk.only ho hg, ?_, h.ne, h.le, h.len, h.cap⟩
 intro i x hx
 obtain ⟨b, o, e, hc⟩ := h.bytes i x hx
 exact ⟨b, o, e, ho.cell hc (hA _ _ e (by rintro rfl; simp at hx))⟩
theorem MR.only {w w' : World} {g : Nat} {A : Option Addr} {c : Nat} {l r : Bytes} {G : Nat → Prop} (h : MR w g A c l r) (ho : Only G w w') (hg : ¬ G g) (hA : ∀ b o, A = some ⟨b, o, none⟩ → l ≠ [] → ¬ G b) : MR w' g A c l r := by
 obtain ⟨i, h, e⟩ := h
 exact ⟨i, h.only ho hg hA, e⟩
theorem MS.at {w : World} {g : Nat} {A : Option Addr} {c : Nat} {l : Bytes} {j : Nat} (h : MS w g A c l j) (hlt : j < l.length) :
  ∃ y b o, A = some ⟨b, o, none⟩ ∧ l.drop j = y :: l.drop (j + 1) ∧ w.cell? ⟨b, o + j, none⟩ = some (.int .u8 y.toNat) := by
 obtain ⟨b, o, e, hc⟩ := h.bytes j l[j] (List.getElem?_eq_getElem hlt)
 exact ⟨l[j], b, o, e, List.drop_eq_getElem_cons hlt, hc⟩
theorem BytesAt.piece {w : World} {A : Option Addr} {l : Bytes} {c i m : Nat} (h : BytesAt w A l) (hm : m ≤ l.length) (hc : l.length ≤ c) :
  BytesAt w (if c = i then A else Option.map (fun x => x.add i) A) ((l.take m).drop i) := by
 intro j x hx
 rw [List.getElem?_drop, List.getElem?_take] at hx
 split at hx
 ·rename_i hlt
  obtain ⟨b, o, rfl, hcell⟩ := h (i + j) x hx
  rw [if_neg (by omega)]
  refine ⟨b, o + i, ?_, ?_⟩
  ·simp only [Option.map_some, Addr.add]
   by_cases h0 : i = 0
   ·subst h0; simp
   ·rw [if_neg h0]
  ·rw [← hcell, Nat.add_assoc]
 ·cases hx
theorem run_text {w : World} {A : Option Addr} {n c : Nat} {l : Bytes} (hn : n = l.length) (hB : BytesAt w A l) :
  (convert 22 9 (.slice A n c)).run Tryz.prog w = .ok (.string ⟨l.toArray⟩) w := by
 subst hn
 cases l with
 | nil =>
  rw [run_convert_bytes_string w 22 9 5 A _ c under22 under5 under9]
  cases A <;> rfl
 | cons x l =>
  obtain ⟨b, off, rfl, _⟩ := hB 0 x rfl
  refine run_convert_bytes_back w 22 9 5 ⟨b, off, none⟩ c (x :: l) under22 under5 under9 ?_
  intro j hj
  obtain ⟨b', o', e, hc⟩ := hB j _ (List.getElem?_eq_getElem hj)
  cases e
  unfold Addr.add
  by_cases h0 : j = 0
  ·subst h0; simpa using hc
  ·rw [if_neg h0]; exact hc
theorem text_piece {w : World} {A : Option Addr} {l : Bytes} {c i m : Nat} (h : BytesAt w A l) (hm : m ≤ l.length) (hc : l.length ≤ c) (him : i ≤ m) :
  ∃ t : ByteArray, t.data.toList = (l.take m).drop i ∧ ∀ n, (convert 22 9 (.slice (if c = i then A else Option.map (fun x => x.add i) A) (m - i) (c - i))).run Tryz.prog (w.drewN n) = .ok (.string t) (w.drewN n) :=
 ⟨⟨((l.take m).drop i).toArray⟩, rfl, fun n => run_text (by simp; omega) (fun j x hx => (h.piece hm hc) j x hx)⟩
def headI : Bytes → Int
 | [] => 0
 | x :: _ => x.toNat
theorem idx_blank_tab : ∀ n : Fin 256, decide (0 ≤ Lib.indexByte [32, 9, 10, 13] (UInt8.ofNat n.val)) = isBlank (UInt8.ofNat n.val) := by decide +kernel
theorem idx_blank (y : UInt8) : ∃ k : Int, decide (0 ≤ k) = isBlank y ∧ ∀ w, Calls Tryz.prog 87 #[.string { data := #[32, 9, 10, 13] }, .int .u8 (y.toNat : Int)] w fun e w' => e = .returned (.int .i64 k) ∧ w' = w := by
 refine ⟨Lib.indexByte [32, 9, 10, 13] y, ?_, fun w => ?_⟩
 ·have := idx_blank_tab ⟨y.toNat, y.toNat_lt⟩
  simpa using this
 ·have := Tryz.strings_IndexByte ⟨#[32, 9, 10, 13]⟩ (y.toNat : Int) w
  simpa using this
def NextRel (g : Nat) (A : Option Addr) (c : Nat) (l : Bytes) (r : Bytes) (w : World) (gk : Nat) (w' : World) : Prop :=
 ∃ j, MS w' g A c l j ∧ skipB (l.drop j) = skipB r ∧ l.length - j = gk ∧ Only (· = g) w w'
def NextAt (g : Nat) (A : Option Addr) (c : Nat) (l : Bytes) (r : Bytes) (w : World) (e : Ending) (w' : World) : Prop :=
 e = .returned (.int .u8 (headI (skipB r))) ∧ MR w' g A c l (skipB r) ∧ Only (· = g) w w'
set_option maxHeartbeats 800000 in
theorem next_any {g : Nat} {A : Option Addr} {c : Nat} {l r : Bytes} {w : World} (hR : MR w g A c l r) :
  Calls Tryz.prog 80 #[.pointer (some ⟨g, 0, none⟩)] w (NextAt g A c l r w) := by
 obtain ⟨i, hR, hi⟩ := hR
 have HI := Lib.hid hi
 have HR := Lib.hid hR
 clear hR hi
 go_enter Tryz.func80, Tryz.ntmps80
 go_wp2
 go_loopg [] (l.length - i) (fun gk wr => NextRel g A c l r w gk wr)
 case atStart => exact ⟨i, HR.out, by rw [HI.out], rfl, Only.refl _ _⟩
 case round =>
  obtain ⟨j, hr, hs, hk, ho⟩ := hrel
  have hl := hr.len
  have hj := hr.le
  obtain ⟨h0, h1, h3⟩ := hr.cells
  have HO := Lib.hid ho
  have HS := Lib.hid hs
  have HK := Lib.hid hk
  clear ho hs hk
  by_cases hlt : j < l.length
  ·obtain ⟨y, b, o, rfl, hd, hc⟩ := hr.at hlt
   obtain ⟨k, hk, hcall⟩ := idx_blank y
   have HC := Lib.hid hcall
   have HD := Lib.hid hd
   have HR' := Lib.hid hr
   have HL := Lib.hid (show j + 1 ≤ l.length from hlt)
   have hlt1 : decide (j < l.length) = true := by simp; omega
   have hne : ((j : Int) == (l.length : Int)) = false := by simp; omega
   obtain ⟨z, hz⟩ : ∃ z : Int, z = y.toNat := ⟨_, rfl⟩
   have HZ := Lib.hid hz
   rw [← hz] at hc
   clear hcall hd hr hz
   by_cases hb : isBlank y = true
   ·have hk' : decide (0 ≤ k) = true := by rw [hk, hb]
    have HB := Lib.hid hb
    clear hk hb
    go_wp2
    go_quiet ((go_at_call 87; exact Calls.quiet_of_same (by have := HC.out; rw [← HZ.out] at this; exact this _)))
    go_wp2
    go_roundg (l.length - (j + 1))
    case rel => exact ⟨j + 1, (HR'.out.drewN _).setAt _ HL.out, by rw [← HS.out, HD.out, skipB, if_pos HB.out], rfl, (HO.out.drewN _).setCell (fun _ => rfl) _⟩
    case measure => have := HK.out; have := HL.out; omega
   ·have hb' : isBlank y = false := by simpa using hb
    have hk' : decide (0 ≤ k) = false := by rw [hk, hb']
    have HB := Lib.hid hb'
    clear hk hb hb'
    go_wp2
    go_quiet ((go_at_call 87; exact Calls.quiet_of_same (by have := HC.out; rw [← HZ.out] at this; exact this _)))
    go_wp2
    go_quiet (fail)
    go_wp2
    go_quiet (fail)
    go_wp2
    go_ret
    have hs : skipB r = y :: l.drop (j + 1) := by rw [← HS.out, HD.out, skipB, if_neg (by rw [HB.out]; simp)]
    refine ⟨by rw [hs, HZ.out]; rfl, ⟨j, ((HR'.out.drewN _).drewN _).drewN _, by rw [HD.out, hs]⟩, ((HO.out.drewN _).drewN _).drewN _⟩
  ·obtain rfl : j = l.length := by omega
   have hlt1 : decide (l.length < l.length) = false := by simp
   have HR' := Lib.hid hr
   clear hr
   go_wp2
   go_quiet (fail)
   go_wp2
   go_quiet (fail)
   go_wp2
   go_ret
   have hs : skipB r = [] := by rw [← HS.out, List.drop_length]; rfl
   exact ⟨by rw [hs]; rfl, ⟨l.length, (HR'.out.drewN _).drewN _, by rw [hs, List.drop_length]⟩, (HO.out.drewN _).drewN _⟩
def hexText : ByteArray := { data := #[48, 49, 50, 51, 52, 53, 54, 55, 56, 57, 97, 98, 99, 100, 101, 102, 48, 49, 50, 51, 52, 53, 54, 55, 56, 57, 65, 66, 67, 68, 69, 70] }
def hexOk (k : Int) (o : Option Nat) : Bool := match o with
 | none => decide (k < 0)
 | some d => decide (0 ≤ k) && decide (k < 32) && decide (k.toNat % 16 = d)
theorem idx_hex_tab : ∀ n : Fin 256, hexOk (Lib.indexByte hexText.data.toList (UInt8.ofNat n.val)) (hexD (UInt8.ofNat n.val)) = true := by decide +kernel
theorem idx_hex (y : UInt8) : ∃ k : Int, hexOk k (hexD y) = true ∧ ∀ w, Calls Tryz.prog 87 #[.string { data := #[48, 49, 50, 51, 52, 53, 54, 55, 56, 57, 97, 98, 99, 100, 101, 102, 48, 49, 50, 51, 52, 53, 54, 55, 56, 57, 65, 66, 67, 68, 69, 70] }, .int .u8 (y.toNat : Int)] w fun e w' => e = .returned (.int .i64 k) ∧ w' = w := by
 refine ⟨Lib.indexByte hexText.data.toList y, ?_, fun w => ?_⟩
 ·have := idx_hex_tab ⟨y.toNat, y.toNat_lt⟩
  simpa using this
 ·have := Tryz.strings_IndexByte hexText (y.toNat : Int) w
  simpa [hexText] using this
theorem wraps_u32 (n : Int) (h₀ : 0 ≤ n) (h₁ : n < 2 ^ 32) : IntKind.u32.wrap n = n := by rw [IntKind.wrap_u32]; omega
theorem wraps_i64' (n : Int) (h₀ : 0 ≤ n) (h₁ : n < 2 ^ 63) : IntKind.i64.wrap n = n := by rw [IntKind.wrap_i64]; omega
theorem mhex_step {n d : Nat} {x : Int} (hn : n < 4096) (h0 : 0 ≤ x) (h1 : x < 32) (hd : x.toNat % 16 = d) :
  bits BinOp.or IntKind.u32 ((n : Int) * 16) (bits BinOp.and IntKind.i64 x 15 % 4294967296) = ((16 * n + d : Nat) : Int) := by
 have h := bits_mask .i64 63 (by decide) wraps_i64' 4 (by decide) x h0 (by omega)
 have e : ((2 : Int) ^ 4 - 1) = 15 := by decide
 have e2 : ((2 : Int) ^ 4) = 16 := by decide
 rw [e, e2] at h
 rw [h]
 have e3 : x % 16 % 4294967296 = (d : Int) := by omega
 rw [e3, bits_join .u32 32 (by decide) wraps_u32 4 _ _ (by omega) (by omega) (by omega) (by omega) (by omega) (by omega)]
 omega
def HexRel (g : Nat) (A : Option Addr) (c : Nat) (l : Bytes) (T : Option (Nat × Bytes)) (w : World) (v4 v6 : Value) (gk : Nat) (w' : World) : Prop :=
 ∃ j k n : Nat, gk = 4 - k ∧ k ≤ 4 ∧ v6 = .int .i64 k ∧ v4 = .int .u32 n ∧ n < 65536 ∧ n < 16 ^ k ∧ MS w' g A c l j ∧ hexN (4 - k) n (l.drop j) = T ∧ Only (· = g) w w'
def HexAt (g : Nat) (A : Option Addr) (c : Nat) (l : Bytes) (T : Option (Nat × Bytes)) (w : World) (e : Ending) (w' : World) : Prop :=
 Only (· = g) w w' ∧ match T with
 | some (n, q) => e = .returned (.tuple #[.int .u32 n, .bool true]) ∧ MR w' g A c l q ∧ n < 65536
 | none => e = .returned (.tuple #[.int .u32 0, .bool false])
set_option maxHeartbeats 800000 in
theorem hex_any {g : Nat} {A : Option Addr} {c : Nat} {l r : Bytes} {w : World} (hR : MR w g A c l r) :
  Calls Tryz.prog 103 #[.pointer (some ⟨g, 0, none⟩)] w (HexAt g A c l (hexN 4 0 r) w) := by
 obtain ⟨i, hR, hi⟩ := hR
 have HI := Lib.hid hi
 have HR := Lib.hid hR
 clear hR hi
 go_enter Tryz.func103, Tryz.ntmps103
 go_wp2
 go_loopg [4, 6] 4 (fun gk v4 v6 wr => HexRel g A c l (hexN 4 0 r) w v4 v6 gk wr)
 case atStart =>
  exact ⟨i, 0, 0, rfl, by omega, rfl, rfl, by omega, by simp, HR.out, by rw [HI.out], Only.refl _ _⟩
 case round =>
  obtain ⟨j, k, n, hgk, hk4, rfl, rfl, hn, hn3, hr, hT, ho⟩ := hrel
  have hl := hr.len
  have hj := hr.le
  obtain ⟨h0, h1, h3⟩ := hr.cells
  have HO := Lib.hid ho
  have HT := Lib.hid hT
  have HG := Lib.hid hgk
  clear ho hT hgk
  by_cases hk : k < 4
  ·have hkd : decide ((k : Int) < 4) = true := by simp; omega
   have hn3' : n < 4096 := by
    have : 16 ^ k ≤ 16 ^ 3 := Nat.pow_le_pow_right (by decide) (by omega)
    omega
   have HN3 := Lib.hid hn3
   have HK := Lib.hid (show 4 - k = (3 - k) + 1 by omega)
   clear hn3
   by_cases hlt : j < l.length
   ·obtain ⟨y, b, o, rfl, hd, hc⟩ := hr.at hlt
    obtain ⟨x, hx, hcall⟩ := idx_hex y
    have HC := Lib.hid hcall
    have HD := Lib.hid hd
    have HR' := Lib.hid hr
    have HL := Lib.hid (show j + 1 ≤ l.length from hlt)
    have hne : ((j : Int) == (l.length : Int)) = false := by simp; omega
    have hlt1 : decide (j < l.length) = true := by simp; omega
    obtain ⟨z, hz⟩ : ∃ z : Int, z = y.toNat := ⟨_, rfl⟩
    have HZ := Lib.hid hz
    rw [← hz] at hc
    clear hcall hd hr hz
    cases hy : hexD y with
    | none =>
     have hx0 : decide (x < 0) = true := by rw [hy] at hx; simpa [hexOk] using hx
     have HY := Lib.hid hy
     clear hx hy
     go_wp2
     go_quiet (fail)
     go_wp2
     go_quiet ((go_at_call 87; exact quiet_add_same (by have := HC.out; rw [← HZ.out] at this; exact this _)))
     go_wp2
     go_ret2
     have hs : hexN 4 0 r = none := by rw [← HT.out, HD.out, HK.out, hexN, HY.out]
     rw [hs]
     exact ⟨HO.out.drewN _, rfl⟩
    | some d =>
     have hx0 : 0 ≤ x ∧ x < 32 ∧ x.toNat % 16 = d := by rw [hy] at hx; simpa [hexOk, and_assoc] using hx
     obtain ⟨hx1, hx2, hx3⟩ := hx0
     have HX := Lib.hid hx3
     have hx0 : decide (x < 0) = false := by simp; omega
     have HY := Lib.hid hy
     clear hx hy hx3
     go_wp2
     go_quiet (fail)
     go_wp2
     go_quiet ((go_at_call 87; exact quiet_add_same (by have := HC.out; rw [← HZ.out] at this; exact this _)))
     go_wp2
     go_roundg (3 - k)
     case rel =>
      exact ⟨j + 1, k + 1, 16 * n + d, by omega, by omega, rfl, by rw [mhex_step hn3' hx1 hx2 HX.out], by have := hexD_lt HY.out; omega, by rw [Nat.pow_succ]; have := hexD_lt HY.out; have := HN3.out; omega, (HR'.out.drewN _).setAt _ HL.out, by rw [← HT.out, HD.out, HK.out, hexN, HY.out, show 4 - (k + 1) = 3 - k by omega], (HO.out.drewN _).setCell (fun _ => rfl) _⟩
     case measure => have := HG.out; omega
   ·obtain rfl : j = l.length := by omega
    go_wp2
    go_quiet (fail)
    go_wp2
    go_ret2
    have hs : hexN 4 0 r = none := by rw [← HT.out, HK.out, List.drop_length]; rfl
    rw [hs]
    exact ⟨HO.out.drewN _, rfl⟩
  ·obtain rfl : k = 4 := by omega
   have HR' := Lib.hid hr
   clear hr
   go_wp2
   go_ret2
   have hs : hexN 4 0 r = some (n, l.drop j) := by rw [← HT.out]; rfl
   rw [hs]
   exact ⟨HO.out, rfl, ⟨j, HR'.out, rfl⟩, hn⟩
structure GFacts (w : World) : Prop where
 size : 8 ≤ w.heap.size
 syn : ∃ T p, w.cell? ⟨4, 0, none⟩ = some (.iface T p)
 rng : ∃ T p, w.cell? ⟨5, 0, none⟩ = some (.iface T p)
 mx : ∃ m, w.cell? ⟨2, 0, none⟩ = some (.int .i64 m)
 utf : Lib.Utf8Tabs 0 1 w
 pow : Lib.TabIs Tryz.prog w "internal/strconv.uint64pow10" .u64 Lib.pow10Tab
def Gl (w : World) : Prop := ∃ w0, GFacts w0 ∧ 8 ≤ w.heap.size ∧ ∀ b, b < 8 → w.heap[b]? = w0.heap[b]?
theorem Gl.of {w : World} (h : GFacts w) : Gl w := ⟨w, h, h.size, fun _ _ => rfl⟩
theorem Gl.size {w : World} (h : Gl w) : 8 ≤ w.heap.size := by obtain ⟨_, _, h, _⟩ := h; exact h
theorem Gl.only {G : Nat → Prop} {w w' : World} (h : Gl w) (ho : Only G w w') (hg : ∀ b, b < 8 → ¬ G b) : Gl w' := by
 obtain ⟨w0, h1, h2, h3⟩ := h
 exact ⟨w0, h1, Nat.le_trans h2 ho.size, fun b hb => (ho.block b (by omega) (hg b hb)).trans (h3 b hb)⟩
theorem Gl.drewN {w : World} (h : Gl w) (n : Nat) : Gl (w.drewN n) := h
theorem Gl.alloc {w : World} (h : Gl w) (o : Obj) : Gl (w.alloc o) := h.only (G := fun _ => False) ((Only.refl _ _).alloc o) (fun _ _ => id)
theorem Gl.cell {w w0 : World} (h3 : ∀ b, b < 8 → w.heap[b]? = w0.heap[b]?) (b o : Nat) (hb : b < 8) : w.cell? ⟨b, o, none⟩ = w0.cell? ⟨b, o, none⟩ :=
 World.cell?_of_block (w := w0) (h3 b hb)
theorem Gl.syn {w : World} (h : Gl w) : ∃ T p, w.cell? ⟨4, 0, none⟩ = some (.iface T p) := by
 obtain ⟨w0, h1, h2, h3⟩ := h
 rw [Gl.cell h3 4 0 (by decide)]; exact h1.syn
theorem Gl.rng {w : World} (h : Gl w) : ∃ T p, w.cell? ⟨5, 0, none⟩ = some (.iface T p) := by
 obtain ⟨w0, h1, h2, h3⟩ := h
 rw [Gl.cell h3 5 0 (by decide)]; exact h1.rng
theorem Gl.mx {w : World} (h : Gl w) : ∃ m, w.cell? ⟨2, 0, none⟩ = some (.int .i64 m) := by
 obtain ⟨w0, h1, h2, h3⟩ := h
 rw [Gl.cell h3 2 0 (by decide)]; exact h1.mx
theorem Gl.utf {w : World} (h : Gl w) : Lib.Utf8Tabs 0 1 w := by
 obtain ⟨w0, h1, h2, h3⟩ := h
 refine ⟨fun c hc => ?_, fun i hi => ⟨?_, ?_⟩⟩
 ·rw [Gl.cell h3 0 _ (by decide)]; exact h1.utf.1 c hc
 ·rw [Gl.cell h3 1 _ (by decide)]; exact (h1.utf.2 i hi).1
 ·rw [Gl.cell h3 1 _ (by decide)]; exact (h1.utf.2 i hi).2
theorem Gl.pow {w : World} (h : Gl w) : Lib.TabIs Tryz.prog w "internal/strconv.uint64pow10" .u64 Lib.pow10Tab := by
 obtain ⟨w0, h1, h2, h3⟩ := h
 have e : Tryz.prog.globalNamed "internal/strconv.uint64pow10" = some 3 := by kernel_rfl
 have := h1.pow
 unfold Lib.TabIs World.var? at *
 rw [e] at *
 simp only [Option.bind_some] at *
 rw [h3 3 (by decide)]
 exact this
theorem Only.bytesWorld (G : Nat → Prop) (w : World) (e : TypeId) (s : ByteArray) : Only G w (Lib.bytesWorld w e s) := by
 unfold Lib.bytesWorld
 have h1 : Only G w (w.drew.alloc (.cells (Lib.bytesCells w e s) e)) := (Only.refl _ _).drew.alloc _
 unfold World.freeze
 rw [if_neg (by decide)]
 refine ⟨h1.os, h1.tape, h1.output, by simp, fun k hk hg => ?_⟩
 rw [← h1.block k hk hg]
 simp only [Array.getElem?_modify]
 rw [if_neg (by omega)]
def noNum : Lib.NumEnd Nat := Lib.parseUintB 64 []
def Parse64 (t : ByteArray) (w : World) (e : Ending) (w' : World) : Prop := Only (fun _ => False) w w' ∧ match Lib.parseUintB 64 t.data.toList with
 | .ok u => e = .returned (.tuple #[.int .u64 u, .nilIface])
 | .range => ∃ N, e = .returned (.tuple #[.int .u64 18446744073709551615, .iface 250 (.pointer (some ⟨N, 0, none⟩))])
 | _ => ∃ N, e = .returned (.tuple #[.int .u64 0, .iface 250 (.pointer (some ⟨N, 0, none⟩))])
theorem parse64 {t : ByteArray} {w : World} (hG : Gl w) (ht : t.size ≤ 2 ^ 40) : Calls Tryz.prog 107 #[.string t, .int .i64 10, .int .i64 64] w (Parse64 t w) := by
 cases h : Lib.parseUintB 64 t.data.toList with
 | ok u =>
  refine (Tryz.strconv_ParseUint_10_at64_ok t (by omega) u h w).mono ?_
  rintro e w' ⟨he, hw⟩
  refine ⟨?_, by rw [h]; exact he⟩
  rcases hw with rfl | rfl
  ·exact Only.refl _ _
  ·exact Only.bytesWorld _ _ _ _
 | range =>
  obtain ⟨T, p, hs⟩ := hG.rng
  refine (Tryz.strconv_ParseUint_10_at64_range t (by omega) h _ w hs (Or.inr ⟨T, p, rfl⟩)).mono ?_
  rintro e w' ⟨N, he, _, _, hb⟩
  exact ⟨Only.ofBelow hb, by rw [h]; exact ⟨N, he⟩⟩
 | _ =>
  obtain ⟨T, p, hs⟩ := hG.syn
  refine (Tryz.strconv_ParseUint_10_at64_syntax t (by omega) h _ w hs (Or.inr ⟨T, p, rfl⟩)).mono ?_
  rintro e w' ⟨N, he, _, _, hb⟩
  exact ⟨Only.ofBelow hb, by rw [h]; exact ⟨N, he⟩⟩
theorem dvFrom_ge (l : Bytes) : ∀ n, n ≤ dvFrom n l := by
 induction l with
 | nil => intro n; exact Nat.le_refl _
 | cons x l ih =>
  intro n
  have := ih (10 * n + (x.toNat - 48))
  unfold dvFrom at *
  simp only [List.foldl_cons]
  omega
theorem parseM_digits (l : Bytes) (h : ∀ x ∈ l, isDig x = true) : ∀ acc, acc ≤ 18446744073709551615 →
  Lib.parseUintM 18446744073709551615 acc l = if dvFrom acc l < big then .ok (dvFrom acc l) else .range := by
 induction l with
 | nil =>
  intro acc ha
  have : dvFrom acc [] = acc := rfl
  rw [this, if_pos (by unfold big; omega)]; rfl
 | cons x l ih =>
  intro acc ha
  have hx := h x (by simp)
  simp only [isDig, decide_eq_true_eq] at hx
  have e : dvFrom acc (x :: l) = dvFrom (10 * acc + (x.toNat - 48)) l := rfl
  have hg := dvFrom_ge l (10 * acc + (x.toNat - 48))
  unfold Lib.parseUintM
  rw [if_pos hx, e, Nat.mul_comm acc 10]
  split
  ·rw [if_neg (by unfold big; omega)]
  ·split
   ·rw [if_neg (by unfold big; omega)]
   ·exact ih (fun y hy => h y (by simp [hy])) _ (by omega)
theorem parseB_digits (l : Bytes) (h : ∀ x ∈ l, isDig x = true) : Lib.parseUintB 64 l = if l = [] then noNum else if dv l < big then .ok (dv l) else .range := by
 unfold Lib.parseUintB
 split
 ·rfl
 ·exact parseM_digits l h 0 (by omega)
end Go.Proofs.YtjehnejgojgahaaGreatDoor
