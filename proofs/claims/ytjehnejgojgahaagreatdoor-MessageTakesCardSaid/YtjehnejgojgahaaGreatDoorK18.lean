/-
  A part of the proof of MessageTakes: the texts E3 E4 E5 Q0 Q1.
-/
import Derived.Test.YtjehnejgojgahaaGreatDoorK07
import Derived.Test.YtjehnejgojgahaaGreatDoorK08
import Derived.Test.YtjehnejgojgahaaGreatDoorK16
import Derived.Test.YtjehnejgojgahaaGreatDoorK17
import Derived.Lib.EndianBits
import Derived.RangeFuncBox
namespace Go.Proofs.YtjehnejgojgahaaGreatDoor
open Go.RowKit
set_option linter.unusedVariables false
set_option linter.unusedSimpArgs false
open Go.RowKit Go.Shelf
attribute [local go_sem] Oper.semAt_some
def KeepsCells (W W' : World) : Prop := ∀ (k : Nat) (cs : Array Value) (T : TypeId) (fz : Nat × Nat), W.heap[k]? = some (Obj.cells cs T fz) → W'.heap[k]? = some (Obj.cells cs T fz)
theorem keepsCells_grown {W W' : World} {row : Option Nat} (h : W.grownBy W' row) (hr : ∀ r, row = some r → ∃ o : Obj, W.heap[r]? = some o ∧ o.isCells = false) : KeepsCells W W' := by
 intro k cs T fz hk
 have hlt := (Array.getElem?_eq_some_iff.1 hk).1
 obtain ⟨h1, h2, h3, h4, h5⟩ := h
 refine (h5 k hlt ?_).trans hk
 intro e
 obtain ⟨o, ho, hc⟩ := hr k (by first | exact e | exact e.symm)
 rw [hk] at ho
 cases ho
 simp [Obj.isCells] at hc
theorem isBuilderF_keep {T e : TypeId} {B b : Nat} {bs : List Value} {W W' : World} (h : Lib.IsBuilderF T e B b bs W) (k : KeepsCells W W') : Lib.IsBuilderF T e B b bs W' := by
 have one : ∀ {p}, Lib.BuilderAtF T e B b p bs W → Lib.BuilderAtF T e B b p bs W' := by
  rintro p ⟨hB, v, hb, hown, hne⟩
  refine ⟨hB, v, k _ _ _ _ hb, ⟨hown.1, ?_⟩, hne⟩
  rcases hown.2 with hn | ⟨g, cap, cur, fz, hv, hg, hh, r⟩
  ·exact .inl hn
  ·exact .inr ⟨g, cap, cur, fz, hv, hg, k _ _ _ _ hh, r⟩
 exact h.elim (fun x => .inl (one x)) (fun x => .inr (one x))
def chunkT (l : Bytes) (k : Nat) : Bytes := put64 ((l.drop (3 * k)).take 3)
theorem put64_chunks : ∀ l : Bytes, put64 l = (List.range ((l.length + 2) / 3)).flatMap (chunkT l) := by
 intro l
 induction l using put64.induct with
 | case1 => rfl
 | case2 a => rw [show (List.length [a] + 2) / 3 = 1 by simp]; simp [chunkT]
 | case3 a b => rw [show (List.length [a, b] + 2) / 3 = 1 by simp]; simp [chunkT]
 | case4 a b c t ih =>
  have h : (List.length (a :: b :: c :: t) + 2) / 3 = (t.length + 2) / 3 + 1 := by simp only [List.length_cons]; omega
  have e : ∀ k, chunkT (a :: b :: c :: t) (k + 1) = chunkT t k := by
   intro k; unfold chunkT; rw [show 3 * (k + 1) = 3 * k + 1 + 1 + 1 by omega]; rfl
  rw [h, List.range_succ_eq_map, List.flatMap_cons, List.flatMap_map]
  have e2 : (fun k => chunkT (a :: b :: c :: t) (Nat.succ k)) = chunkT t := by funext k; exact e k
  rw [show (fun k => chunkT (a :: b :: c :: t) (k.succ)) = chunkT t from e2, ← ih]
  rfl
theorem chunk_stops (n : Nat) (hn : 1 ≤ n) (Bs Bn b o m cap : Nat) (hm : m ≤ cap) (hcap : m ≤ 1000000000000) (w : World) (hs : w.heap[Bs]? = some (.cells #[.slice (some ⟨b, o, none⟩) m cap] 22 (0, 0))) (hb : w.heap[Bn]? = some (.cells #[.int .i64 3] 3 (0, 0))) :
  SeqStopsK Fence.wide n Tryz.prog 124 #[.pointer (some ⟨Bs, 0, none⟩), .pointer (some ⟨Bn, 0, none⟩)] (fun x : Fin ((m + 2) / 3) => #[chunkV b o m x]) (KpC Bs Bn) (fun ys => ys.map (·.val) = List.range ((m + 2) / 3)) (fun _ => True) ((m + 2) / 3) w := fun l J Jx W hW hJ hJx hY h0 => by
 have hBs := (Array.getElem?_eq_some_iff.1 hs).1
 have hBn := (Array.getElem?_eq_some_iff.1 hb).1
 have c1 : W.cell? ⟨Bs, 0, none⟩ = some (.slice (some ⟨b, o, none⟩) m cap) := by
  unfold World.cell?; rw [hW.block Bs hBs, hs]; rfl
 have c2 : W.cell? ⟨Bn, 0, none⟩ = some (.int .i64 3) := by
  unfold World.cell?; rw [hW.block Bn hBn, hb]; rfl
 refine (chunk1_in n hn l Bs Bn b o m cap hm hcap (fun pre W => ∃ pre' : List (Fin ((m + 2) / 3)), pre'.map (·.val) = pre ∧ J pre' W) (fun pre W => ∃ pre' : List (Fin ((m + 2) / 3)), pre'.map (·.val) = pre ∧ Jx pre' W) ?_ ?_ W c1 c2 ⟨[], rfl, h0⟩).mono ?_
 ·rintro s A k ⟨p, hp, hj⟩
  exact ⟨p, hp, hJ p A (A.drewN k) none hj ⟨rfl, rfl, rfl, Nat.le_refl _, fun _ _ _ => rfl⟩ (fun r e => by cases e)⟩
 ·rintro pre x W1 ⟨p, rfl, hj⟩ hx hlt
  have hpl : p.length = x := by rw [hx, List.length_map]
  refine (hY p ⟨x, by omega⟩ W1 hj (by omega)).mono ?_
  rintro e W' (⟨he, hj', hk⟩ | ⟨he, hj'⟩)
  ·exact .inl ⟨he, ⟨_, by simp, hj'⟩, hk⟩
  ·exact .inr ⟨he, ⟨_, by simp, hj'⟩⟩
 ·rintro e W' ⟨he, ⟨ys, rfl, p, hp, hj⟩ | ⟨pre, ⟨k, hk, rfl⟩, p, hp, hj⟩⟩
  ·exact ⟨he, .inl ⟨p, by show List.map _ p = _; rw [hp]; simp [upto], hj⟩⟩
  ·exact ⟨he, .inr ⟨p, trivial, hj⟩⟩
structure PutI (w : World) (D Bs Bn b o m cap : Nat) (l : Bytes) (pre : List (Fin ((m + 2) / 3))) (W : World) : Prop where
 bld : Lib.IsBuilderF 187 5 w.heap.size w.heap.size (Lib.byteCells (pre.flatMap fun k => chunkT l k.val)) W
 low : Below w.heap.size w W
 big : D ≤ W.heap.size
 s : W.heap[Bs]? = some (.cells #[.slice (some ⟨b, o, none⟩) m cap] 22 (0, 0))
 n : W.heap[Bn]? = some (.cells #[.int .i64 3] 3 (0, 0))
theorem PutI.own {w : World} {D Bs Bn b o m cap : Nat} {l : Bytes} (hD : w.heap.size ≤ D) : OwnFrom D (PutI w D Bs Bn b o m cap l) := by
 rintro pre W W' row h hg hr
 have hk : KeepsCells W W' := keepsCells_grown hg (fun r e => (hr r e).2)
 exact ⟨isBuilderF_keep h.bld hk, h.low.trans ⟨hg.os, hg.tape, hg.output, hg.size, fun k hlt => hg.block k (Nat.lt_of_lt_of_le hlt h.low.size) (by intro e; have := (hr k (by first | exact e | exact e.symm)).1; omega)⟩, Nat.le_trans h.big hg.size, hk _ _ _ _ h.s, hk _ _ _ _ h.n⟩
structure RoundI (w W : World) (out : Bytes) (wr : World) : Prop where
 bld : Lib.IsBuilderF 187 5 w.heap.size w.heap.size (Lib.byteCells out) wr
 low : Below w.heap.size w wr
 kept : Lib.OthersKept 5 (some w.heap.size) W wr
 grow : W.heap.size ≤ wr.heap.size
def digP (s N j : Nat) : UInt8 := if s < j then 61 else dig N j
theorem put64_pad {ch : Bytes} {s : Nat} {p0 p1 p2 : UInt8} (hl : ch.length = s) (hs : s = 1 ∨ s = 2 ∨ s = 3) (hp : ch ++ List.replicate (3 - s) 0 = [p0, p1, p2]) :
  put64 ch = [digP s (p0.toNat * 65536 + p1.toNat * 256 + p2.toNat) 0, digP s (p0.toNat * 65536 + p1.toNat * 256 + p2.toNat) 1, digP s (p0.toNat * 65536 + p1.toNat * 256 + p2.toNat) 2, digP s (p0.toNat * 65536 + p1.toNat * 256 + p2.toNat) 3] := by
 rcases hs with rfl | rfl | rfl
 ·match ch, hl with
  | [a], _ =>
   simp at hp
   obtain ⟨rfl, rfl, rfl⟩ := hp
   simp [put64, digP]
 ·match ch, hl with
  | [a, b], _ =>
   simp at hp
   obtain ⟨rfl, rfl, rfl⟩ := hp
   simp [put64, digP]
 ·match ch, hl with
  | [a, b, c], _ =>
   simp at hp
   obtain ⟨rfl, rfl, rfl⟩ := hp
   simp [put64, digP]
theorem RoundI.write {w W wr wr' : World} {out : Bytes} {c : UInt8} (h : RoundI w W out wr) (hb : Lib.BuilderAtF 187 5 w.heap.size w.heap.size (.pointer (some ⟨w.heap.size, 0, none⟩)) (Lib.byteCells out ++ [.int .u8 c.toNat]) wr') (hl : Below w.heap.size wr wr')
  (hk : Lib.OthersKept 5 (some w.heap.size) wr wr') : RoundI w W (out ++ [c]) wr' :=
 ⟨.inr (by simpa [Lib.byteCells] using hb), h.low.trans hl, h.kept.trans hk, Nat.le_trans h.grow hl.size⟩
theorem letters_at : ∀ i : Nat, (h : i < 64) → (⟨#[65, 66, 67, 68, 69, 70, 71, 72, 73, 74, 75, 76, 77, 78, 79, 80, 81, 82, 83, 84, 85, 86, 87, 88, 89, 90, 97, 98, 99, 100, 101, 102, 103, 104, 105, 106, 107, 108, 109, 110, 111, 112, 113, 114, 115, 116, 117, 118, 119, 120, 121, 122, 48, 49, 50, 51, 52, 53, 54, 55, 56, 57, 43, 47]⟩ : ByteArray)[i]'(by show i < 64; exact h) = let6 i := by decide +kernel
theorem chunkT_length (l : Bytes) (k : Nat) : (chunkT l k).length ≤ 4 := by
 unfold chunkT
 rw [put64_length, List.length_take]
 omega
theorem flat_length {α : Type} (f : α → Bytes) (h : ∀ a, (f a).length ≤ 4) : ∀ p : List α, (p.flatMap f).length ≤ 4 * p.length
 | [] => by simp
 | a :: p => by
  rw [List.flatMap_cons, List.length_append, List.length_cons]
  have := flat_length f h p
  have := h a
  omega
def PutAt (l : Bytes) (w : World) (e : Ending) (w' : World) : Prop := Only (fun _ => False) w w' ∧ e = .returned (txt (put64 l))
set_option maxRecDepth 100000 in
set_option maxHeartbeats 2000000 in
theorem put_some {b o c : Nat} {l : Bytes} {w : World} (hB : BytesAt w (some ⟨b, o, none⟩) l) (hcap : l.length ≤ c) (hl : l.length ≤ 1000000000) (h0 : 0 < l.length) :
  Calls Tryz.prog 79 #[.slice (some ⟨b, o, none⟩) l.length c] w (PutAt l w) := by
 refine (callsIn_wide (n := 6)).1 ?_
 have HB := Lib.hid hB
 have HCAP := Lib.hid hcap
 have HL := Lib.hid hl
 obtain ⟨m, hm⟩ : ∃ m, m = l.length := ⟨_, rfl⟩
 rw [← hm]
 have HM := Lib.hid hm
 clear hB hcap hl h0 hm
 refine callsIn_of_wp_marks Tryz.func79 rfl trivial ?_ rfl
 simp only [Tryz.ntmps79, List.size_toArray, List.length_cons, List.length_nil, Nat.reduceAdd, Nat.reduceSub, Array.replicate_succ, Array.replicate_zero, List.push_toArray, List.append_toArray, List.nil_append, List.cons_append]
 gi_wp2_with (refine ⟨trivial, ?_⟩; gi_at_call 100; refine (callsIn_wide.2 (chunk_any _ _ _ _)).mono ?_; rintro e w' ⟨rfl, rfl⟩)
 obtain ⟨H, hH⟩ : ∃ H, H = w.heap.size := ⟨_, rfl⟩
 obtain ⟨w2, hw2⟩ : ∃ w2, ((w.alloc (Obj.cells #[.pointer none, .slice none 0 0] 187)).alloc (.cells #[.slice (some ⟨b, o, none⟩) m c] 22)).alloc (.cells #[.int .i64 3] 3) = w2 := ⟨_, rfl⟩
 have hsz : w2.heap.size = H + 3 := by rw [← hw2, hH]; simp
 have h1 : w2.heap[H]? = some (.cells #[.pointer none, .slice none 0 0] 187 (0, 0)) := by
  rw [← hw2, hH, Below.heap_alloc _ _ _ (by simp; omega), Below.heap_alloc _ _ _ (by simp)]; exact World.alloc_heap_new _ _
 have h2 : w2.heap[H + 1]? = some (.cells #[.slice (some ⟨b, o, none⟩) m c] 22 (0, 0)) := by
  rw [← hw2, Below.heap_alloc _ _ _ (by simp; omega)]
  have := World.alloc_heap_new (w.alloc (Obj.cells #[.pointer none, .slice none 0 0] 187)) (.cells #[.slice (some ⟨b, o, none⟩) m c] 22)
  rw [World.size_alloc, ← hH] at this; exact this
 have h3 : w2.heap[H + 2]? = some (.cells #[.int .i64 3] 3 (0, 0)) := by
  rw [← hw2]
  have := World.alloc_heap_new ((w.alloc (Obj.cells #[.pointer none, .slice none 0 0] 187)).alloc (.cells #[.slice (some ⟨b, o, none⟩) m c] 22)) (.cells #[.int .i64 3] 3)
  rw [World.size_alloc, World.size_alloc, ← hH] at this; exact this
 have hlow : Below w.heap.size w w2 := by
  rw [← hw2]; exact (((Below.refl _ w).alloc (Nat.le_refl _) _).alloc (by simp) _).alloc (by simp; omega) _
 rw [hw2, ← hH]
 have hI0 : PutI w (H + 3) (H + 1) (H + 2) b o m c l [] w2 :=
  ⟨by rw [← hH]; exact .inl ⟨Nat.le_refl _, _, h1, ⟨rfl, .inl ⟨rfl, rfl⟩⟩, by simp [Value.ownBlock]⟩, hlow, by omega, h2, h3⟩
 have hw2s := hsz
 refine wpIn_rangeFunc_ownG (F := Fence.wide) rfl (by omega) (gf := 124) (lb := #[.pointer (some ⟨H + 1, 0, none⟩), .pointer (some ⟨H + 2, 0, none⟩)]) rfl trivial (enters_of Tryz.func124 (by kernel_rfl) rfl)
  (chunk_stops 5 (by omega) (H + 1) (H + 2) b o m c (by have := HM.out; have := HCAP.out; omega) (by have := HL.out; have := HM.out; omega) w2 h2 h3) (fun h k => h.trans k)
  (fun W k oo oo' hk _ _ _ i hi => World.putObj_heap_other (by rcases hi with rfl | rfl <;> omega)) (Below.refl _ _) (fun _ => rfl)
  (PutI w (H + 3) (H + 1) (H + 2) b o m c l) (fun _ _ _ => False) (by rw [hsz]; exact PutI.own (by omega)) (fun _ _ _ _ _ hs _ _ => hs) hI0
  (fun x => { tmps := #[.slice (some ⟨b, o, none⟩) m c, undef, .string ⟨#[]⟩, .pointer (some ⟨H, 0, none⟩), chunkV b o m x, undef, undef, undef, .slice (some ⟨b, o, none⟩) m c, .func (.func 124) #[] #[.pointer (some ⟨H + 1, 0, none⟩), .pointer (some ⟨H + 2, 0, none⟩)], chunkV b o m x, undef, undef, undef, undef, undef, undef, undef, undef, undef, undef, undef, undef, undef, undef, undef, undef, undef, undef, undef, undef, undef, undef, undef, undef, undef, undef, undef, undef, undef, undef, undef, undef, undef, undef], defers := [] }) ?assign ?body ?done ?stop
 case assign =>
  intro l x W K hK
  gi_wp2
  rw [hH] at hK
  exact hK
 case body =>
  rintro lp pre x W hi hlt
  have hx := x.isLt
  obtain ⟨k, hk⟩ : ∃ k, k = x.val := ⟨_, rfl⟩
  have h3k : 3 * k < m := by omega
  have hbl : BytesAt W (some ⟨b, o, none⟩) l := HB.out.only (Only.ofBelow (G := fun _ => False) hi.low) (fun _ _ _ => id)
  obtain ⟨s, hs⟩ : ∃ s : Nat, s = min 3 (m - 3 * k) := ⟨_, rfl⟩
  have e1 : (fun x : Fin ((m + 2) / 3) => chunkV b o m x) x = .slice (some ⟨b, o + 3 * k, none⟩) s s := by simp only [chunkV]; rw [← hk, ← hs]
  simp only at e1
  rw [e1]
  have hc : ∀ j, j < s → ∃ y : UInt8, ((l.drop (3 * k)).take 3)[j]? = some y ∧ W.cell? ⟨b, o + 3 * k + j, none⟩ = some (.int .u8 y.toNat) := by
   intro j hj
   have hm := HM.out
   have hjl : 3 * k + j < l.length := by omega
   obtain ⟨b', o', e, hcc⟩ := hbl (3 * k + j) _ (List.getElem?_eq_getElem hjl)
   cases e
   refine ⟨l[3 * k + j], ?_, by rw [Nat.add_assoc]; exact hcc⟩
   rw [List.getElem?_take, if_pos (by omega), List.getElem?_drop]
   exact List.getElem?_eq_getElem hjl
  have hsl : ((l.drop (3 * k)).take 3).length = s := by
   have hm := HM.out
   rw [List.length_take, List.length_drop, hs, hm]
  have hs3 : s = 1 ∨ s = 2 ∨ s = 3 := by omega
  obtain ⟨ch, hch⟩ : ∃ ch, ch = (l.drop (3 * k)).take 3 := ⟨_, rfl⟩
  have hct : chunkT l x.val = put64 ch := by unfold chunkT; rw [← hk, ← hch]
  rw [← hch] at hc hsl
  have HI := Lib.hid hi
  have HCT := Lib.hid hct
  have HDZ := Lib.hid hw2s
  have HLN := Lib.hid (show ∀ j, (Lib.byteCells (List.flatMap (fun k => chunkT l k.val) pre ++ (put64 ch).take j)).length + 1 ≤ 140737488355328 by
   intro j
   have h4 := flat_length (fun k : Fin ((m + 2) / 3) => chunkT l k.val) (fun a => chunkT_length l a.val) pre
   have h5 := put64_length ch
   have hl5 := HL.out
   have hm5 := HM.out
   rw [Lib.byteCells_length, List.length_append, List.length_take, h5, hsl]
   omega)
  clear hs hbl hi hct hw2s hch e1 h3k h3 hlt hx hI0 h1 h2 hlow hsz hw2
  subst hH
  clear hk
  have hsrc : ∀ j v, (u8s ch)[j]? = some v → W.cell? ((⟨b, o + 3 * k, none⟩ : Addr).add j) = some v := by
   intro j v hv
   have hjl : j < s := by
    have := (List.getElem?_eq_some_iff.1 hv).1
    rw [u8s_length] at this; omega
   obtain ⟨y, hy, hcc⟩ := hc j hjl
   unfold u8s at hv
   rw [List.getElem?_map, hy] at hv
   simp only [Option.map_some, Option.some.injEq] at hv
   rw [← hv]
   unfold Addr.add
   by_cases h0 : j = 0
   ·subst h0; simpa using hcc
   ·rw [if_neg h0]; exact hcc
  obtain ⟨W1, hcp, hB1, hW1⟩ : ∃ W1, (Builtin.copy_ #[22, 22] 3 #[.slice (some ⟨W.heap.size, 0, none⟩) 3 3, .slice (some ⟨b, o + 3 * k, none⟩) s s]).run Tryz.prog (W.alloc (.cells #[.int .u8 0, .int .u8 0, .int .u8 0] 191)) = .ok (.int .i64 s) W1 ∧
    Blk W1 W.heap.size (u8s (ch ++ List.replicate (3 - s) 0)) 191 ∧ Only (fun _ => False) W W1 := by
   have hb0 : (W.alloc (Obj.cells #[.int .u8 0, .int .u8 0, .int .u8 0] 191)).heap[W.heap.size]? = some (.cells #[.int .u8 0, .int .u8 0, .int .u8 0] 191 (0, 0)) := World.alloc_heap_new _ _
   refine ⟨(W.alloc (.cells #[.int .u8 0, .int .u8 0, .int .u8 0] 191)).setRow W.heap.size (u8s (ch ++ List.replicate (3 - s) 0)).toArray, ?_, ?_, ?_⟩
   rotate_left 1
   ·show (World.setRow _ _ _).heap[_]? = _
    unfold World.setRow
    rw [Array.getElem?_modify, if_pos rfl, hb0]
    rfl
   ·exact ((Only.refl _ W).alloc _).setRow (fun h => by omega)
   ·have := run_copy_row (P := Tryz.prog) (W.alloc (.cells #[.int .u8 0, .int .u8 0, .int .u8 0] 191)) 22 22 3 5 W.heap.size 0 3 3 ⟨b, o + 3 * k, none⟩ s s _ 191 (u8s ch) Tryz.underlying22 (by kernel_rfl) hb0
     (by rw [u8s_length, hsl]; rcases hs3 with rfl | rfl | rfl <;> rfl) (fun j v hv => by
      have h1 := hsrc j v hv
      exact ((Only.refl (fun _ => False) W).alloc _).cell h1 id) (by rw [u8s_length, hsl]; simp; omega) (fun v hv => List.all_eq_true.1 (u8s_one ch) v hv)
    rw [this]
    congr 1
    ·rw [u8s_length, hsl]; rfl
    ·congr 1
     rw [u8s_length, hsl]
     unfold u8s
     rcases hs3 with rfl | rfl | rfl <;> simp
  obtain ⟨p0, p1, p2, hpad⟩ : ∃ p0 p1 p2 : UInt8, ch ++ List.replicate (3 - s) 0 = [p0, p1, p2] := by
   have hl3 : (ch ++ List.replicate (3 - s) (0 : UInt8)).length = 3 := by rw [List.length_append, List.length_replicate, hsl]; omega
   match hq : ch ++ List.replicate (3 - s) (0 : UInt8), hl3 with
   | [p0, p1, p2], _ => exact ⟨p0, p1, p2, rfl⟩
  rw [hpad] at hB1
  have hc0 : W1.cell? ⟨W.heap.size, 0, none⟩ = some (.int .u8 p0.toNat) := hB1.cell 0 rfl
  have hc1 : W1.cell? ⟨W.heap.size, 1, none⟩ = some (.int .u8 p1.toNat) := hB1.cell 1 rfl
  have hc2 : W1.cell? ⟨W.heap.size, 2, none⟩ = some (.int .u8 p2.toNat) := hB1.cell 2 rfl
  have HW1 := Lib.hid hW1
  have HB1 := Lib.hid hB1
  have HPAD := Lib.hid hpad
  have HSL := Lib.hid hsl
  have HS3 := Lib.hid hs3
  have hp0 := p0.toNat_lt
  have hp1 := p1.toNat_lt
  have hp2 := p2.toNat_lt
  clear hsrc hc hB1 hW1 hpad hsl hs3
  obtain ⟨N, hN⟩ : ∃ N, N = p0.toNat * 65536 + p1.toNat * 256 + p2.toNat := ⟨_, rfl⟩
  have hpp : (p0.toNat : Int) < 256 ∧ (p1.toNat : Int) < 256 ∧ (p2.toNat : Int) < 256 := by omega
  have q1 : bits .or .u32 (bits .or .u32 ((p0.toNat : Int) * 65536) ((p1.toNat : Int) * 256)) (p2.toNat : Int) = (N : Int) := by
   have qa : bits .or .u32 ((p0.toNat : Int) * 65536) ((p1.toNat : Int) * 256) = (p0.toNat : Int) * 65536 + (p1.toNat : Int) * 256 :=
    bits_join .u32 32 (by decide) wraps_u32 16 _ _ (by omega) (by omega) (by omega) (by omega) (by omega) (by omega)
   rw [qa, bits_join .u32 32 (by decide) wraps_u32 8 _ _ (by omega) (by omega) (by omega) (by omega) (by omega) (by omega), hN]
   omega
  have hN24 : N < 16777216 := by omega
  have qm : ∀ D : Nat, 0 < D → bits .and .u32 ((N : Int) / (D : Int)) 63 = ((N / D % 64 : Nat) : Int) := by
   intro D hD
   have h1 : (N : Int) / (D : Int) = ((N / D : Nat) : Int) := by norm_cast
   have h2 : N / D ≤ N := Nat.div_le_self _ _
   rw [h1]
   generalize N / D = q at h2 ⊢
   have := bits_mask .u32 32 (by decide) wraps_u32 6 (by decide) ((q : Nat) : Int) (by omega) (by omega)
   rw [show ((2 : Int) ^ 6 - 1) = 63 by decide] at this
   rw [this]; norm_cast
  have d0 : bits .and .u32 ((N : Int) / 262144) 63 = ((N / 262144 % 64 : Nat) : Int) := qm 262144 (by decide)
  have d1 : bits .and .u32 ((N : Int) / 4096) 63 = ((N / 4096 % 64 : Nat) : Int) := qm 4096 (by decide)
  have d2 : bits .and .u32 ((N : Int) / 64) 63 = ((N / 64 % 64 : Nat) : Int) := qm 64 (by decide)
  have d3 : bits .and .u32 (N : Int) 63 = ((N % 64 : Nat) : Int) := by have := qm 1 (by decide); simpa using this
  have HD0 := Lib.hid d0
  have HD1 := Lib.hid d1
  have HD2 := Lib.hid d2
  have HD3 := Lib.hid d3
  clear d0 d1 d2 d3 qm hN24
  have HN := Lib.hid hN
  clear hN
  gi_wp2
  clear q1
  gi_loopw [27] (fun i wr => ∃ j : Nat, j ≤ 4 ∧ i = .int .i64 (j : Int) ∧ RoundI w W (pre.flatMap (fun k => chunkT l k.val) ++ (put64 ch).take j) wr) (fun i _ => 4 - (intOf i).toNat)
  case atStart => exact ⟨0, by omega, rfl, by
   rw [List.take_zero, List.append_nil]
   have hi := HI.out
   refine ⟨isBuilderF_keep hi.bld ?_, hi.low.trans ⟨HW1.out.os, HW1.out.tape, HW1.out.output, HW1.out.size, fun i hlt => HW1.out.block i (Nat.lt_of_lt_of_le hlt hi.low.size) id⟩, ?_, HW1.out.size⟩
   ·intro i cs T fz hi; exact (HW1.out.block i (Array.getElem?_eq_some_iff.1 hi).1 id).trans hi
   ·intro i ob hi _ _; exact (HW1.out.block i (Array.getElem?_eq_some_iff.1 hi).1 id).trans hi⟩
  case round =>
   obtain ⟨j, hj, rfl, hr⟩ := hrel
   have hpt := put64_pad HSL.out HS3.out HPAD.out
   rw [← HN.out] at hpt
   have HPT := Lib.hid hpt
   have HR := Lib.hid hr
   clear hr hpt
   have hj5 : j = 0 ∨ j = 1 ∨ j = 2 ∨ j = 3 ∨ j = 4 := by omega
   rcases hj5 with rfl | rfl | rfl | rfl | rfl
   ·have hsj : ¬ s < 0 := by omega
    ·have qs : decide ((s : Int) < (0 : Int)) = false := by simp
     have hb0 : N / 262144 % 64 < 64 := Nat.mod_lt _ (by decide)
     have HB0 := Lib.hid hb0
     have hd0 := HD0.out
     have HSJ := Lib.hid hsj
     clear hsj
     gi_wp2_with (refine ⟨trivial, ?_⟩; gi_at_call 101; refine (CallsIn.inRound lp (callsIn_wide.2 (Tryz.Builder_WriteByte_k w.heap.size _ _ _ _ HR.out.bld (HLN.out 0) HR.out.low.size))).mono ?_; rintro e w3 ⟨rfl, hb3, hl3, hk3⟩; have HW3 := Lib.hid (HR.out.write (c := digP s N 0) (by have e : digP s N 0 = dig N 0 := if_neg HSJ.out; rw [e]; have e2 := letters_at (N / 262144 % 64) HB0.out; rw [e2] at hb3; exact hb3) hl3 hk3); clear hb3 hl3 hk3)
     go_roundw
     case rel => exact ⟨1, by omega, rfl, by have h := HW3.out; rw [HPT.out] at h ⊢; simpa using h⟩
     case measure => simp [intOf]
   ·by_cases hsj : s < 1
    ·have qs : decide ((s : Int) < (1 : Int)) = true := by simp; omega
     have HSJ := Lib.hid hsj
     clear hsj
     gi_wp2_with (refine ⟨trivial, ?_⟩; gi_at_call 101; refine (CallsIn.inRound lp (callsIn_wide.2 (Tryz.Builder_WriteByte_k w.heap.size _ _ _ _ HR.out.bld (HLN.out 1) HR.out.low.size))).mono ?_; rintro e w3 ⟨rfl, hb3, hl3, hk3⟩; have HW3 := Lib.hid (HR.out.write (c := digP s N 1) (by have e : digP s N 1 = 61 := if_pos HSJ.out; rw [e]; exact hb3) hl3 hk3); clear hb3 hl3 hk3)
     go_roundw
     case rel => exact ⟨2, by omega, rfl, by have h := HW3.out; rw [HPT.out] at h ⊢; simpa using h⟩
     case measure => simp [intOf]
    ·have qs : decide ((s : Int) < (1 : Int)) = false := by simp; omega
     have hb0 : N / 4096 % 64 < 64 := Nat.mod_lt _ (by decide)
     have HB0 := Lib.hid hb0
     have hd0 := HD1.out
     have HSJ := Lib.hid hsj
     clear hsj
     gi_wp2_with (refine ⟨trivial, ?_⟩; gi_at_call 101; refine (CallsIn.inRound lp (callsIn_wide.2 (Tryz.Builder_WriteByte_k w.heap.size _ _ _ _ HR.out.bld (HLN.out 1) HR.out.low.size))).mono ?_; rintro e w3 ⟨rfl, hb3, hl3, hk3⟩; have HW3 := Lib.hid (HR.out.write (c := digP s N 1) (by have e : digP s N 1 = dig N 1 := if_neg HSJ.out; rw [e]; have e2 := letters_at (N / 4096 % 64) HB0.out; rw [e2] at hb3; exact hb3) hl3 hk3); clear hb3 hl3 hk3)
     go_roundw
     case rel => exact ⟨2, by omega, rfl, by have h := HW3.out; rw [HPT.out] at h ⊢; simpa using h⟩
     case measure => simp [intOf]
   ·by_cases hsj : s < 2
    ·have qs : decide ((s : Int) < (2 : Int)) = true := by simp; omega
     have HSJ := Lib.hid hsj
     clear hsj
     gi_wp2_with (refine ⟨trivial, ?_⟩; gi_at_call 101; refine (CallsIn.inRound lp (callsIn_wide.2 (Tryz.Builder_WriteByte_k w.heap.size _ _ _ _ HR.out.bld (HLN.out 2) HR.out.low.size))).mono ?_; rintro e w3 ⟨rfl, hb3, hl3, hk3⟩; have HW3 := Lib.hid (HR.out.write (c := digP s N 2) (by have e : digP s N 2 = 61 := if_pos HSJ.out; rw [e]; exact hb3) hl3 hk3); clear hb3 hl3 hk3)
     go_roundw
     case rel => exact ⟨3, by omega, rfl, by have h := HW3.out; rw [HPT.out] at h ⊢; simpa using h⟩
     case measure => simp [intOf]
    ·have qs : decide ((s : Int) < (2 : Int)) = false := by simp; omega
     have hb0 : N / 64 % 64 < 64 := Nat.mod_lt _ (by decide)
     have HB0 := Lib.hid hb0
     have hd0 := HD2.out
     have HSJ := Lib.hid hsj
     clear hsj
     gi_wp2_with (refine ⟨trivial, ?_⟩; gi_at_call 101; refine (CallsIn.inRound lp (callsIn_wide.2 (Tryz.Builder_WriteByte_k w.heap.size _ _ _ _ HR.out.bld (HLN.out 2) HR.out.low.size))).mono ?_; rintro e w3 ⟨rfl, hb3, hl3, hk3⟩; have HW3 := Lib.hid (HR.out.write (c := digP s N 2) (by have e : digP s N 2 = dig N 2 := if_neg HSJ.out; rw [e]; have e2 := letters_at (N / 64 % 64) HB0.out; rw [e2] at hb3; exact hb3) hl3 hk3); clear hb3 hl3 hk3)
     go_roundw
     case rel => exact ⟨3, by omega, rfl, by have h := HW3.out; rw [HPT.out] at h ⊢; simpa using h⟩
     case measure => simp [intOf]
   ·by_cases hsj : s < 3
    ·have qs : decide ((s : Int) < (3 : Int)) = true := by simp; omega
     have HSJ := Lib.hid hsj
     clear hsj
     gi_wp2_with (refine ⟨trivial, ?_⟩; gi_at_call 101; refine (CallsIn.inRound lp (callsIn_wide.2 (Tryz.Builder_WriteByte_k w.heap.size _ _ _ _ HR.out.bld (HLN.out 3) HR.out.low.size))).mono ?_; rintro e w3 ⟨rfl, hb3, hl3, hk3⟩; have HW3 := Lib.hid (HR.out.write (c := digP s N 3) (by have e : digP s N 3 = 61 := if_pos HSJ.out; rw [e]; exact hb3) hl3 hk3); clear hb3 hl3 hk3)
     go_roundw
     case rel => exact ⟨4, by omega, rfl, by have h := HW3.out; rw [HPT.out] at h ⊢; simpa using h⟩
     case measure => simp [intOf]
    ·have qs : decide ((s : Int) < (3 : Int)) = false := by simp; omega
     have hb0 : N % 64 < 64 := Nat.mod_lt _ (by decide)
     have HB0 := Lib.hid hb0
     have hd0 := HD3.out
     have HSJ := Lib.hid hsj
     clear hsj
     gi_wp2_with (refine ⟨trivial, ?_⟩; gi_at_call 101; refine (CallsIn.inRound lp (callsIn_wide.2 (Tryz.Builder_WriteByte_k w.heap.size _ _ _ _ HR.out.bld (HLN.out 3) HR.out.low.size))).mono ?_; rintro e w3 ⟨rfl, hb3, hl3, hk3⟩; have HW3 := Lib.hid (HR.out.write (c := digP s N 3) (by have e : digP s N 3 = let6 (N % 64) := (by unfold digP; rw [if_neg HSJ.out]; unfold dig; simp); rw [e]; have e2 := letters_at (N % 64) HB0.out; rw [e2] at hb3; exact hb3) hl3 hk3); clear hb3 hl3 hk3)
     go_roundw
     case rel => exact ⟨4, by omega, rfl, by have h := HW3.out; rw [HPT.out] at h ⊢; simpa using h⟩
     case measure => simp [intOf]
   ·have HF := Lib.hid (show List.flatMap (fun k => chunkT l k.val) (pre ++ [x]) = List.flatMap (fun k => chunkT l k.val) pre ++ (put64 ch).take 4 by
     rw [List.flatMap_append, List.flatMap_cons, List.flatMap_nil, List.append_nil, HCT.out, HPT.out]; rfl)
    gi_wp2
    have hr := HR.out
    have hi := HI.out
    refine ⟨?_, ?_, ?_⟩
    ·refine ⟨hr.grow, fun k ob hk hh hc => hr.kept k ob hh ?_ ?_⟩
     ·intro e; cases e; have := HDZ.out; omega
     ·intro c fz e; rw [e] at hc; cases hc
    ·intro i hi2
     rcases hi2 with rfl | rfl
     ·exact (hr.kept _ _ hi.s (by simp) (by intro c fz h; cases h)).trans hi.s.symm
     ·exact (hr.kept _ _ hi.n (by simp) (by intro c fz h; cases h)).trans hi.n.symm
    ·exact ⟨by rw [HF.out]; exact hr.bld, hr.low, Nat.le_trans hi.big hr.grow, hr.kept _ _ hi.s (by simp) (by intro c fz h; cases h), hr.kept _ _ hi.n (by simp) (by intro c fz h; cases h)⟩
 case done =>
  rintro D ys W hD hS hi hK
  have hput : ys.flatMap (fun k => chunkT l k.val) = put64 l := by
   rw [put64_chunks, ← HM.out, ← (show ys.map (·.val) = _ from hS), List.flatMap_map]
  have hbl := hi.bld
  rw [hput] at hbl
  have HBL := Lib.hid hbl
  have HK := Lib.hid hK
  have HLW := Lib.hid hi.low
  have HDL := Lib.hid hD
  have HOT := Lib.hid hw2s
  clear hbl hK hput hI0 hi hS h1 h2 h3 hlow hsz hw2 hw2s hD
  gi_wp2_with (refine ⟨trivial, ?_⟩; gi_at_call 102; refine (callsIn_wide.2 (Tryz.Builder_String_any_k w.heap.size _ _ _ HBL.out HLW.out.size)).mono ?_; rintro e w3 ⟨rfl, hb3, hlow3, hk3⟩; have HK3 := Lib.hid (hk3 D _ HK.out (by have := HDL.out; have := HOT.out; intro e; cases e; omega) (by intro c fz h; cases h)); have HL3 := Lib.hid (HLW.out.trans hlow3); clear hb3 hlow3 hk3)
  refine ⟨by simp, .inl ⟨_, _, rfl, run_takeDeferred HK3.out, ?_⟩⟩
  refine ⟨_, results_tmp rfl _ _ _, ?_⟩
  exact ⟨Only.ofBelow (HL3.out.trans (belowK_b (w := w) (Nat.le_refl _) w3 D _ _ (by have := HDL.out; have := HOT.out; omega) HK3.out rfl rfl)), rfl⟩
 case stop =>
  rintro D c pre W _ _ h _
  exact h.elim
theorem chunk_stops0 (n : Nat) (Bs Bn c : Nat) (A : Option Addr) (w : World) (hs : w.heap[Bs]? = some (.cells #[.slice A 0 c] 22 (0, 0))) :
  SeqStopsK Fence.wide n Tryz.prog 124 #[.pointer (some ⟨Bs, 0, none⟩), .pointer (some ⟨Bn, 0, none⟩)] (fun x : Fin 0 => #[chunkV 0 0 0 x]) (KpC Bs Bn) (fun ys => ys = []) (fun _ => True) 0 w := fun l J Jx W hW hJ hJx hY h0 => by
 have hBs := (Array.getElem?_eq_some_iff.1 hs).1
 have c1 : W.cell? ⟨Bs, 0, none⟩ = some (.slice A 0 c) := by
  unfold World.cell?; rw [hW.block Bs hBs, hs]; rfl
 refine (chunk1_nil n l Bs Bn c A (fun pre W => ∃ pre' : List (Fin 0), J pre' W ∧ pre' = []) W c1 ⟨[], h0, rfl⟩).mono ?_
 rintro e W' ⟨he, p, hj, rfl⟩
 exact ⟨he, .inl ⟨[], rfl, hj⟩⟩
structure PutI0 (w : World) (D Bs Bn : Nat) (pre : List (Fin 0)) (W : World) : Prop where
 bld : Lib.IsBuilderF 187 5 w.heap.size w.heap.size (Lib.byteCells []) W
 low : Below w.heap.size w W
theorem PutI0.own {w : World} {D Bs Bn : Nat} (hD : w.heap.size ≤ D) : OwnFrom D (PutI0 w D Bs Bn) := by
 rintro pre W W' row h hg hr
 have hk : KeepsCells W W' := keepsCells_grown hg (fun r e => (hr r e).2)
 exact ⟨isBuilderF_keep h.bld hk, h.low.trans ⟨hg.os, hg.tape, hg.output, hg.size, fun k hlt => hg.block k (Nat.lt_of_lt_of_le hlt h.low.size) (by intro e; have := (hr k (by first | exact e | exact e.symm)).1; omega)⟩⟩
set_option maxRecDepth 100000 in
set_option maxHeartbeats 2000000 in
theorem put_none {A : Option Addr} {c : Nat} {w : World} : Calls Tryz.prog 79 #[.slice A 0 c] w (PutAt [] w) := by
 refine (callsIn_wide (n := 6)).1 ?_
 refine callsIn_of_wp_marks Tryz.func79 rfl trivial ?_ rfl
 simp only [Tryz.ntmps79, List.size_toArray, List.length_cons, List.length_nil, Nat.reduceAdd, Nat.reduceSub, Array.replicate_succ, Array.replicate_zero, List.push_toArray, List.append_toArray, List.nil_append, List.cons_append]
 gi_wp2_with (refine ⟨trivial, ?_⟩; gi_at_call 100; refine (callsIn_wide.2 (chunk_any _ _ _ _)).mono ?_; rintro e w' ⟨rfl, rfl⟩)
 obtain ⟨H, hH⟩ : ∃ H, H = w.heap.size := ⟨_, rfl⟩
 obtain ⟨w2, hw2⟩ : ∃ w2, ((w.alloc (Obj.cells #[.pointer none, .slice none 0 0] 187)).alloc (.cells #[.slice A 0 c] 22)).alloc (.cells #[.int .i64 3] 3) = w2 := ⟨_, rfl⟩
 have hsz : w2.heap.size = H + 3 := by rw [← hw2, hH]; simp
 have h1 : w2.heap[H]? = some (.cells #[.pointer none, .slice none 0 0] 187 (0, 0)) := by
  rw [← hw2, hH, Below.heap_alloc _ _ _ (by simp; omega), Below.heap_alloc _ _ _ (by simp)]; exact World.alloc_heap_new _ _
 have h2 : w2.heap[H + 1]? = some (.cells #[.slice A 0 c] 22 (0, 0)) := by
  rw [← hw2, Below.heap_alloc _ _ _ (by simp; omega)]
  have := World.alloc_heap_new (w.alloc (Obj.cells #[.pointer none, .slice none 0 0] 187)) (.cells #[.slice A 0 c] 22)
  rw [World.size_alloc, ← hH] at this; exact this
 have hlow : Below w.heap.size w w2 := by
  rw [← hw2]; exact (((Below.refl _ w).alloc (Nat.le_refl _) _).alloc (by simp) _).alloc (by simp; omega) _
 rw [hw2, ← hH]
 have hI0 : PutI0 w (H + 3) (H + 1) (H + 2) [] w2 :=
  ⟨by rw [← hH]; exact .inl ⟨Nat.le_refl _, _, h1, ⟨rfl, .inl ⟨rfl, rfl⟩⟩, by simp [Value.ownBlock]⟩, hlow⟩
 refine wpIn_rangeFunc_ownG (F := Fence.wide) rfl (by omega) (gf := 124) (lb := #[.pointer (some ⟨H + 1, 0, none⟩), .pointer (some ⟨H + 2, 0, none⟩)]) rfl trivial (enters_of Tryz.func124 (by kernel_rfl) rfl)
  (chunk_stops0 5 (H + 1) (H + 2) c A w2 h2) (fun h k => h.trans k)
  (fun W k oo oo' hk _ _ _ i hi => World.putObj_heap_other (by rcases hi with rfl | rfl <;> omega)) (Below.refl _ _) (fun _ => rfl)
  (PutI0 w (H + 3) (H + 1) (H + 2)) (fun _ _ _ => False) (by rw [hsz]; exact PutI0.own (by omega)) (fun _ _ _ _ _ hs _ _ => hs) hI0
  (fun x => x.elim0) ?assign ?body ?done ?stop
 case assign =>
  intro l x W K hK
  exact x.elim0
 case body =>
  rintro lp pre x W hi hlt
  exact x.elim0
 case done =>
  rintro D ys W hD hS hi hK
  have HBL := Lib.hid hi.bld
  have HK := Lib.hid hK
  have HLW := Lib.hid hi.low
  have HDL := Lib.hid hD
  have HOT := Lib.hid hsz
  have HHH := Lib.hid hH
  clear hK hI0 hi hS h1 h2 hlow hsz hw2 hD
  gi_wp2_with (refine ⟨trivial, ?_⟩; gi_at_call 102; refine (callsIn_wide.2 (Tryz.Builder_String_any_k w.heap.size _ [] _ HBL.out HLW.out.size)).mono ?_; rintro e w3 ⟨rfl, hb3, hlow3, hk3⟩; have HK3 := Lib.hid (hk3 D _ HK.out (by have := HDL.out; have := HOT.out; have := HHH.out; intro e; cases e; omega) (by intro c fz h; cases h)); have HL3 := Lib.hid (HLW.out.trans hlow3); clear hb3 hlow3 hk3)
  refine ⟨by simp, .inl ⟨_, _, rfl, run_takeDeferred HK3.out, ?_⟩⟩
  refine ⟨_, results_tmp rfl _ _ _, ?_⟩
  exact ⟨Only.ofBelow (HL3.out.trans (belowK_b (w := w) (Nat.le_refl _) w3 D _ _ (by have := HDL.out; have := HOT.out; have := HHH.out; omega) HK3.out rfl rfl)), rfl⟩
 case stop =>
  rintro D c pre W _ _ h _
  exact h.elim
theorem put_any {A : Option Addr} {c : Nat} {l : Bytes} {w : World} (hB : BytesAt w A l) (hcap : l.length ≤ c) (hl : l.length ≤ 1000000000) : Calls Tryz.prog 79 #[.slice A l.length c] w (PutAt l w) := by
 cases l with
 | nil => exact put_none
 | cons x l =>
  obtain ⟨b, o, e, _⟩ := hB 0 x rfl
  subst e
  exact put_some hB hcap hl (by simp)
structure TS64 (H : Nat) (s : R64) (w : World) : Prop where
 out : ∃ v, Blk w H [v] 22 ∧ OwnB w (H + 3) v s.out
 n : Blk w (H + 1) [.int .u32 s.n] 169
 many : Blk w (H + 2) [.int .i64 s.many] 3
 big : H + 3 ≤ w.heap.size
def Next64At (H : Nat) (s : R64) (c : UInt8) (w : World) (e : Ending) (w' : World) : Prop :=
 Only (H ≤ ·) w w' ∧ match next64 s c with
 | none => e = .returned (.bool false)
 | some r => e = .returned (.bool true) ∧ TS64 H r w'
theorem index64_lt (c : UInt8) : Lib.indexByte letters64 c < 64 := by
 have := index_lt letters64 c
 rwa [show letters64.length = 64 by decide] at this
theorem nlt_pow {n m : Nat} (h : n < 64 ^ (m % 4)) : n < 262144 := by
 have h4 : m % 4 = 0 ∨ m % 4 = 1 ∨ m % 4 = 2 ∨ m % 4 = 3 := by omega
 rcases h4 with e | e | e | e <;> rw [e] at h <;> simp at h <;> omega
theorem index_any (c : UInt8) (w : World) : Calls Tryz.prog 87 #[.string ⟨#[65, 66, 67, 68, 69, 70, 71, 72, 73, 74, 75, 76, 77, 78, 79, 80, 81, 82, 83, 84, 85, 86, 87, 88, 89, 90, 97, 98, 99, 100, 101, 102, 103, 104, 105, 106, 107, 108, 109, 110, 111, 112, 113, 114, 115, 116, 117, 118, 119, 120, 121, 122, 48, 49, 50, 51, 52, 53, 54, 55, 56, 57, 43, 47]⟩, .int .u8 c.toNat] w fun e w' => e = .returned (.int .i64 (Lib.indexByte letters64 c)) ∧ w' = w := by
 refine (Tryz.strings_IndexByte _ _ _).mono ?_
 rintro e w' ⟨rfl, rfl⟩
 refine ⟨?_, rfl⟩
 have hcc : ((c.toNat : Int)).toNat.toUInt8 = c := by simp
 rw [hcc]
 rfl
section
variable {ops : Array Oper} {rest : List Oper} {o : Oper} {a : Act} {w : World} {Q : Exit → Act → World → Prop}
theorem wpList_append_bytes (hgd : o.guard = none) (s x : Operand) (ho : o.op = .call { callee := .builtin .append, args := #[s, x], argTypes := #[22, 22] })
  {base : Nat} {v : Value} {l : Bytes} (hs : a.eval s = v) (hown : OwnB w base v l) {g m c : Nat} (hx : a.eval x = .slice (some ⟨g, 0, none⟩) m c)
  {ys : Bytes} (hm : ys.length = m) (hnew : ∀ j y, ys[j]? = some y → w.cell? ⟨g, j, none⟩ = some (.int .u8 y.toNat)) (hlen : l.length + ys.length ≤ 2 ^ 40) (hbase : base ≤ w.heap.size)
  (h : ∀ v' w', OwnB w' base v' (l ++ ys) → w.grownBy w' v.ownBlock → wpList Tryz.prog ops Q rest (a.put o.dst v') w') : wpList Tryz.prog ops Q (o :: rest) a w := by
 obtain ⟨i0, hi, hz0, hz1, hz2⟩ := info_parts info5
 refine wpList_append_own w hgd s x 22 ho base 5 i0 (.int .u8 0) 1 1 under22 hi hz0 hz1 hz2 rfl (by decide) v l.length (cellsB l) hs hown ⟨g, 0, none⟩ m c (cellsB ys) hx (by unfold cellsB; simp [hm]) ?_ ?_ ?_ ?_ hbase ?_
 ·intro j u hj
  unfold cellsB at hj
  rw [List.getElem?_map] at hj
  cases hy : ys[j]? with
  | none => rw [hy] at hj; cases hj
  | some y =>
   rw [hy] at hj
   simp only [Option.map_some, Option.some.injEq] at hj
   rw [← hj]
   have := hnew j y hy
   unfold Addr.add
   by_cases h0 : j = 0
   ·subst h0; simpa using this
   ·rw [if_neg h0]; simpa using this
 ·intro u hu
  unfold cellsB at hu
  obtain ⟨y, _, rfl⟩ := List.mem_map.1 hu
  rfl
 ·unfold maxLen; omega
 ·omega
 ·intro v' w' h1 h2 _
  refine h v' w' ?_ h2
  unfold OwnB
  rw [List.length_append, hm]
  have e2 : cellsB (l ++ ys) = cellsB l ++ cellsB ys := by unfold cellsB; simp
  rw [e2]
  exact h1
end
def ys3 (n : Nat) : Bytes := [(n / 65536).toUInt8, (n / 256).toUInt8, n.toUInt8]
theorem new_cells (w : World) (cs : List Value) (T : TypeId) {j : Nat} {v : Value} (h : cs[j]? = some v) : (w.alloc (.cells cs.toArray T)).cell? ⟨w.heap.size, j, none⟩ = some v := (Blk.new w cs T).cell j h
theorem new3 (w : World) (n : Nat) : ∀ j y, (ys3 n)[j]? = some y → (w.alloc (.cells #[.int .u8 ((n : Int) / 65536 % 256), .int .u8 ((n : Int) / 256 % 256), .int .u8 ((n : Int) % 256)] 5)).cell? ⟨w.heap.size, j, none⟩ = some (.int .u8 y.toNat) := by
 intro j y hy
 have k := @new_cells w [.int .u8 ((n : Int) / 65536 % 256), .int .u8 ((n : Int) / 256 % 256), .int .u8 ((n : Int) % 256)] 5 j
 unfold ys3 at hy
 match j, hy with
 | 0, hy => simp at hy; subst hy; rw [k rfl]; congr 2
 | 1, hy => simp at hy; subst hy; rw [k rfl]; congr 2
 | 2, hy => simp at hy; subst hy; rw [k rfl]; congr 2
set_option maxRecDepth 100000 in
set_option maxHeartbeats 1600000 in
theorem next64_any {H : Nat} {s : R64} {c : UInt8} {w : World} (h : TS64 H s w) (hn : s.n < 64 ^ (s.many % 4)) (hm : s.many ≤ 1000000000) (ho : s.out.length ≤ 3000000000) :
  Calls Tryz.prog 86 #[.int .u8 c.toNat, .pointer (some ⟨H + 1, 0, none⟩), .pointer (some ⟨H + 2, 0, none⟩), .pointer (some ⟨H, 0, none⟩)] w (Next64At H s c w) := by
 have hq := index_lt letters64 c
 have hge := Lib.indexByte_ge letters64 c
 have hlt := index64_lt c
 clear hq
 have hne : ∀ k : Int, k = Lib.indexByte letters64 c → k < 0 → Next64At H s c w (.returned (.bool false)) w := by
  intro k hk h0
  refine ⟨Only.refl _ _, ?_⟩
  unfold next64
  rw [if_pos (by omega)]
 have HNE := Lib.hid hne
 clear hne
 obtain ⟨k, hk⟩ : ∃ k, k = Lib.indexByte letters64 c := ⟨_, rfl⟩
 rw [← hk] at hge hlt
 have HK := Lib.hid hk
 clear hk
 by_cases h0 : k < 0
 ·have q0 : decide (k < 0) = true := decide_eq_true h0
  have H0 := Lib.hid h0
  clear h0 hge hlt
  go_enter Tryz.func86, Tryz.ntmps86
  go_wp2_with (go_at_call 87; refine (index_any _ _).mono ?_; rintro e w3 ⟨rfl, rfl⟩; rw [← HK.out])
  go_ret
  exact HNE.out k HK.out H0.out
 ·have q0 : decide (k < 0) = false := decide_eq_false h0
  obtain ⟨d, rfl⟩ := Int.eq_ofNat_of_zero_le (by omega : 0 ≤ k)
  have hd : d < 64 := by omega
  have hn24 := nlt_pow hn
  obtain ⟨⟨v, hbo, hov⟩, hbn, hbm, hbig⟩ := h
  have hcn := hbn.cell 0 rfl
  have hcm := hbm.cell 0 rfl
  have hfn := hbn.frozen 0
  have hfm := hbm.frozen 0
  have HBO := Lib.hid hbo
  have HOV := Lib.hid hov
  have HBN := Lib.hid hbn
  have HBM := Lib.hid hbm
  have HBIG := Lib.hid hbig
  have qor : bits .or .u32 ((s.n : Int) * 64) (d : Int) = ((s.n * 64 + d : Nat) : Int) := by
   rw [bits_join .u32 32 (by decide) wraps_u32 6 _ _ (by omega) (by omega) (by omega) (by omega) (by omega) (by omega)]
   omega
  have HNX := Lib.hid (show next64 s c = (if (s.many + 1) % 4 ≠ 0 then some ⟨s.out, s.n * 64 + d, s.many + 1⟩ else some ⟨s.out ++ [((s.n * 64 + d) / 65536).toUInt8, ((s.n * 64 + d) / 256).toUInt8, (s.n * 64 + d).toUInt8], 0, s.many + 1⟩) by
   unfold next64
   rw [← HK.out, if_neg h0]
   simp only [Int.toNat_natCast])
  obtain ⟨n', hn'⟩ : ∃ n', n' = s.n * 64 + d := ⟨_, rfl⟩
  obtain ⟨m', hm'⟩ : ∃ m', m' = s.many + 1 := ⟨_, rfl⟩
  have hn26 : n' < 16777216 := by omega
  rw [← hn'] at qor
  have hmm : (s.many : Int) + 1 = (m' : Int) := by omega
  have HHN := Lib.hid hn'
  have HHM := Lib.hid hm'
  have hn24i : (s.n : Int) * 64 < 4294967296 := by omega
  have hsz : (s.n : Int) * 64 % 4294967296 = (s.n : Int) * 64 := by omega
  have hdz : (d : Int) % 4294967296 = (d : Int) := by omega
  clear h0 hge hlt hbo hov hbn hbm hbig hn hn24 hn' hm' HNE
  go_enter Tryz.func86, Tryz.ntmps86
  go_wp2_with (go_at_call 87; refine (index_any _ _).mono ?_; rintro e w3 ⟨rfl, rfl⟩; rw [← HK.out])
  go_region
  obtain ⟨w4, hw4⟩ : ∃ w4, ((w3.setCell ⟨H + 1, 0, none⟩ (.int .u32 n')).setCell ⟨H + 2, 0, none⟩ (.int .i64 m')).drew = w4 := ⟨_, rfl⟩
  have hn4 : Blk w4 (H + 1) [.int .u32 n'] 169 := by rw [← hw4]; exact ((HBN.out.set' 0 _ rfl).far (by simp) _).drew
  have hm4 : Blk w4 (H + 2) [.int .i64 m'] 3 := by rw [← hw4]; exact ((HBM.out.far (by simp) _).set' 0 _ rfl).drew
  have ho4 : Blk w4 H [v] 22 := by rw [← hw4]; exact ((HBO.out.far (by simp) _).far (by simp) _).drew
  have hol : Only (fun i => i = H + 1 ∨ i = H + 2) w3 w4 := by rw [← hw4]; exact (((Only.refl _ _).setCell (fun _ => .inl rfl) _).setCell (fun _ => .inr rfl) _).drew
  have hov4 : OwnB w4 (H + 3) v s.out := HOV.out.only hol (fun k hk => by have := (HOV.out.lt k hk).1; omega)
  have hb4 : H + 3 ≤ w4.heap.size := Nat.le_trans HBIG.out hol.size
  have hol4 : Only (H ≤ ·) w3 w4 := hol.mono (fun i _ hi => by rcases hi with rfl | rfl <;> omega)
  rw [hw4]
  have hc4 := hm4.cell 0 rfl
  have hcn4 := hn4.cell 0 rfl
  have hco4 := ho4.cell 0 rfl
  have hfn4 := hn4.frozen 0
  have hfo4 := ho4.frozen 0
  have HN4 := Lib.hid hn4
  have HM4 := Lib.hid hm4
  have HO4 := Lib.hid ho4
  have HOV4 := Lib.hid hov4
  have HB4 := Lib.hid hb4
  have HOL4 := Lib.hid hol4
  clear hw4 hn4 hm4 ho4 hol hov4 hb4 hol4 hcn hcm hfn hfm qor hsz hdz hn24i
  by_cases hz : m' % 4 = 0
  ·have qz : (m' : Int) % 4 = 0 := by omega
   have HZ := Lib.hid hz
   have HM26 := Lib.hid hn26
   have HLO := Lib.hid ho
   clear hz
   have hsome : next64 s c = some ⟨s.out ++ ys3 n', 0, m'⟩ := by rw [HNX.out, ← HHM.out, ← HHN.out, if_neg (by omega)]; rfl
   have HSM := Lib.hid hsome
   obtain ⟨A, cp, rfl⟩ := HOV4.out.form
   have HNE := Lib.hid (show ∀ k, (Value.slice A s.out.length cp).ownBlock = some k → H + 3 ≤ k from fun k hk => (HOV4.out.lt k hk).1)
   have HLEN := Lib.hid (show s.out.length + (ys3 n').length ≤ 2 ^ 40 by unfold ys3; simp; omega)
   clear hsome hn26 ho hmm hm hd q0
   go_wp2_with (refine wpList_append_bytes rfl (.tmp 21) (.tmp 30) rfl rfl (HOV4.out.alloc _) (ys := ys3 n') rfl rfl (new3 _ _) HLEN.out (by have := HB4.out; simp; omega) ?_; intro v' w5 hown hgr; obtain ⟨A', cp', rfl⟩ := hown.form; have ho5 : Only (fun k => (Value.slice A s.out.length cp).ownBlock = some k) w4 w5 := ((Only.refl _ _).alloc _).then (Only.ofGrown hgr) (fun i _ hi => hi); have hc5 := (HO4.out.only ho5 (fun e => by have := HNE.out _ e; omega)).cell 0 rfl; have hf5 := (HO4.out.only ho5 (fun e => by have := HNE.out _ e; omega)).frozen 0; have hcn5 := (HN4.out.only ho5 (fun e => by have := HNE.out _ e; omega)).cell 0 rfl; have hfn5 := (HN4.out.only ho5 (fun e => by have := HNE.out _ e; omega)).frozen 0; have HO5 := Lib.hid ho5; have HOWN := Lib.hid hown; clear ho5 hown hgr)
   go_ret
   refine ⟨?_, ?_⟩
   ·refine (HOL4.out.then HO5.out (fun i _ hi => by have := HNE.out _ hi; omega)).setCell (fun _ => Nat.le_refl _) _ |>.setCell (fun _ => by simp) _
   ·rw [HSM.out]
    have ho5 := HO5.out
    have hb5 : H + 3 ≤ w5.heap.size := Nat.le_trans HB4.out ho5.size
    have b1 : Blk w5 H [.slice A s.out.length cp] 22 := HO4.out.only ho5 (fun e => by have := HNE.out _ e; omega)
    have b2 : Blk w5 (H + 1) [.int .u32 n'] 169 := HN4.out.only ho5 (fun e => by have := HNE.out _ e; omega)
    have b3 : Blk w5 (H + 2) [.int .i64 m'] 3 := HM4.out.only ho5 (fun e => by have := HNE.out _ e; omega)
    have hs : ∀ (p : Addr) (u : Value), p.block < H + 3 → ∀ wz : World, OwnB wz (H + 3) (.slice A' (s.out ++ ys3 n').length cp') (s.out ++ ys3 n') → OwnB (wz.setCell p u) (H + 3) (.slice A' (s.out ++ ys3 n').length cp') (s.out ++ ys3 n') := by
     intro p u hp wz h
     exact h.only ((Only.refl (fun i => i = p.block) wz).setCell (fun _ => rfl) u) (fun k hk e => by have := (h.lt k hk).1; omega)
    rw [← List.length_append]
    exact ⟨rfl, ⟨⟨_, (b1.set' 0 _ rfl).far (by simp) _, hs ⟨H + 1, 0, none⟩ _ (by simp) _ (hs ⟨H, 0, none⟩ _ (by simp) _ HOWN.out)⟩, (b2.far (by simp) _).set' 0 _ rfl, (b3.far (by simp) _).far (by simp) _, by rw [size_setCell, size_setCell]; exact hb5⟩⟩
  ·have qz : ((m' : Int) % 4 != 0) = true := by simp; omega
   have qz2 : ((m' : Int) % 4 == 0) = false := by simp; omega
   have hsome : next64 s c = some ⟨s.out, n', m'⟩ := by rw [HNX.out, ← HHM.out, ← HHN.out, if_pos hz]
   have HSM := Lib.hid hsome
   clear hz hsome
   go_wp2
   go_ret
   refine ⟨HOL4.out, ?_⟩
   rw [HSM.out]
   exact ⟨rfl, ⟨⟨v, HO4.out, HOV4.out⟩, HN4.out, HM4.out, HB4.out⟩⟩
theorem bare64_append (s : R64) (l m : Bytes) : bare64 s (l ++ m) = (bare64 s l).bind (bare64 · m) := by
 induction l generalizing s with
 | nil => rfl
 | cons c l ih =>
  rw [List.cons_append, bare64, bare64]
  cases next64 s c with
  | none => rfl
  | some r => simp [ih]
theorem bare64_snoc {s r : R64} {l : Bytes} {c : UInt8} (h : bare64 s l = some r) : bare64 s (l ++ [c]) = next64 r c := by
 rw [bare64_append, h]
 simp only [Option.bind_some, bare64]
 cases next64 r c <;> rfl
theorem next64_out {s r : R64} {c : UInt8} (h : next64 s c = some r) : r.out.length = s.out.length + (if (s.many + 1) % 4 = 0 then 3 else 0) := by
 unfold next64 at h
 split at h
 ·cases h
 ·split at h
  ·rename_i h4
   cases h
   rw [if_neg h4]
   rfl
  ·rename_i h4
   cases h
   rw [if_pos (by omega)]
   simp
theorem end64_len {r : R64} (h : r.out.length = 3 * (r.many / 4)) : (end64 r).length ≤ r.many := by
 unfold end64
 split
 ·rw [List.length_append, h]; simp; omega
 ·split
  ·rw [List.length_append, h]; simp; omega
  ·rw [h]; omega
theorem OwnB.capB {w : World} {base : Nat} {A : Option Addr} {n c : Nat} {l : Bytes} (h : OwnB w base (.slice A n c) l) : l.length ≤ c := by
 rcases h.2 with ⟨e, hn⟩ | ⟨g, cap, cur, e, hb, hgg, hf, hc, _⟩
 ·cases e; rw [hn]; exact Nat.le_refl _
 ·cases e; omega
theorem OwnB.fresh {w : World} {base : Nat} {A : Option Addr} {n c : Nat} {l : Bytes} (h : OwnB w base (.slice A n c) l) : ∀ b o, A = some ⟨b, o, none⟩ → base ≤ b := by
 rintro b o rfl
 exact (h.lt b rfl).1
theorem trim_length (s : Bytes) (c : UInt8) : (Lib.trimRightB s c).length ≤ s.length := by
 unfold Lib.trimRightB
 rw [List.length_reverse]
 have := (List.dropWhile_sublist (· == c) (l := s.reverse)).length_le
 rwa [List.length_reverse] at this
theorem new1 (w : World) (n : Nat) : ∀ j y, [(n / 16).toUInt8][j]? = some y → (w.alloc (.cells #[.int .u8 ((n : Int) / 16 % 256)] 5)).cell? ⟨w.heap.size, j, none⟩ = some (.int .u8 y.toNat) := by
 intro j y hy
 have k := @new_cells w [.int .u8 ((n : Int) / 16 % 256)] 5 j
 match j, hy with
 | 0, hy => simp at hy; subst hy; rw [k rfl]; congr 2
theorem new2 (w : World) (n : Nat) : ∀ j y, [(n / 1024).toUInt8, (n / 4).toUInt8][j]? = some y → (w.alloc (.cells #[.int .u8 ((n : Int) / 1024 % 256), .int .u8 ((n : Int) / 4 % 256)] 5)).cell? ⟨w.heap.size, j, none⟩ = some (.int .u8 y.toNat) := by
 intro j y hy
 have k := @new_cells w [.int .u8 ((n : Int) / 1024 % 256), .int .u8 ((n : Int) / 4 % 256)] 5 j
 match j, hy with
 | 0, hy => simp at hy; subst hy; rw [k rfl]; congr 2
 | 1, hy => simp at hy; subst hy; rw [k rfl]; congr 2
def T64At (s : Bytes) (w : World) (e : Ending) (w' : World) : Prop :=
 Only (fun _ => False) w w' ∧ match take64 s with
 | none => e = .returned (.tuple #[.slice none 0 0, .int .i64 5])
 | some l => ∃ A c, e = .returned (.tuple #[.slice A l.length c, .int .i64 0]) ∧ BytesAt w' A l ∧ l.length ≤ c ∧ l.length ≤ s.length ∧ ∀ b o, A = some ⟨b, o, none⟩ → w.heap.size ≤ b
structure T64Mid (w : World) (H : Nat) (bare : Bytes) (j : Nat) (r : R64) (wr : World) : Prop where
 st : TS64 H r wr
 only : Only (fun _ => False) w wr
 is : bare64 ⟨[], 0, 0⟩ (bare.take j) = some r
 low : r.n < 64 ^ (r.many % 4)
 many : r.many = j
 out : r.out.length = 3 * (r.many / 4)
set_option maxRecDepth 100000 in
set_option maxHeartbeats 1600000 in
theorem take64_any {s : Bytes} {w : World} (hl : s.length ≤ 3000000) : Calls Tryz.prog 66 #[txt s] w (T64At s w) := by
 obtain ⟨bare, hb⟩ : ∃ b, b = Lib.trimRightB s 61 := ⟨_, rfl⟩
 have hbl : bare.length ≤ s.length := by rw [hb]; exact trim_length s 61
 have HB := Lib.hid hb
 have HL := Lib.hid hl
 have HBL := Lib.hid hbl
 unfold txt
 have hsz : (⟨s.toArray⟩ : ByteArray).size ≤ 9223372036854775807 := by show s.toArray.size ≤ _; simp; omega
 have HSZ := Lib.hid hsz
 have HT := Lib.hid (show (⟨(Lib.trimRightB (⟨s.toArray⟩ : ByteArray).data.toList 61).toArray⟩ : ByteArray) = ⟨bare.toArray⟩ by rw [hb])
 have hbi : (bare.length : Int) ≤ 3000000 := by omega
 clear hb hl hbl hsz
 go_enter Tryz.func66, Tryz.ntmps66
 go_wp2_with (go_at_call 88; refine (Tryz.strings_TrimRight_one _ 61 (by decide) _ HSZ.out).mono ?_; rintro e w3 ⟨rfl, rfl⟩; rw [HT.out])
 refine wp_gen0 (fun W => T64Mid w w.heap.size bare 0 ⟨[], 0, 0⟩ W) (by
  refine ⟨⟨⟨.slice none 0 0, ?_, OwnB.nil _ _⟩, ?_, ?_, by simp⟩, ((((Only.refl _ w).alloc _).alloc _).alloc _), rfl, by decide, rfl, by simp⟩
  ·exact ((Blk.new w [.slice none 0 0] 22).alloc _).alloc _
  ·have := (Blk.new (w.alloc (Obj.cells #[.slice none 0 0] 22)) [.int .u32 0] 169).alloc (Obj.cells #[.int .i64 0] 3)
   rw [World.size_alloc] at this; exact this
  ·have := Blk.new ((w.alloc (Obj.cells #[.slice none 0 0] 22)).alloc (Obj.cells #[.int .u32 0] 169)) [.int .i64 0] 3
   rw [World.size_alloc, World.size_alloc] at this; exact this) ?_
 intro W1 hm1
 obtain ⟨H, hH⟩ : ∃ H, H = w.heap.size := ⟨_, rfl⟩
 rw [← hH] at hm1 ⊢
 have HH := Lib.hid hH
 have HM1 := Lib.hid hm1
 clear hH hm1 HT HSZ
 go_loopw [15] (fun i wr => ∃ j : Nat, j ≤ bare.length ∧ i = .int .i64 (j : Int) ∧ ∃ r, T64Mid w H bare j r wr) (fun i _ => bare.length - (intOf i).toNat)
 case atStart => exact ⟨0, by omega, rfl, _, HM1.out⟩
 case round =>
  obtain ⟨j, hj, rfl, r, hr⟩ := hrel
  have HR := Lib.hid hr
  clear hr
  rcases Nat.lt_or_ge j bare.length with hlt | hge
  ·have q : decide ((j : Int) < (bare.length : Int)) = true := by simp; omega
   obtain ⟨c, hc⟩ : ∃ c, bare[j]? = some c := ⟨bare[j], List.getElem?_eq_getElem hlt⟩
   have hjz : j < (⟨bare.toArray⟩ : ByteArray).size := by show j < bare.toArray.size; simpa using hlt
   have hix : (⟨bare.toArray⟩ : ByteArray)[j]'hjz = c := by
    have : bare[j]? = some bare[j] := List.getElem?_eq_getElem hlt
    rw [hc] at this
    simp only [Option.some.injEq] at this
    rw [this]; rfl
   have HC := Lib.hid hc
   have HLT := Lib.hid hlt
   have htk : bare.take (j + 1) = bare.take j ++ [c] := by rw [List.take_add_one, hc]; rfl
   have HTK := Lib.hid htk
   clear htk hc
   cases hnx : next64 r c with
   | none =>
    have HNX := Lib.hid hnx
    clear hnx
    go_wp2_with (go_at_call 86; refine (next64_any (c := c) HR.out.st HR.out.low (by have := HR.out.many; have := HL.out; omega) (by have := HR.out.out; have := HR.out.many; have := HL.out; omega)).mono ?_; rintro e w4 ⟨ho4, h4⟩; rw [HNX.out] at h4; obtain rfl := h4; have HO4 := Lib.hid ho4; clear ho4)
    go_ret2
    refine ⟨HR.out.only.then HO4.out (fun i hi h => by have := HH.out; omega), ?_⟩
    have hno : take64 s = none := by
     unfold take64
     have e : bare64 ⟨[], 0, 0⟩ bare = none := by
      rw [← List.take_append_drop (j + 1) bare, bare64_append, HTK.out, bare64_snoc HR.out.is, HNX.out]; rfl
     rw [← HB.out, e]
    rw [hno]
    rfl
   | some r2 =>
    have HNX := Lib.hid hnx
    clear hnx
    go_wp2_with (go_at_call 86; refine (next64_any (c := c) HR.out.st HR.out.low (by have := HR.out.many; have := HL.out; omega) (by have := HR.out.out; have := HR.out.many; have := HL.out; omega)).mono ?_; rintro e w4 ⟨ho4, h4⟩; rw [HNX.out] at h4; obtain ⟨rfl, hts⟩ := h4; have HO4 := Lib.hid ho4; have HTS := Lib.hid hts; clear ho4 hts)
    go_roundw
    case rel =>
     obtain ⟨h1, h2⟩ := next64_small HNX.out HR.out.low
     refine ⟨j + 1, by have := HLT.out; omega, by push_cast; rfl, r2, HTS.out, HR.out.only.then HO4.out (fun i hi h => by have := HH.out; omega), ?_, h1, ?_, ?_⟩
     ·rw [HTK.out, bare64_snoc HR.out.is, HNX.out]
     ·rw [h2, HR.out.many]
     ·have h5 := next64_out HNX.out; have h6 := HR.out.out; rw [h5, h6, h2]; split <;> omega
    case measure => have := HLT.out; simp [intOf]; omega
  ·have q : decide ((j : Int) < (bare.length : Int)) = false := by simp; omega
   obtain rfl : j = bare.length := by omega
   have his := HR.out.is
   rw [List.take_length] at his
   have HIS := Lib.hid his
   have HMANY := Lib.hid HR.out.many
   obtain ⟨⟨v, hbo, hov⟩, hbn, hbm, hbig⟩ := HR.out.st
   obtain ⟨A, cp, rfl⟩ := hov.form
   have hco := hbo.cell 0 rfl
   have hfo := hbo.frozen 0
   have hcn := hbn.cell 0 rfl
   have hcm := hbm.cell 0 rfl
   have HBO := Lib.hid hbo
   have HOV := Lib.hid hov
   have HBIG := Lib.hid hbig
   have HEO := Lib.hid (show (end64 r).length ≤ s.length from by
    have := end64_len HR.out.out; have := HR.out.many; have := HBL.out; omega)
   clear his hbo hov hbn hbm hbig
   have hc4 : r.many % 4 = 2 ∨ r.many % 4 = 3 ∨ (r.many % 4 ≠ 2 ∧ r.many % 4 ≠ 3) := by omega
   rcases hc4 with h2 | h3 | ⟨h2, h3⟩
   ·have q2 : ((r.many : Int) % 4 == 2) = true := by simp; omega
    have q2' : (r.many : Int) % 4 = 2 := by omega
    have he : end64 r = r.out ++ [(r.n / 16).toUInt8] := by unfold end64; rw [if_pos h2]
    have HE := Lib.hid he
    have HNE := Lib.hid (show ∀ k, (Value.slice A r.out.length cp).ownBlock = some k → H + 3 ≤ k from fun k hk => (HOV.out.lt k hk).1)
    have HLN := Lib.hid (show r.out.length + ([(r.n / 16).toUInt8] : Bytes).length ≤ 2 ^ 40 by have h1 := HEO.out; have h2 := HL.out; rw [he, List.length_append] at h1; simp at h1 ⊢; omega)
    have HOY0 := Lib.hid HR.out.only
    clear he h2
    go_upto_region 16 with (refine wpList_append_bytes rfl (.tmp 29) (.tmp 33) rfl rfl (HOV.out.alloc _) (ys := [(r.n / 16).toUInt8]) rfl rfl (new1 _ _) HLN.out (by have := HBIG.out; simp; omega) ?_; intro v' w5 hown hgr; rw [← HE.out] at hown; obtain ⟨A', cp', rfl⟩ := hown.form; have ho5 : Only (fun k => (Value.slice A r.out.length cp).ownBlock = some k) wr w5 := ((Only.refl _ _).alloc _).then (Only.ofGrown hgr) (fun i _ hi => hi); have hb5 := HBO.out.only ho5 (fun e => by have := HNE.out _ e; omega); have hc5 := hb5.cell 0 rfl; have hf5 := hb5.frozen 0; have HB5 := Lib.hid hb5; have HO5 := Lib.hid ho5; have HOWN := Lib.hid hown; clear ho5 hown hgr hb5)
    obtain ⟨W6, hW6⟩ : ∃ W6, w5.setCell ⟨H, 0, none⟩ (.slice A' (end64 r).length cp') = W6 := ⟨_, rfl⟩
    have how : OwnB W6 (H + 3) (.slice A' (end64 r).length cp') (end64 r) := by
     rw [← hW6]
     exact HOWN.out.only ((Only.refl (fun i => i = H) w5).setCell (fun _ => rfl) _) (fun k hk e => by have := (HOWN.out.lt k hk).1; omega)
    have hbw : Blk W6 H [.slice A' (end64 r).length cp'] 22 := by rw [← hW6]; exact HB5.out.set' 0 _ rfl
    have hoy : Only (fun _ => False) w W6 := by
     rw [← hW6]
     exact (HOY0.out.then HO5.out (fun i hi h => by have := HNE.out _ h; have := HH.out; omega)).setCell (fun h => by have := HH.out; simp at h; omega) _
    rw [hW6]
    have HOW := Lib.hid how
    have hco6 := hbw.cell 0 rfl
    have HBW := Lib.hid hbw
    have HOY := Lib.hid hoy
    clear how hbw hoy hW6
    by_cases hp : put64 (end64 r) = s
    ·have qs : (put64 (end64 r) == s) = true := by simpa using hp
     have ht : take64 s = some (end64 r) := by unfold take64; rw [← HB.out, HIS.out]; simp only; rw [if_pos hp]
     have HTK := Lib.hid ht
     clear hp ht
     go_wp2_with (go_at_call 79; refine (put_any (l := end64 r) HOW.out.bytes.2 HOW.out.capB (by have := HEO.out; have := HL.out; omega)).mono ?_; rintro e w5 ⟨ho5, rfl⟩; have hc5 := (HBW.out.only ho5 id).cell 0 rfl; have HO5 := Lib.hid ho5; unfold txt; clear ho5)
     go_ret2
     refine ⟨HOY.out.trans HO5.out, ?_⟩
     rw [HTK.out]
     exact ⟨_, _, rfl, (HOW.out.only HO5.out (fun _ _ => id)).bytes.2, HOW.out.capB, HEO.out, fun b o e => by have := HOW.out.fresh b o e; have := HH.out; omega⟩
    ·have qs : (put64 (end64 r) == s) = false := by simpa using hp
     have ht : take64 s = none := by unfold take64; rw [← HB.out, HIS.out]; simp only; rw [if_neg hp]
     have HTK := Lib.hid ht
     clear hp ht
     go_wp2_with (go_at_call 79; refine (put_any (l := end64 r) HOW.out.bytes.2 HOW.out.capB (by have := HEO.out; have := HL.out; omega)).mono ?_; rintro e w5 ⟨ho5, rfl⟩; have hc5 := (HBW.out.only ho5 id).cell 0 rfl; have HO5 := Lib.hid ho5; unfold txt; clear ho5)
     go_ret2
     refine ⟨HOY.out.trans HO5.out, ?_⟩
     rw [HTK.out]
     rfl
   ·have q2 : ((r.many : Int) % 4 == 2) = false := by simp; omega
    have q3 : ((r.many : Int) % 4 == 3) = true := by simp; omega
    have q3' : (r.many : Int) % 4 = 3 := by omega
    have he : end64 r = r.out ++ [(r.n / 1024).toUInt8, (r.n / 4).toUInt8] := by unfold end64; rw [if_neg (by omega), if_pos h3]
    have HE := Lib.hid he
    have HNE := Lib.hid (show ∀ k, (Value.slice A r.out.length cp).ownBlock = some k → H + 3 ≤ k from fun k hk => (HOV.out.lt k hk).1)
    have HLN := Lib.hid (show r.out.length + ([(r.n / 1024).toUInt8, (r.n / 4).toUInt8] : Bytes).length ≤ 2 ^ 40 by have h1 := HEO.out; have h2 := HL.out; rw [he, List.length_append] at h1; simp at h1 ⊢; omega)
    have HOY0 := Lib.hid HR.out.only
    clear he h3
    go_upto_region 16 with (refine wpList_append_bytes rfl (.tmp 37) (.tmp 44) rfl rfl (HOV.out.alloc _) (ys := [(r.n / 1024).toUInt8, (r.n / 4).toUInt8]) rfl rfl (new2 _ _) HLN.out (by have := HBIG.out; simp; omega) ?_; intro v' w5 hown hgr; rw [← HE.out] at hown; obtain ⟨A', cp', rfl⟩ := hown.form; have ho5 : Only (fun k => (Value.slice A r.out.length cp).ownBlock = some k) wr w5 := ((Only.refl _ _).alloc _).then (Only.ofGrown hgr) (fun i _ hi => hi); have hb5 := HBO.out.only ho5 (fun e => by have := HNE.out _ e; omega); have hc5 := hb5.cell 0 rfl; have hf5 := hb5.frozen 0; have HB5 := Lib.hid hb5; have HO5 := Lib.hid ho5; have HOWN := Lib.hid hown; clear ho5 hown hgr hb5)
    obtain ⟨W6, hW6⟩ : ∃ W6, w5.setCell ⟨H, 0, none⟩ (.slice A' (end64 r).length cp') = W6 := ⟨_, rfl⟩
    have how : OwnB W6 (H + 3) (.slice A' (end64 r).length cp') (end64 r) := by
     rw [← hW6]
     exact HOWN.out.only ((Only.refl (fun i => i = H) w5).setCell (fun _ => rfl) _) (fun k hk e => by have := (HOWN.out.lt k hk).1; omega)
    have hbw : Blk W6 H [.slice A' (end64 r).length cp'] 22 := by rw [← hW6]; exact HB5.out.set' 0 _ rfl
    have hoy : Only (fun _ => False) w W6 := by
     rw [← hW6]
     exact (HOY0.out.then HO5.out (fun i hi h => by have := HNE.out _ h; have := HH.out; omega)).setCell (fun h => by have := HH.out; simp at h; omega) _
    rw [hW6]
    have HOW := Lib.hid how
    have hco6 := hbw.cell 0 rfl
    have HBW := Lib.hid hbw
    have HOY := Lib.hid hoy
    clear how hbw hoy hW6
    by_cases hp : put64 (end64 r) = s
    ·have qs : (put64 (end64 r) == s) = true := by simpa using hp
     have ht : take64 s = some (end64 r) := by unfold take64; rw [← HB.out, HIS.out]; simp only; rw [if_pos hp]
     have HTK := Lib.hid ht
     clear hp ht
     go_wp2_with (go_at_call 79; refine (put_any (l := end64 r) HOW.out.bytes.2 HOW.out.capB (by have := HEO.out; have := HL.out; omega)).mono ?_; rintro e w5 ⟨ho5, rfl⟩; have hc5 := (HBW.out.only ho5 id).cell 0 rfl; have HO5 := Lib.hid ho5; unfold txt; clear ho5)
     go_ret2
     refine ⟨HOY.out.trans HO5.out, ?_⟩
     rw [HTK.out]
     exact ⟨_, _, rfl, (HOW.out.only HO5.out (fun _ _ => id)).bytes.2, HOW.out.capB, HEO.out, fun b o e => by have := HOW.out.fresh b o e; have := HH.out; omega⟩
    ·have qs : (put64 (end64 r) == s) = false := by simpa using hp
     have ht : take64 s = none := by unfold take64; rw [← HB.out, HIS.out]; simp only; rw [if_neg hp]
     have HTK := Lib.hid ht
     clear hp ht
     go_wp2_with (go_at_call 79; refine (put_any (l := end64 r) HOW.out.bytes.2 HOW.out.capB (by have := HEO.out; have := HL.out; omega)).mono ?_; rintro e w5 ⟨ho5, rfl⟩; have hc5 := (HBW.out.only ho5 id).cell 0 rfl; have HO5 := Lib.hid ho5; unfold txt; clear ho5)
     go_ret2
     refine ⟨HOY.out.trans HO5.out, ?_⟩
     rw [HTK.out]
     rfl
   ·have q2 : ((r.many : Int) % 4 == 2) = false := by simp; omega
    have q3 : ((r.many : Int) % 4 == 3) = false := by simp; omega
    have he : end64 r = r.out := by unfold end64; rw [if_neg h2, if_neg h3]
    have how := HOV.out
    rw [← he] at how
    have HOW := Lib.hid how
    have hlr : r.out.length = (end64 r).length := by rw [he]
    have hbw := HBO.out
    rw [hlr] at hbw hco
    have HBW := Lib.hid hbw
    have HOY := Lib.hid HR.out.only
    clear how hlr hbw h2 h3 he
    go_upto_region 16 with fail
    by_cases hp : put64 (end64 r) = s
    ·have qs : (put64 (end64 r) == s) = true := by simpa using hp
     have ht : take64 s = some (end64 r) := by unfold take64; rw [← HB.out, HIS.out]; simp only; rw [if_pos hp]
     have HTK := Lib.hid ht
     clear hp ht
     go_wp2_with (go_at_call 79; refine (put_any (l := end64 r) HOW.out.bytes.2 HOW.out.capB (by have := HEO.out; have := HL.out; omega)).mono ?_; rintro e w5 ⟨ho5, rfl⟩; have hc5 := (HBW.out.only ho5 id).cell 0 rfl; have HO5 := Lib.hid ho5; unfold txt; clear ho5)
     go_ret2
     refine ⟨HOY.out.trans HO5.out, ?_⟩
     rw [HTK.out]
     exact ⟨_, _, rfl, (HOW.out.only HO5.out (fun _ _ => id)).bytes.2, HOW.out.capB, HEO.out, fun b o e => by have := HOW.out.fresh b o e; have := HH.out; omega⟩
    ·have qs : (put64 (end64 r) == s) = false := by simpa using hp
     have ht : take64 s = none := by unfold take64; rw [← HB.out, HIS.out]; simp only; rw [if_neg hp]
     have HTK := Lib.hid ht
     clear hp ht
     go_wp2_with (go_at_call 79; refine (put_any (l := end64 r) HOW.out.bytes.2 HOW.out.capB (by have := HEO.out; have := HL.out; omega)).mono ?_; rintro e w5 ⟨ho5, rfl⟩; have hc5 := (HBW.out.only ho5 id).cell 0 rfl; have HO5 := Lib.hid ho5; unfold txt; clear ho5)
     go_ret2
     refine ⟨HOY.out.trans HO5.out, ?_⟩
     rw [HTK.out]
     rfl
set_option maxRecDepth 100000 in
set_option maxHeartbeats 1600000 in
theorem format_small {n : Nat} (h : n < 100) (w : World) : Calls Tryz.prog 120 #[.int .u64 n, .int .i64 10] w fun e w' => e = .returned (.string ⟨(Lib.decDigits n).toArray⟩) ∧ w' = w := by
 have q : decide ((n : Int) < 100) = true := by simp; omega
 have hz : (n : Int) < 100 := by omega
 have hz0 : (0 : Int) ≤ (n : Int) := by omega
 have HN := Lib.hid h
 clear h
 go_enter Tryz.func120, Tryz.ntmps120
 go_wp2_with (go_at_call 138; refine (Tryz.internal_strconv_small n HN.out _).mono ?_; rintro e w2 ⟨rfl, rfl⟩)
 go_ret
 exact ⟨rfl, rfl⟩
theorem formatU_small {n : Nat} (h : n < 100) (w : World) : Calls Tryz.prog 97 #[.int .u64 n, .int .i64 10] w fun e w' => e = .returned (.string ⟨(Lib.decDigits n).toArray⟩) ∧ w' = w := by
 have HN := Lib.hid h
 clear h
 go_enter Tryz.func97, Tryz.ntmps97
 go_wp2_with (go_at_call 120; refine (format_small HN.out _).mono ?_; rintro e w2 ⟨rfl, rfl⟩)
 go_ret
 exact ⟨rfl, rfl⟩
theorem decimal_small {n : Nat} (h : n < 100) (w : World) : Calls Tryz.prog 76 #[.int .u64 n] w fun e w' => e = .returned (.string ⟨(Lib.decDigits n).toArray⟩) ∧ w' = w := by
 have HN := Lib.hid h
 clear h
 go_enter Tryz.func76, Tryz.ntmps76
 go_wp2_with (go_at_call 97; refine (formatU_small HN.out _).mono ?_; rintro e w2 ⟨rfl, rfl⟩)
 go_ret
 exact ⟨rfl, rfl⟩
theorem decimal0 (w : World) : Calls Tryz.prog 76 #[.int .u64 0] w fun e w' => e = .returned (.string ⟨#[48]⟩) ∧ w' = w := by
 have h := decimal_small (n := 0) (by decide) w
 rw [show Lib.decDigits 0 = [48] from Lib.decDigits_one (by decide)] at h
 exact h
theorem decimal1 (w : World) : Calls Tryz.prog 76 #[.int .u64 1] w fun e w' => e = .returned (.string ⟨#[49]⟩) ∧ w' = w := by
 have h := decimal_small (n := 1) (by decide) w
 rw [show Lib.decDigits 1 = [49] from Lib.decDigits_one (by decide)] at h
 exact h
theorem decimal15 (w : World) : Calls Tryz.prog 76 #[.int .u64 15] w fun e w' => e = .returned (.string ⟨#[49, 53]⟩) ∧ w' = w := by
 have h := decimal_small (n := 15) (by decide) w
 rw [show Lib.decDigits 15 = [49, 53] from Lib.decDigits_two (by decide) (by decide)] at h
 exact h
set_option maxRecDepth 100000 in
theorem askEntries (w : World) : Calls Tryz.prog 50 #[.int .u64 0, .int .u64 15] w fun e w' => e = .returned (.string ⟨#[115, 116, 97, 114, 116, 61, 48, 38, 101, 110, 100, 61, 49, 53]⟩) ∧ w' = w := by
 go_enter Tryz.func50, Tryz.ntmps50
 go_wp2_with (first
  | (go_at_call 76; refine (decimal0 _).mono ?_; rintro e w2 ⟨rfl, rfl⟩)
  | (go_at_call 76; refine (decimal15 _).mono ?_; rintro e w2 ⟨rfl, rfl⟩))
 go_ret
 exact ⟨rfl, rfl⟩
def CntAt (u : Nat) (b : Bool) (w : World) (e : Ending) (w' : World) : Prop := Only (fun _ => False) w w' ∧ e = .returned (.tuple #[.int .u64 u, .bool b])
set_option maxRecDepth 100000 in
set_option maxHeartbeats 1600000 in
theorem count_0 {w : World} (hG : Gl w) : Calls Tryz.prog 96 #[.string ⟨#[48]⟩] w (CntAt 0 true w) := by
 have hp : Lib.parseUintB 64 (⟨#[48]⟩ : ByteArray).data.toList = .ok 0 := by decide +kernel
 have hP := parse64 (t := ⟨#[48]⟩) hG (by decide)
 unfold Parse64 at hP
 rw [hp] at hP
 have HP := Lib.hid hP
 clear hP hp hG
 go_enter Tryz.func96, Tryz.ntmps96
 go_wp2_with (first
  | (go_at_call 107; refine HP.out.mono ?_; rintro e w2 ⟨ho2, rfl⟩; have HO2 := Lib.hid ho2; clear ho2)
  | (go_at_call 76; refine (decimal0 _).mono ?_; rintro e w3 ⟨rfl, rfl⟩))
 go_ret2
 exact ⟨HO2.out, rfl⟩
set_option maxRecDepth 100000 in
set_option maxHeartbeats 1600000 in
theorem count_15 {w : World} (hG : Gl w) : Calls Tryz.prog 96 #[.string ⟨#[49, 53]⟩] w (CntAt 15 true w) := by
 have hp : Lib.parseUintB 64 (⟨#[49, 53]⟩ : ByteArray).data.toList = .ok 15 := by decide +kernel
 have hP := parse64 (t := ⟨#[49, 53]⟩) hG (by decide)
 unfold Parse64 at hP
 rw [hp] at hP
 have HP := Lib.hid hP
 clear hP hp hG
 go_enter Tryz.func96, Tryz.ntmps96
 go_wp2_with (first
  | (go_at_call 107; refine HP.out.mono ?_; rintro e w2 ⟨ho2, rfl⟩; have HO2 := Lib.hid ho2; clear ho2)
  | (go_at_call 76; refine (decimal15 _).mono ?_; rintro e w3 ⟨rfl, rfl⟩))
 go_ret2
 exact ⟨HO2.out, rfl⟩
set_option maxRecDepth 100000 in
set_option maxHeartbeats 1600000 in
theorem count_00 {w : World} (hG : Gl w) : Calls Tryz.prog 96 #[.string ⟨#[48, 48]⟩] w (CntAt 0 false w) := by
 have hp : Lib.parseUintB 64 (⟨#[48, 48]⟩ : ByteArray).data.toList = .ok 0 := by decide +kernel
 have hP := parse64 (t := ⟨#[48, 48]⟩) hG (by decide)
 unfold Parse64 at hP
 rw [hp] at hP
 have HP := Lib.hid hP
 clear hP hp hG
 go_enter Tryz.func96, Tryz.ntmps96
 go_wp2_with (first
  | (go_at_call 107; refine HP.out.mono ?_; rintro e w2 ⟨ho2, rfl⟩; have HO2 := Lib.hid ho2; clear ho2)
  | (go_at_call 76; refine (decimal0 _).mono ?_; rintro e w3 ⟨rfl, rfl⟩))
 go_ret2
 exact ⟨HO2.out, rfl⟩
set_option maxRecDepth 100000 in
set_option maxHeartbeats 1600000 in
theorem count_1 {w : World} (hG : Gl w) : Calls Tryz.prog 96 #[.string ⟨#[49]⟩] w (CntAt 1 true w) := by
 have hp : Lib.parseUintB 64 (⟨#[49]⟩ : ByteArray).data.toList = .ok 1 := by decide +kernel
 have hP := parse64 (t := ⟨#[49]⟩) hG (by decide)
 unfold Parse64 at hP
 rw [hp] at hP
 have HP := Lib.hid hP
 clear hP hp hG
 go_enter Tryz.func96, Tryz.ntmps96
 go_wp2_with (first
  | (go_at_call 107; refine HP.out.mono ?_; rintro e w2 ⟨ho2, rfl⟩; have HO2 := Lib.hid ho2; clear ho2)
  | (go_at_call 76; refine (decimal1 _).mono ?_; rintro e w3 ⟨rfl, rfl⟩))
 go_ret2
 exact ⟨HO2.out, rfl⟩
def plnB : Bytes → Option Bytes
 | [] => some []
 | x :: r => if x ≠ 37 then (plnB r).map (x :: ·) else match r with
  | a :: b :: r2 => if a = 54 ∧ b = 49 then (plnB r2).map (97 :: ·) else none
  | _ => none
theorem plnB_eq (x : UInt8) (r : Bytes) : plnB (x :: r) = if x ≠ 37 then (plnB r).map (x :: ·) else match r with
  | a :: b :: r2 => if a = 54 ∧ b = 49 then (plnB r2).map (97 :: ·) else none
  | _ => none := by
 cases r with
 | nil => rfl
 | cons a r => cases r with
  | nil => rfl
  | cons b r2 => rfl
theorem plnB_cons {x : UInt8} {r : Bytes} (h : x ≠ 37) : plnB (x :: r) = (plnB r).map (x :: ·) := by rw [plnB_eq, if_pos h]
theorem plnB_pct {r t : Bytes} (h : plnB (37 :: r) = some t) : ∃ r2, r = 54 :: 49 :: r2 ∧ plnB (37 :: r) = (plnB r2).map (97 :: ·) := by
 rw [plnB_eq, if_neg (by decide)] at h
 match r, h with
 | [], h => cases h
 | [_], h => cases h
 | a :: b :: r2, h =>
  simp only at h
  split at h
  ·rename_i hab
   obtain ⟨rfl, rfl⟩ := hab
   exact ⟨r2, rfl, by rw [plnB_eq, if_neg (by decide)]; rfl⟩
  ·cases h
theorem at_drop {l r : Bytes} {j : Nat} {x : UInt8} (h : l.drop j = x :: r) : l[j]? = some x ∧ l.drop (j + 1) = r ∧ j < l.length := by
 have h1 : (l.drop j)[0]? = some x := by rw [h]; rfl
 rw [List.getElem?_drop, Nat.add_zero] at h1
 refine ⟨h1, ?_, (List.getElem?_eq_some_iff.1 h1).1⟩
 rw [← List.drop_drop, h]; rfl
theorem ix_of {l : Bytes} {j : Nat} {x : UInt8} (h : l[j]? = some x) (hjz : j < (⟨l.toArray⟩ : ByteArray).size) : (⟨l.toArray⟩ : ByteArray)[j]'hjz = x := by
 have hlt : j < l.length := (List.getElem?_eq_some_iff.1 h).1
 have e : l[j]? = some l[j] := List.getElem?_eq_getElem hlt
 rw [h] at e
 simp only [Option.some.injEq] at e
 rw [e]; rfl
theorem index_dig (c : UInt8) (w : World) : Calls Tryz.prog 87 #[.string ⟨#[48, 49, 50, 51, 52, 53, 54, 55, 56, 57, 97, 98, 99, 100, 101, 102, 48, 49, 50, 51, 52, 53, 54, 55, 56, 57, 65, 66, 67, 68, 69, 70]⟩, .int .u8 c.toNat] w fun e w' => e = .returned (.int .i64 (Lib.indexByte [48, 49, 50, 51, 52, 53, 54, 55, 56, 57, 97, 98, 99, 100, 101, 102, 48, 49, 50, 51, 52, 53, 54, 55, 56, 57, 65, 66, 67, 68, 69, 70] c)) ∧ w' = w := by
 refine (Tryz.strings_IndexByte _ _ _).mono ?_
 rintro e w' ⟨rfl, rfl⟩
 refine ⟨?_, rfl⟩
 have hcc : ((c.toNat : Int)).toNat.toUInt8 = c := by simp
 rw [hcc]
theorem index_6 (w : World) : Calls Tryz.prog 87 #[.string ⟨#[48, 49, 50, 51, 52, 53, 54, 55, 56, 57, 97, 98, 99, 100, 101, 102, 48, 49, 50, 51, 52, 53, 54, 55, 56, 57, 65, 66, 67, 68, 69, 70]⟩, .int .u8 54] w fun e w' => e = .returned (.int .i64 6) ∧ w' = w := by
 have h := index_dig 54 w
 rw [show Lib.indexByte [48, 49, 50, 51, 52, 53, 54, 55, 56, 57, 97, 98, 99, 100, 101, 102, 48, 49, 50, 51, 52, 53, 54, 55, 56, 57, 65, 66, 67, 68, 69, 70] 54 = 6 by decide +kernel] at h
 exact h
theorem index_1 (w : World) : Calls Tryz.prog 87 #[.string ⟨#[48, 49, 50, 51, 52, 53, 54, 55, 56, 57, 97, 98, 99, 100, 101, 102, 48, 49, 50, 51, 52, 53, 54, 55, 56, 57, 65, 66, 67, 68, 69, 70]⟩, .int .u8 49] w fun e w' => e = .returned (.int .i64 1) ∧ w' = w := by
 have h := index_dig 49 w
 rw [show Lib.indexByte [48, 49, 50, 51, 52, 53, 54, 55, 56, 57, 97, 98, 99, 100, 101, 102, 48, 49, 50, 51, 52, 53, 54, 55, 56, 57, 65, 66, 67, 68, 69, 70] 49 = 1 by decide +kernel] at h
 exact h
def PlnAt (t : Bytes) (w : World) (e : Ending) (w' : World) : Prop := Only (fun _ => False) w w' ∧ e = .returned (.tuple #[.string ⟨t.toArray⟩, .bool true])
theorem only_own {w wr w' : World} {v : Value} {out : Bytes} (h : Only (fun _ => False) w wr) (ho : OwnB wr w.heap.size v out) (hg : wr.grownBy w' v.ownBlock) : Only (fun _ => False) w w' :=
 h.grown hg (fun k hk hlt => by have := (ho.lt k hk).1; omega)
set_option maxRecDepth 100000 in
set_option maxHeartbeats 3200000 in
theorem plain_ok {l t : Bytes} {w : World} (h : plnB l = some t) (hl : l.length ≤ 1000) : Calls Tryz.prog 119 #[.string ⟨l.toArray⟩] w (PlnAt t w) := by
 have HL := Lib.hid hl
 have hlz : (l.length : Int) ≤ 1000 := by omega
 have HP := Lib.hid (show (plnB (l.drop 0)).map (([] : Bytes) ++ ·) = some t by rw [List.drop_zero, h]; rfl)
 have HI6 := Lib.hid index_6
 have HI1 := Lib.hid index_1
 clear h hl
 go_enter Tryz.func119, Tryz.ntmps119
 go_upto_region 3 with (fail)
 go_loopw [5, 4] (fun s5 s4 wr => ∃ (j : Nat) (out : Bytes), j ≤ l.length ∧ s5 = .int .i64 (j : Int) ∧ OwnB wr w.heap.size s4 out ∧ out.length ≤ j ∧ Only (fun _ => False) w wr ∧ (plnB (l.drop j)).map (out ++ ·) = some t) (fun i _ _ => l.length - (intOf i).toNat)
 case atStart => exact ⟨0, [], by omega, rfl, OwnB.nil _ _, by simp, Only.refl _ _, HP.out⟩
 case round =>
  obtain ⟨j, out, hj, rfl, hown, hol, hon, hp⟩ := hrel
  have HON := Lib.hid hon
  have HOL := Lib.hid hol
  have HSZ := Lib.hid hon.size
  obtain ⟨A0, c0, rfl⟩ := hown.form
  have HOWN := Lib.hid hown
  clear hon hol hown
  cases hd : l.drop j with
  | nil =>
   have hjl : j = l.length := by
    have := congrArg List.length hd
    simp at this; omega
   have q : decide ((j : Int) < (l.length : Int)) = false := by simp; omega
   have ht : out = t := by
    rw [hd] at hp
    simpa [plnB] using hp
   subst ht
   subst hjl
   clear hp hd
   go_wp2_with (refine wpList_text_of rfl (.tmp 56) rfl rfl rfl HOWN.out.bytes.2 ?_)
   go_ret2
   exact ⟨HON.out, rfl⟩
  | cons x r =>
   obtain ⟨hx, hr, hlt⟩ := at_drop hd
   have q : decide ((j : Int) < (l.length : Int)) = true := by simp; omega
   have hjzi : (j : Int) < (l.length : Int) := by omega
   have hjz : j < (⟨l.toArray⟩ : ByteArray).size := by show j < l.toArray.size; simpa using hlt
   have hix := ix_of hx hjz
   rw [hd] at hp
   by_cases h37 : x = 37
   ·subst h37
    have hsome : ∃ u, plnB (37 :: r) = some u := by
     cases hh : plnB (37 :: r) with
     | none => rw [hh] at hp; cases hp
     | some u => exact ⟨u, rfl⟩
    obtain ⟨u, hu⟩ := hsome
    obtain ⟨r2, hr2, he⟩ := plnB_pct hu
    rw [he] at hp
    subst hr2
    obtain ⟨hx1, hd2, hlt1⟩ := at_drop hr
    obtain ⟨hx2, hd3, hlt2⟩ := at_drop hd2
    have hjz1 : j + 1 < (⟨l.toArray⟩ : ByteArray).size := by show j + 1 < l.toArray.size; simpa using hlt1
    have hjz2 : j + 2 < (⟨l.toArray⟩ : ByteArray).size := by show j + 2 < l.toArray.size; simpa using hlt2
    have hix1 := ix_of hx1 hjz1
    have hix2 := ix_of hx2 hjz2
    have hz2 : (j : Int) + 2 < (l.length : Int) := by omega
    have q3 : decide ((l.length : Int) - (j : Int) < 3) = false := by simp; omega
    have HPP := Lib.hid hp
    have HD3 := Lib.hid hd3
    have HLT := Lib.hid hlt2
    clear hp hd hd2 hd3 hr he hu hx hx1 hx2 hlt hlt1 hlt2
    have hz1 : (j : Int) + 1 < (l.length : Int) := by omega
    have hb1 : (0 : Int) ≤ (j : Int) + 1 := by omega
    have hb2 : (0 : Int) ≤ (j : Int) + 2 := by omega
    have hp1 : ((j : Int) + 1).toNat < (⟨l.toArray⟩ : ByteArray).size := by omega
    have hp2 : ((j : Int) + 2).toNat < (⟨l.toArray⟩ : ByteArray).size := by omega
    have hn1 : ((j : Int) + 1).toNat = j + 1 := by omega
    have hn2 : ((j : Int) + 2).toNat = j + 2 := by omega
    have hy1 : (⟨l.toArray⟩ : ByteArray)[((j : Int) + 1).toNat]'hp1 = 54 := by simp only [hn1]; exact hix1
    have hy2 : (⟨l.toArray⟩ : ByteArray)[((j : Int) + 2).toNat]'hp2 = 49 := by simp only [hn2]; exact hix2
    clear hn1 hn2
    go_wp2
    go_quiet ((first | (go_at_call 87; exact Calls.quiet_of_same (HI6.out _)) | (go_at_call 87; exact Calls.quiet_of_same (HI1.out _))))
    go_wp2_with (refine wpList_append_bytes rfl (.tmp 45) (.tmp 52) rfl rfl ((HOWN.out.drewN nq).alloc _) rfl (ys := [97]) rfl (fun i y hy => new_cells _ [.int .u8 97] 5 (by cases i with | zero => simp at hy; subst hy; rfl | succ i => simp at hy)) (by have := HOL.out; have := HLT.out; have := HL.out; simp; omega) (by have := HSZ.out; simp; omega) ?_; intro v' w' hown' hgr'; have HOWN2 := Lib.hid hown'; have HON2 := Lib.hid (only_own (((HON.out.drewN nq)).alloc _) ((HOWN.out.drewN nq).alloc _) hgr'); clear hown' hgr')
    go_roundw
    case rel =>
     refine ⟨j + 3, out ++ [97], by have := HLT.out; omega, by push_cast; congr 1, HOWN2.out, by have := HOL.out; simp; omega, HON2.out, ?_⟩
     have := HPP.out
     rw [show j + 3 = j + 2 + 1 by omega, HD3.out]
     simpa [Option.map_map, Function.comp_def] using this
    case measure => have := HLT.out; simp [intOf]; omega
   ·have hxn : ((x.toNat : Int) != 37) = true := by
     have : x.toNat ≠ 37 := fun e => h37 (UInt8.toNat_inj.1 e)
     simp; omega
    rw [plnB_cons h37] at hp
    have HPP := Lib.hid hp
    have HR := Lib.hid hr
    have HLT := Lib.hid hlt
    clear hp hd hr hx hlt h37
    go_wp2_with (refine wpList_append_bytes rfl (.tmp 18) (.tmp 22) rfl rfl (HOWN.out.alloc _) rfl (ys := [x]) rfl (fun i y hy => new_cells _ [.int .u8 x.toNat] 5 (by cases i with | zero => simp at hy; subst hy; rfl | succ i => simp at hy)) (by have := HOL.out; have := HLT.out; have := HL.out; simp; omega) (by have := HSZ.out; simp; omega) ?_; intro v' w' hown' hgr'; have HOWN2 := Lib.hid hown'; have HON2 := Lib.hid (only_own (HON.out.alloc _) (HOWN.out.alloc _) hgr'); clear hown' hgr')
    go_roundw
    case rel =>
     refine ⟨j + 1, out ++ [x], by have := HLT.out; omega, by push_cast; rfl, HOWN2.out, by have := HOL.out; simp; omega, HON2.out, ?_⟩
     have := HPP.out
     rw [HR.out]
     simpa [Option.map_map, Function.comp_def] using this
    case measure => have := HLT.out; simp [intOf]; omega
section
variable {F : Fence} {n : Nat} {P : Program}
def SeqB {α : Type} (F : Fence) (n : Nat) (P : Program) (g : Nat) (lb : Array Value) (encs : α → Array Value) (Kp : World → World → Prop) (S : List α → Prop) (ok : List α → α → Prop) (w : World) (Bs : Nat) : Prop :=
 ∀ (l : Nat) (J : List α → World → Prop) (W : World), Below w.heap.size w W → AbidesFrom W.heap.size J → (∀ pre A v, J pre A → J pre (A.setCell ⟨Bs, 0, none⟩ v)) →
  (∀ pre x W1, J pre W1 → ok pre x → YieldAt F (n - 1) P l (encs x) W1 fun e W' => e = .returned (.bool true) ∧ J (pre ++ [x]) W' ∧ Kp W1 W') →
  J [] W →
  CallsIn F n P g (#[.func (.yield l) #[] #[]] ++ lb) W fun e W' => (∃ v, e = .returned v) ∧ ∃ xs, S xs ∧ J xs W'
def goesOn (B : Nat) (Kp : World → World → Prop) (R : World → Prop) (W : World) : Exit → Act → World → Prop
 | .normal, _, W' => KeepsFrom B W W' ∧ Kp W W' ∧ R W'
 | _, _, _ => False
theorem wpIn_rangeFunc_box {α : Type} {g : Operand} {ps : Array Tmp} {assign body : Code} {Q : Exit → Act → World → Prop} {a : Act} {w : World}
  (hro : F.round = none) (h1 : 1 ≤ n) {gf : Nat} {lb : Array Value} (hg : a.eval g = .func (.func gf) #[] lb) (hFg : F.fn gf) (eg : ∀ args w, (callFunc gf args).run P w = .ok (.enter gf args) w)
  {encs : α → Array Value} {Kp : World → World → Prop} {S : List α → Prop} {ok : List α → α → Prop} {w0 : World} {Bs : Nat} (hseq : SeqB F (n - 1) P gf lb encs Kp S ok w0 Bs) (hBs : Bs < w.heap.size)
  (hKt : ∀ {A B C : World}, Kp A B → Kp B C → Kp A C) (hKb : ∀ (W : World) (l : Nat) (o o' : Obj), w.heap.size ≤ l → W.heap[l]? = some o → Kp W (W.putObj l o')) (hb0 : Below w0.heap.size w0 w) (hps : ∀ x, (encs x).size = ps.size)
  (I : List α → World → Prop) (hI : OwnFrom w.heap.size I) (hIB : ∀ pre A v, I pre A → I pre (A.setCell ⟨Bs, 0, none⟩ v)) (h0 : I [] w) (a₁ : α → Act)
  (hassign : ∀ (l : Nat) (x : α) (W : World) (K : Act → World → Prop), K (a₁ x) W →
   assign.wpIn (F.inRound l) (n - 1 - 1) P (Exit.then K (fun _ _ _ => False)) { tmps := (ps.zip (encs x)).foldl (fun t (p, v) => t.setIfInBounds p v) a.tmps, defers := [] } W)
  (hbody : ∀ (l : Nat) (pre : List α) (x : α) (W : World), I pre W → ok pre x → body.wpIn (F.inRound l) (n - 1 - 1) P (goesOn w.heap.size Kp (I (pre ++ [x])) W) (a₁ x) W)
  (hdone : ∀ (D : Nat) (xs : List α) (W : World), w.heap.size ≤ D → S xs → I xs W → W.heap[D]? = some (.deferred (some [])) → Q .normal { a with defers := { target := .collected D, args := #[] } :: a.defers } W) :
  (Code.rangeFunc g ps assign body).wpIn F n P Q a w := by
 refine wpIn_rangeFunc ?_
 intro fn hfn
 rw [hro]
 have hset : ∀ (A : World) (v : Value) (k : Nat) (o : Obj), k ≠ Bs → A.heap[k]? = some o → (A.setCell ⟨Bs, 0, none⟩ v).heap[k]? = some o := fun A v k o hk h =>
  ((grownBy_setCell' A Bs v).block k (Array.getElem?_eq_some_iff.1 h).1 (fun e => hk (Option.some.inj e))).trans h
 obtain ⟨D, hD⟩ : ∃ D, D = w.heap.size := ⟨_, rfl⟩
 obtain ⟨rec, hrec⟩ : ∃ rec : LoopState → Loop, rec = fun st => { state := st, pending := none, fn, tmps := a.tmps, params := ps, assign, body, defers := w.heap.size } := ⟨_, rfl⟩
 obtain ⟨W1, hW1⟩ : ∃ W1, (w.alloc (.deferred (some []))).alloc (.loop (rec .ready)) = W1 := ⟨_, rfl⟩
 have hL1 : W1.heap[w.heap.size + 1]? = some (.loop (rec .ready)) := by
  have := World.alloc_heap_new (w.alloc (.deferred (some []))) (.loop (rec .ready))
  rwa [World.size_alloc, hW1] at this
 have hK1 : W1.heap[w.heap.size]? = some (.deferred (some [])) := by
  rw [← hW1]; exact (Below.heap_alloc _ _ _ (by simp)).trans (World.alloc_heap_new w _)
 have hI1 : I [] W1 := by rw [← hW1]; exact hI.alloc _ (hI.alloc _ h0)
 have hb1 : Below w0.heap.size w0 W1 := by
  rw [← hW1]; exact hb0.trans ((((Below.refl _ w).alloc (Nat.le_refl _) _).alloc (by simp) _).mono hb0.size)
 have hsz1 : W1.heap.size = w.heap.size + 2 := by rw [← hW1]; simp
 refine ⟨w.heap.size + 1, [{ target := .collected w.heap.size, args := #[] }], W1, { target := .fn (.func gf) lb, args := #[.func (.yield (w.heap.size + 1)) #[] #[]] }, W1, gf,
  #[.func (.yield (w.heap.size + 1)) #[] #[]] ++ lb, W1, ?_, ?_, ?_, ?_, fun _ => h1, ?_⟩
 ·rw [← hW1, hrec]; exact run_enterLoop_outer _ _ _ _ _
 ·simp only [resolve, hg]
  simp [go_sem]
 ·intro f' hf'; simp [Target.leads] at hf'; subst hf'; exact hFg
 ·simp [invoke, go_sem, eg]
 ·refine (hseq (w.heap.size + 1) (fun pre W => I pre W ∧ W.heap[w.heap.size + 1]? = some (.loop (rec .ready)) ∧ W.heap[w.heap.size]? = some (.deferred (some []))) W1 hb1 ?_ ?_ ?_ ⟨hI1, hL1, hK1⟩).mono ?_
  ·rintro s A B row ⟨hs, hl, hk⟩ hg' hr
   refine ⟨hI s A B row hs hg' (fun r e => ?_), (grownBy_keeps hg' (fun r e => (hr r e).2) hl rfl).trans hl, (grownBy_keeps hg' (fun r e => (hr r e).2) hk rfl).trans hk⟩
   obtain ⟨hB, o, ho, hw⟩ := hr r e
   exact ⟨by omega, o, ho, Obj.not_cells_of_walk hw⟩
  ·rintro pre A v ⟨hs, hl, hk⟩
   exact ⟨hIB pre A v hs, hset A v _ _ (by omega) hl, hset A v _ _ (by omega) hk⟩
  ·rintro pre x W ⟨hi, hl, hk⟩ hok
   have hlt : w.heap.size + 1 < W.heap.size := (Array.getElem?_eq_some_iff.1 hl).1
   have hy := run_yield (P := P) (args := encs x) hl (by rw [hrec]; exact hps x)
   rw [hrec] at hy
   refine ⟨fn, _, assign, body, hy, roundIn_of_wpIn hfn (hassign _ x W _ ⟨_, run_beginRound hl (by rw [hrec]), ?_⟩)⟩
   have hl2 : (W.putObj (w.heap.size + 1) (.loop { rec .ready with state := .busy })).heap[w.heap.size + 1]? = some (.loop { rec .ready with state := .busy }) := World.putObj_heap_same hlt
   have hk2 : (W.putObj (w.heap.size + 1) (.loop { rec .ready with state := .busy })).heap[w.heap.size]? = some (.deferred (some [])) := (World.putObj_heap_other (by omega)).trans hk
   have hw2 : Kp W (W.putObj (w.heap.size + 1) (.loop { rec .ready with state := .busy })) := hKb _ _ _ _ (by omega) hl
   refine wpIn_mono (hbody _ pre x _ (hI.putObj _ hi (by omega) hl rfl) hok) ?_
   rintro e a3 W3 hp
   cases e with
   | normal =>
    obtain ⟨hk3, hkp3, hi3⟩ := hp
    have hl3 := hk3.same _ _ (by omega) hl2 rfl
    have hr3 := run_endRound (P := P) none hl3
    rw [hrec] at hr3 hl3
    refine ⟨_, _, hr3, rfl, ⟨hI.putObj _ hi3 (by omega) hl3 rfl, ?_, ?_⟩, hKt (hKt hw2 hkp3) (hKb _ _ _ _ (by omega) hl3)⟩
    ·rw [hrec]; exact World.putObj_heap_same (Array.getElem?_eq_some_iff.1 hl3).1
    ·exact (World.putObj_heap_other (by omega)).trans (hk3.same _ _ (Nat.le_refl _) hk2 rfl)
   | ret => exact hp.elim
   | exit id => exact hp.elim
   | goto t => exact hp.elim
   | panic ch => exact hp.elim
   | outgrown => exact hp.elim
  ·rintro e W2 ⟨⟨v, rfl⟩, xs, hS, hi, hl, hk⟩
   have he := run_endLoop (P := P) hl (by rw [hrec]; simp)
   rw [hrec] at he
   exact ⟨none, _, he, hdone _ xs _ (Nat.le_refl _) hS (hI.putObj _ hi (by omega) hl rfl) ((World.putObj_heap_other (by omega)).trans hk)⟩
end
end Go.Proofs.YtjehnejgojgahaaGreatDoor
