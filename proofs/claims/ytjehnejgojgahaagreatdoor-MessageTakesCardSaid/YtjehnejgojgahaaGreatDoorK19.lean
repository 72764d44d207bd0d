/-
  A part of the proof of MessageTakes: the texts Q2.
-/
import Derived.Test.YtjehnejgojgahaaGreatDoorK18
namespace Go.Proofs.YtjehnejgojgahaaGreatDoor
set_option linter.unusedVariables false
set_option linter.unusedSimpArgs false
open Go.RowKit Go.Shelf
attribute [local go_sem] Oper.semAt_some
theorem splitSeq0 (s sep : ByteArray) (w : World) :
  Calls Tryz.prog 136 #[.string s, .string sep, .int .i64 0] w fun e w' => e = .returned (.func (.func 156) #[] #[.pointer (some ⟨w.heap.size + 1, 0, none⟩), .pointer (some ⟨w.heap.size, 0, none⟩), .pointer (some ⟨w.heap.size + 2, 0, none⟩)]) ∧
   w' = ((w.alloc (.cells #[.string s] 9)).alloc (.cells #[.string sep] 9)).alloc (.cells #[.int .i64 0] 3) := by
 go_enter Tryz.func136, Tryz.ntmps136
 go_wp2
 go_ret
 exact ⟨rfl, rfl⟩
theorem splitSeq_any (s sep : ByteArray) (w : World) :
  Calls Tryz.prog 117 #[.string s, .string sep] w fun e w' => e = .returned (.func (.func 156) #[] #[.pointer (some ⟨w.heap.size + 1, 0, none⟩), .pointer (some ⟨w.heap.size, 0, none⟩), .pointer (some ⟨w.heap.size + 2, 0, none⟩)]) ∧
   w' = ((w.alloc (.cells #[.string s] 9)).alloc (.cells #[.string sep] 9)).alloc (.cells #[.int .i64 0] 3) := by
 go_enter Tryz.func117, Tryz.ntmps117
 go_wp2_with (go_at_call 136; refine (splitSeq0 _ _ _).mono ?_; rintro e w2 ⟨rfl, rfl⟩)
 go_ret
 exact ⟨rfl, rfl⟩
def Kp3 (b1 b2 b3 : Nat) (W W' : World) : Prop := ∀ k, k < 8 ∨ k = b1 ∨ k = b2 ∨ k = b3 → W'.heap[k]? = W.heap[k]?
theorem Kp3.trans {b1 b2 b3 : Nat} {A B C : World} (h : Kp3 b1 b2 b3 A B) (k : Kp3 b1 b2 b3 B C) : Kp3 b1 b2 b3 A C := fun i hi => (k i hi).trans (h i hi)
theorem Gl.same {W W' : World} (h : Gl W) (hk : ∀ k, k < 8 → W'.heap[k]? = W.heap[k]?) : Gl W' := by
 obtain ⟨w0, h1, h2, h3⟩ := h
 refine ⟨w0, h1, ?_, fun b hb => (hk b hb).trans (h3 b hb)⟩
 have h7 := hk 7 (by decide)
 rw [Array.getElem?_eq_getElem (by omega : 7 < W.heap.size)] at h7
 have := (Array.getElem?_eq_some_iff.1 h7).1
 omega
theorem box_cell {W : World} {B : Nat} {v : Value} {T : TypeId} (h : W.heap[B]? = some (.cells #[v] T (0, 0))) : W.cell? ⟨B, 0, none⟩ = some v ∧ W.frozen? ⟨B, 0, none⟩ = false := by
 have h2 : Boxed W B T v := h
 exact ⟨h2.cell, h2.frozen⟩
theorem box_set {W : World} {B : Nat} {v : Value} {T : TypeId} (h : W.heap[B]? = some (.cells #[v] T (0, 0))) (u : Value) : (W.setCell ⟨B, 0, none⟩ u).heap[B]? = some (.cells #[u] T (0, 0)) := by
 have h2 : Boxed W B T v := h
 exact h2.set u
theorem box_far {W : World} {B B' : Nat} {o : Obj} (h : W.heap[B]? = some o) (hne : B ≠ B') (u : Value) : (W.setCell ⟨B', 0, none⟩ u).heap[B]? = some o :=
 ((grownBy_setCell' W B' u).block B (Array.getElem?_eq_some_iff.1 h).1 (fun e => hne (Option.some.inj e))).trans h
structure SqI (W : World) (Bp Bs Bz : Nat) (s : Bytes) (wr : World) : Prop where
 gl : Gl wr
 s : wr.heap[Bs]? = some (.cells #[.string ⟨s.toArray⟩] 9 (0, 0))
 p : wr.heap[Bp]? = some (.cells #[.string ⟨#[38]⟩] 9 (0, 0))
 z : wr.heap[Bz]? = some (.cells #[.int .i64 0] 3 (0, 0))
theorem SqI.kept {W wr wx : World} {Bp Bs Bz : Nat} {s : Bytes} (h : SqI W Bp Bs Bz s wr) (hk : Kp3 Bp Bs Bz wr wx) : SqI W Bp Bs Bz s wx :=
 ⟨h.gl.same (fun k hk2 => hk k (.inl hk2)), (hk _ (by simp)).trans h.s, (hk _ (by simp)).trans h.p, (hk _ (by simp)).trans h.z⟩
theorem SqI.put {W wr : World} {Bp Bs Bz : Nat} {s : Bytes} (h : SqI W Bp Bs Bz s wr) (h8 : 8 ≤ Bs) (hp : Bp ≠ Bs) (hz : Bz ≠ Bs) (u : Bytes) : SqI W Bp Bs Bz u (wr.setCell ⟨Bs, 0, none⟩ (.string ⟨u.toArray⟩)) := by
 refine ⟨h.gl.same (fun k hk => ?_), box_set h.s _, box_far h.p hp _, box_far h.z hz _⟩
 have hsz := h.gl.size
 exact (grownBy_setCell' wr Bs _).block k (by omega) (fun e => by have := Option.some.inj e; omega)
set_option maxRecDepth 100000 in
set_option maxHeartbeats 3200000 in
theorem seq2 (n : Nat) (hn : 1 ≤ n) (Bp Bs Bz : Nat) (p1 p2 : Bytes) (h1 : Lib.index (p1 ++ 38 :: p2) [38] = (p1.length : Int)) (h2 : Lib.index p2 [38] = -1) (hl1 : p1.length ≤ 1000) (hl2 : p2.length ≤ 1000) (w : World) (hG : Gl w)
  (hs : w.heap[Bs]? = some (.cells #[.string ⟨(p1 ++ 38 :: p2).toArray⟩] 9 (0, 0))) (hp : w.heap[Bp]? = some (.cells #[.string ⟨#[38]⟩] 9 (0, 0))) (hz : w.heap[Bz]? = some (.cells #[.int .i64 0] 3 (0, 0))) (h8 : 8 ≤ Bs) (hps : Bp ≠ Bs) (hzs : Bz ≠ Bs) :
  SeqB Fence.wide n Tryz.prog 156 #[.pointer (some ⟨Bp, 0, none⟩), .pointer (some ⟨Bs, 0, none⟩), .pointer (some ⟨Bz, 0, none⟩)] (fun x : Bytes => #[.string ⟨x.toArray⟩]) (Kp3 Bp Bs Bz) (fun xs => xs = [p1, p2]) (fun pre x => (pre = [] ∧ x = p1) ∨ (pre = [p1] ∧ x = p2)) w Bs := by
 intro l J W hW hJ hJB hY h0
 have hBs := (Array.getElem?_eq_some_iff.1 hs).1
 have hBp := (Array.getElem?_eq_some_iff.1 hp).1
 have hBz := (Array.getElem?_eq_some_iff.1 hz).1
 have hq : SqI W Bp Bs Bz (p1 ++ 38 :: p2) W := ⟨hG.same (fun k hk => hW.block k (by have := hG.size; omega)), (hW.block _ hBs).trans hs, (hW.block _ hBp).trans hp, (hW.block _ hBz).trans hz⟩
 have HQ := Lib.hid hq
 have HY := Lib.hid hY
 have HJB := Lib.hid hJB
 have HJ0 := Lib.hid h0
 obtain ⟨T, hT⟩ : ∃ T, T = p1 ++ 38 :: p2 := ⟨_, rfl⟩
 have HT := Lib.hid hT
 have hTl : T.length = p1.length + 1 + p2.length := by rw [hT]; simp; omega
 have HTL := Lib.hid hTl
 have HIX1 := Lib.hid (show Lib.index (⟨T.toArray⟩ : ByteArray).data.toList (⟨#[38]⟩ : ByteArray).data.toList = (p1.length : Int) by rw [hT]; simpa using h1)
 have HIX2 := Lib.hid (show Lib.index (⟨p2.toArray⟩ : ByteArray).data.toList (⟨#[38]⟩ : ByteArray).data.toList = -1 by simpa using h2)
 have HSZ1 := Lib.hid (show (⟨T.toArray⟩ : ByteArray).size < 4294967281 by show T.toArray.size < _; simp; omega)
 have HSZ2 := Lib.hid (show (⟨p2.toArray⟩ : ByteArray).size < 4294967281 by show p2.toArray.size < _; simp; omega)
 have HE1 := Lib.hid (show (⟨T.toArray⟩ : ByteArray).extract 0 p1.length = ⟨p1.toArray⟩ by rw [hT]; apply ByteArray.ext; simp)
 have HE2 := Lib.hid (show (⟨T.toArray⟩ : ByteArray).extract (p1.length + 1) (p1.length + 1 + p2.length) = ⟨p2.toArray⟩ by rw [hT]; apply ByteArray.ext; simp)
 have H8 := Lib.hid h8
 have HPS := Lib.hid hps
 have HZS := Lib.hid hzs
 rw [← hT] at hq HQ
 clear hG hs hp hz hW hJ hJB hY h0 hBs hBp hBz hT h1 h2 hq
 refine callsIn_of_wp Tryz.func156 rfl trivial ?_ rfl
 simp only [Tryz.ntmps156, List.size_toArray, List.length_cons, List.length_nil, Nat.reduceAdd, Nat.reduceSub, Array.replicate_succ, Array.replicate_zero, List.push_toArray, List.append_toArray, List.nil_append, List.cons_append]
 have c1 := (box_cell HQ.out.s).1
 have c2 := (box_cell HQ.out.p).1
 have c3 := (box_cell HQ.out.z).1
 gi_wp2
 gi_loopw [7] (fun s7 wr => (SqI W Bp Bs Bz T wr ∧ J [] wr) ∨ (SqI W Bp Bs Bz p2 wr ∧ J [p1] wr)) (fun _ wr => match wr.cell? ⟨Bs, 0, none⟩ with | some (.string s) => s.size | _ => 0)
 case atStart => exact .inl ⟨HQ.out, HJ0.out⟩
 case round =>
  rcases hrel with ⟨hq, hj⟩ | ⟨hq, hj⟩
  ·obtain ⟨m, hm⟩ := hq.gl.mx
   obtain ⟨fn, tmps, assign, body, hy, hR⟩ := HY.out [] p1 wr hj (.inl ⟨rfl, rfl⟩)
   have hE1 := HE1.out
   have c1 := (box_cell hq.s).1
   have c2 := (box_cell hq.p).1
   have c3 := (box_cell hq.z).1
   have q : decide ((p1.length : Int) < 0) = false := by simp
   have HQ1 := Lib.hid hq
   have HR := Lib.hid hR
   have hle : (p1.length : Int) ≤ (T.length : Int) := by have := HTL.out; omega
   clear hq hj hR
   gi_wp2_with (refine ⟨trivial, ?_⟩; gi_at_call 157; refine (callsIn_wide.2 (Tryz.strings_Index _ _ m _ HSZ1.out hm)).mono ?_; rintro e w' ⟨rfl, rfl⟩; rw [HIX1.out])
   clear hE1
   refine HR.out.mono ?_
   rintro e W3 ⟨rfl, hj3, hk3⟩
   have hq3 := HQ1.out.kept hk3
   have c1 := (box_cell hq3.s).1
   have c2 := (box_cell hq3.p).1
   have c3 := (box_cell hq3.z).1
   have f1 := (box_cell hq3.s).2
   have HQ3 := Lib.hid hq3
   have HJ3 := Lib.hid hj3
   have hle2 : (p1.length : Int) + 1 ≤ (T.length : Int) := by have := HTL.out; omega
   clear hj3 hk3 hq3
   gi_wp2
   go_roundw
   case rel =>
    rw [HE2.out]
    exact .inr ⟨HQ3.out.put H8.out HPS.out HZS.out p2, HJB.out _ _ _ HJ3.out⟩
   case measure =>
    rw [HE2.out]
    have e1 := (box_cell (HQ3.out.put H8.out HPS.out HZS.out p2).s).1
    have e2 := (box_cell HQ1.out.s).1
    rw [e1, e2]
    show p2.toArray.size < T.toArray.size
    have := HTL.out
    simp; omega
  ·obtain ⟨m, hm⟩ := hq.gl.mx
   obtain ⟨fn, tmps, assign, body, hy, hR⟩ := HY.out [p1] p2 wr hj (.inr ⟨rfl, rfl⟩)
   have c1 := (box_cell hq.s).1
   have c2 := (box_cell hq.p).1
   have c3 := (box_cell hq.z).1
   have HQ1 := Lib.hid hq
   have HR := Lib.hid hR
   clear hq hj hR
   gi_wp2_with (refine ⟨trivial, ?_⟩; gi_at_call 157; refine (callsIn_wide.2 (Tryz.strings_Index _ _ m _ HSZ2.out hm)).mono ?_; rintro e w' ⟨rfl, rfl⟩; rw [HIX2.out])
   refine HR.out.mono ?_
   rintro e W3 ⟨rfl, hj3, hk3⟩
   have HJ3 := Lib.hid hj3
   clear hj3 hk3
   gi_wp2
   go_end0
   exact ⟨⟨_, rfl⟩, [p1, p2], rfl, HJ3.out⟩
end Go.Proofs.YtjehnejgojgahaaGreatDoor
