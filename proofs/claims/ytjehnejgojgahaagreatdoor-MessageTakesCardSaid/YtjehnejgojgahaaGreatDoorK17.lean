/-
  A part of the proof of MessageTakes: the texts E2.
-/
import Derived.Test.YtjehnejgojgahaaGreatDoorK10
import Derived.RangeFuncNested
import Derived.RangeFuncBound
import Derived.RangeFuncCalls
import Derived.RangeFuncLeaves
import Derived.Shelf.Abstract
import Derived.Shelf.RegionOpen
import Derived.OwnWalkIn
import Derived.TacticsInMore
import Derived.LoopNIn
import Derived.LoopIn
namespace Go.Proofs.YtjehnejgojgahaaGreatDoor
set_option linter.unusedVariables false
set_option linter.unusedSimpArgs false
open Go.RowKit Go.Shelf
attribute [local go_sem] Oper.semAt_some
def KpC (bs bn : Nat) (W W' : World) : Prop := ∀ k, k = bs ∨ k = bn → W'.heap[k]? = W.heap[k]?
theorem KpC.trans {bs bn : Nat} {A B C : World} (h : KpC bs bn A B) (k : KpC bs bn B C) : KpC bs bn A C := fun i hi => (k i hi).trans (h i hi)
def chunkV (b o m k : Nat) : Value := .slice (some ⟨b, o + 3 * k, none⟩) (min 3 (m - 3 * k)) (min 3 (m - 3 * k))
def upto {α : Type} (f : Nat → α) (k : Nat) : List α := (List.range k).map f
theorem upto_succ {α : Type} (f : Nat → α) (k : Nat) : upto f (k + 1) = upto f k ++ [f k] := by simp [upto, List.range_succ]
theorem upto_length {α : Type} (f : Nat → α) (k : Nat) : (upto f k).length = k := by simp [upto]
set_option maxRecDepth 100000 in
set_option maxHeartbeats 2000000 in
theorem chunk1_in (n : Nat) (hn : 1 ≤ n) (l Bs Bn b o m cap : Nat) (hm : m ≤ cap) (hcap : m ≤ 1000000000000) (J Jx : List Nat → World → Prop) (HJ : ∀ s (A : World) n, J s A → J s (A.drewN n))
  (hY : ∀ pre x W, J pre W → x = pre.length → 3 * x < m → YieldAt Fence.wide (n - 1) Tryz.prog l #[chunkV b o m x] W fun e W' =>
   (e = .returned (.bool true) ∧ J (pre ++ [x]) W' ∧ KpC Bs Bn W W') ∨ (e = .returned (.bool false) ∧ Jx (pre ++ [x]) W'))
  (W : World) (hBs : W.cell? ⟨Bs, 0, none⟩ = some (.slice (some ⟨b, o, none⟩) m cap)) (hBn : W.cell? ⟨Bn, 0, none⟩ = some (.int .i64 3)) (h0 : J [] W) :
  CallsIn Fence.wide n Tryz.prog 124 #[.func (.yield l) #[] #[], .pointer (some ⟨Bs, 0, none⟩), .pointer (some ⟨Bn, 0, none⟩)] W fun e W' => (∃ v, e = .returned v) ∧
   ((∃ ys, ys = upto id ((m + 2) / 3) ∧ J ys W') ∨ (∃ pre, (∃ k, k ≤ (m + 2) / 3 ∧ pre = upto id k) ∧ Jx pre W')) := by
 refine callsIn_of_wp Tryz.func124 rfl trivial ?_ rfl
 simp only [Tryz.ntmps124, List.size_toArray, List.length_cons, List.length_nil, Nat.reduceAdd, Nat.reduceSub, Array.replicate_succ, Array.replicate_zero, List.push_toArray, List.append_toArray, List.nil_append, List.cons_append]
 gi_wp2
 gi_loopw [4] (fun i wr => ∃ k : Nat, k ≤ (m + 2) / 3 ∧ i = .int .i64 ((3 * k : Nat) : Int) ∧ J (upto id k) wr ∧ wr.cell? ⟨Bs, 0, none⟩ = some (.slice (some ⟨b, o, none⟩) m cap) ∧ wr.cell? ⟨Bn, 0, none⟩ = some (.int .i64 3))
  (fun i _ => m + 3 - (intOf i).toNat)
 case atStart => exact ⟨0, Nat.zero_le _, rfl, h0, hBs, hBn⟩
 case round =>
  obtain ⟨k, hk, rfl, hJs, hs, hn3⟩ := hrel
  by_cases hlt : 3 * k < m
  ·have q : decide (((3 * k : Nat) : Int) < (m : Int)) = true := by simp; omega
   have q2 : decide ((3 : Int) * (k : Int) < (m : Int)) = true := by simp; omega
   have hb1 : ((3 * k : Nat) : Int) ≤ (m : Int) := by omega
   gi_wp2
   refine wpIn_wide.2 ?_
   obtain ⟨s, hs⟩ : ∃ s : Nat, s = min 3 (m - 3 * k) := ⟨_, rfl⟩
   have qs : (if ((m - 3 * k : Nat) : Int) < 3 then ((m - 3 * k : Nat) : Int) else 3) = (s : Int) := by
    rw [hs]; split <;> omega
   have HSM := Lib.hid hs
   have hs1 : 3 * k + s ≤ m := by omega
   have HS1 := Lib.hid hs1
   clear hs
   go_quiet (fail)
   have HJ2 := Lib.hid (HJ _ _ nq hJs)
   have hs2 : (wr.drewN nq).cell? ⟨Bs, 0, none⟩ = some (.slice (some ⟨b, o, none⟩) m cap) := hs
   have hn2 : (wr.drewN nq).cell? ⟨Bn, 0, none⟩ = some (.int .i64 3) := hn3
   clear hJs hs hn3
   generalize wr.drewN nq = w2 at HJ2 hs2 hn2 ⊢
   clear qs
   have e1 : ((3 * k : Nat) : Int) + (s : Int) = ((3 * k + s : Nat) : Int) := by omega
   obtain ⟨fn, tmps, assign, body, hy, hR⟩ := hY (upto id k) k w2 HJ2.out (upto_length _ _).symm hlt
   unfold chunkV at hy
   rw [← HSM.out] at hy
   have hsp : s ≠ 0 := by have := HSM.out; omega
   have hr : ∀ e W', ((e = Ending.returned (.bool true) ∧ J (upto id k ++ [k]) W' ∧ KpC Bs Bn w2 W') ∨ (e = .returned (.bool false) ∧ Jx (upto id k ++ [k]) W')) → ((e = Ending.returned (.bool true) ∧ J (upto id (k + 1)) W' ∧ KpC Bs Bn w2 W') ∨ (e = .returned (.bool false) ∧ Jx (upto id (k + 1)) W')) := by
    intro e W' h
    rw [upto_succ]; exact h
   have HR := Lib.hid hr
   have HLT := Lib.hid hlt
   clear hr
   gi_wp2
   refine hR.mono ?_
   rintro e W3 h3
   rcases HR.out _ _ h3 with ⟨rfl, hJ3, hk3⟩ | ⟨rfl, hJx3⟩
   ·have hs4 : W3.cell? ⟨Bs, 0, none⟩ = some (.slice (some ⟨b, o, none⟩) m cap) := (World.cell?_of_block (hk3 Bs (.inl rfl))).trans hs2
    have hn4 : W3.cell? ⟨Bn, 0, none⟩ = some (.int .i64 3) := (World.cell?_of_block (hk3 Bn (.inr rfl))).trans hn2
    have hb3 : (3 : Int) * (k : Int) + 3 ≤ 9223372036854775807 := by have := HLT.out; omega
    have hb4 : (-9223372036854775808 : Int) ≤ (3 : Int) * (k : Int) + 3 := by omega
    have hw3 : wrap64 ((3 : Int) * (k : Int) + 3) = 3 * (k : Int) + 3 := by unfold wrap64; omega
    gi_wp2
    go_roundw
    case rel => exact ⟨k + 1, by have := HLT.out; omega, by congr 1, hJ3, hs4, hn4⟩
    case measure => have := HLT.out; simp [intOf]; omega
   ·gi_wp2
    refine bodyPost_ret (results_none rfl _ _ _) rfl ?_
    exact ⟨⟨_, rfl⟩, .inr ⟨_, ⟨k + 1, by have := HLT.out; omega, rfl⟩, hJx3⟩⟩
  ·have q : decide (((3 * k : Nat) : Int) < (m : Int)) = false := by simp; omega
   have q2 : decide ((3 : Int) * (k : Int) < (m : Int)) = false := by simp; omega
   have hk' : k = (m + 2) / 3 := by omega
   have HK := Lib.hid hk'
   clear hk' hk hlt
   gi_wp2
   go_end0
   exact ⟨⟨_, rfl⟩, .inl ⟨_, by rw [HK.out], hJs⟩⟩
set_option maxHeartbeats 1000000 in
theorem chunk_any (A : Option Addr) (m c : Nat) (w : World) :
  Calls Tryz.prog 100 #[.slice A m c, .int .i64 3] w fun e w' => e = .returned (.func (.func 124) #[] #[.pointer (some ⟨w.heap.size, 0, none⟩), .pointer (some ⟨w.heap.size + 1, 0, none⟩)]) ∧
   w' = (w.alloc (.cells #[.slice A m c] 22)).alloc (.cells #[.int .i64 3] 3) := by
 go_enter Tryz.func100, Tryz.ntmps100
 go_wp2
 go_ret
 exact ⟨rfl, rfl⟩
theorem chunk1_nil (n l Bs Bn cap : Nat) (A : Option Addr) (J : List Nat → World → Prop) (W : World) (hBs : W.cell? ⟨Bs, 0, none⟩ = some (.slice A 0 cap)) (h0 : J [] W) :
  CallsIn Fence.wide n Tryz.prog 124 #[.func (.yield l) #[] #[], .pointer (some ⟨Bs, 0, none⟩), .pointer (some ⟨Bn, 0, none⟩)] W fun e W' => (∃ v, e = .returned v) ∧ J [] W' := by
 refine callsIn_of_wp Tryz.func124 rfl trivial ?_ rfl
 simp only [Tryz.ntmps124, List.size_toArray, List.length_cons, List.length_nil, Nat.reduceAdd, Nat.reduceSub, Array.replicate_succ, Array.replicate_zero, List.push_toArray, List.append_toArray, List.nil_append, List.cons_append]
 gi_wp2
 gi_loopw [4] (fun i wr => i = .int .i64 0 ∧ J [] wr ∧ wr.cell? ⟨Bs, 0, none⟩ = some (.slice A 0 cap)) (fun _ _ => 0)
 case atStart => exact ⟨rfl, h0, hBs⟩
 case round =>
  obtain ⟨rfl, hJs, hs⟩ := hrel
  gi_wp2
  go_end0
  exact ⟨⟨_, rfl⟩, hJs⟩
end Go.Proofs.YtjehnejgojgahaaGreatDoor
