/-
  A part of the proof of MessageBack (bulk at most 1048576): the texts C1.
-/
import Derived.Test.YtjehnejgojgahaaGreatDoorU19
import Derived.Test.YtjehnejgojgahaaGreatDoorU21
import Derived.MapViews
import Derived.ChangeKeysEq
import Derived.Deep.Slices
import Derived.ChangeSlices
import Derived.Lib.LaidTab

/- C1 -/
namespace Go.Proofs.YtjehnejgojgahaaGreatDoor
open Go.RowKit
set_option linter.unusedVariables false
set_option linter.unusedSimpArgs false

theorem wf_u8 {n : Int} (h : (Lit.int .u8 n).wf = true) : ∃ x : UInt8, n = x.toNat := by
  have h' : (decide (IntKind.u8.min ≤ n) && decide (n ≤ IntKind.u8.max)) = true := h
  have h0 : IntKind.u8.min = 0 := rfl
  have h1 : IntKind.u8.max = 255 := rfl
  rw [h0, h1, Bool.and_eq_true, decide_eq_true_eq, decide_eq_true_eq] at h'
  refine ⟨UInt8.ofNat n.toNat, ?_⟩
  rw [UInt8.toNat_ofNat']
  omega
theorem wf_u64 {n : Int} (h : (Lit.int .u64 n).wf = true) : ∃ k : Nat, n = k ∧ k < 18446744073709551616 := by
  have h' : (decide (IntKind.u64.min ≤ n) && decide (n ≤ IntKind.u64.max)) = true := h
  have h0 : IntKind.u64.min = 0 := rfl
  have h1 : IntKind.u64.max = 18446744073709551615 := rfl
  rw [h0, h1, Bool.and_eq_true, decide_eq_true_eq, decide_eq_true_eq] at h'
  exact ⟨n.toNat, by omega, by omega⟩
theorem wf_u16 {n : Int} (h : (Lit.int .u16 n).wf = true) : ∃ k : Nat, n = k ∧ k < 65536 := by
  have h' : (decide (IntKind.u16.min ≤ n) && decide (n ≤ IntKind.u16.max)) = true := h
  have h0 : IntKind.u16.min = 0 := rfl
  have h1 : IntKind.u16.max = 65535 := rfl
  rw [h0, h1, Bool.and_eq_true, decide_eq_true_eq, decide_eq_true_eq] at h'
  exact ⟨n.toNat, by omega, by omega⟩
theorem bytes_of_cells : ∀ cs : List Value, (∀ i, i < cs.length → ∃ x : UInt8, cs[i]? = some (.int .u8 x.toNat)) → ∃ l : Bytes, cs = u8s l ∧ l.length = cs.length
  | [], _ => ⟨[], rfl, rfl⟩
  | c :: cs, h => by
    obtain ⟨x, hx⟩ := h 0 (by simp)
    obtain ⟨l, hl, hn⟩ := bytes_of_cells cs (fun i hi => h (i + 1) (by simp; omega))
    simp at hx
    subst hx
    exact ⟨x :: l, by unfold u8s at hl ⊢; rw [List.map_cons, ← hl], by simp [hn]⟩
theorem int_of_lits {d : Nat} {t : TypeId} {q : IntKind} {cs : List Value} {l : List Lit} (hu : Tryz.prog.underlying t = some (.int q)) (h : Tryz.prog.keyLits (d + 1) t cs = some l) : ∃ n, cs = [.int q n] ∧ (Lit.int q n).wf = true := by
  obtain ⟨n, rfl, _⟩ := keyLits_int' hu h
  refine ⟨n, rfl, ?_⟩
  unfold Program.keyLits at h
  rw [hu] at h
  simp only [true_and] at h
  split at h
  · assumption
  · cases h
theorem arr_of_lits {d n : Nat} {T : TypeId} {cs : List Value} {ls : List Lit} (hu : Tryz.prog.underlying T = some (.array n 5)) (hc : Tryz.prog.cellsOf T = n) (h : Tryz.prog.keyLits (d + 2) T cs = some ls) : ∃ l : Bytes, cs = u8s l ∧ l.length = n := by
  have h5 : Tryz.prog.cellsOf 5 = 1 := by kernel_rfl
  unfold Program.keyLits at h
  rw [hu] at h
  simp only [] at h
  split at h
  · rename_i hlen
    obtain ⟨r, hr, _⟩ := Option.map_eq_some_iff.1 h
    have hl : cs.length = n := by rw [hlen, hc]
    obtain ⟨l, h1, h2⟩ := bytes_of_cells cs (fun i hi => by
      obtain ⟨b, _, hb⟩ := Lib.mapM_at hr i i (by rw [List.getElem?_range (by omega)])
      rw [h5, Nat.mul_one] at hb
      obtain ⟨z, hz, hw⟩ := int_of_lits Tryz.underlying5 hb
      obtain ⟨x, rfl⟩ := wf_u8 hw
      refine ⟨x, ?_⟩
      have : ((cs.drop i).take 1)[0]? = some (.int .u8 x.toNat) := by rw [hz]; rfl
      rw [List.getElem?_take, if_pos (by omega), List.getElem?_drop, Nat.add_zero] at this
      exact this)
    exact ⟨l, h1, by omega⟩
  · cases h
theorem u25 : Tryz.prog.underlying 25 = some (.int .u64) := by kernel_rfl
theorem split3 {α : Type} (cs : List α) (a b : Nat) : cs = cs.take a ++ ((cs.drop a).take b ++ cs.drop (a + b)) := by
  rw [← List.drop_drop, List.take_append_drop, List.take_append_drop]
set_option maxRecDepth 100000 in
theorem sct_of_lits {cs : List Value} {ls : List Lit} (h : Tryz.prog.keyLits (2 + 1) 28 cs = some ls) : ∃ (i s : Bytes) (t : Nat), i.length = 32 ∧ s.length = 64 ∧ t < 18446744073709551616 ∧ cs = sctC i t s := by
  unfold Program.keyLits at h
  rw [Tryz.underlying28] at h
  simp only [] at h
  split at h
  · rename_i hlen
    obtain ⟨r, hr, _⟩ := Option.map_eq_some_iff.1 h
    have hl : cs.length = 97 := by rw [hlen.1, c28]
    obtain ⟨_, _, k0⟩ := Lib.mapM_at hr 0 _ rfl
    obtain ⟨_, _, k1⟩ := Lib.mapM_at hr 1 _ rfl
    obtain ⟨_, _, k2⟩ := Lib.mapM_at hr 2 _ rfl
    simp only [c24, c25, c26] at k0 k1 k2
    obtain ⟨i, h0, hi⟩ := arr_of_lits Tryz.underlying24 c24 k0
    obtain ⟨n, h1, hw⟩ := int_of_lits u25 k1
    obtain ⟨t, rfl, ht⟩ := wf_u64 hw
    obtain ⟨s, h2, hs⟩ := arr_of_lits Tryz.underlying26 c26 k2
    refine ⟨i, s, t, hi, hs, ht, ?_⟩
    have e := split3 cs 32 1
    rw [List.drop_zero] at h0
    rw [h0, h1] at e
    have e2 : cs.drop (32 + 1) = u8s s := by rw [← h2, List.take_of_length_le (by rw [List.length_drop, hl]; omega)]
    rw [e2] at e
    unfold sctC
    simpa only [List.singleton_append] using e
  · cases h
set_option maxRecDepth 100000 in
theorem head_of_lits {cs : List Value} {ls : List Lit} (h : Tryz.prog.keyLits (2 + 1) 35 cs = some ls) : ∃ (r s : Bytes) (n m : Nat), r.length = 32 ∧ s.length = 64 ∧ n < 18446744073709551616 ∧ m < 18446744073709551616 ∧ cs = headC n m r s := by
  unfold Program.keyLits at h
  rw [Tryz.underlying35] at h
  simp only [] at h
  split at h
  · rename_i hlen
    obtain ⟨r0, hr, _⟩ := Option.map_eq_some_iff.1 h
    have hl : cs.length = 98 := by rw [hlen.1, c35]
    obtain ⟨_, _, k0⟩ := Lib.mapM_at hr 0 _ rfl
    obtain ⟨_, _, k1⟩ := Lib.mapM_at hr 1 _ rfl
    obtain ⟨_, _, k2⟩ := Lib.mapM_at hr 2 _ rfl
    obtain ⟨_, _, k3⟩ := Lib.mapM_at hr 3 _ rfl
    simp only [c24, c25, c26] at k0 k1 k2 k3
    obtain ⟨n0, h0, hw0⟩ := int_of_lits u25 k0
    obtain ⟨n, rfl, hn⟩ := wf_u64 hw0
    obtain ⟨m0, h1, hw1⟩ := int_of_lits u25 k1
    obtain ⟨m, rfl, hm⟩ := wf_u64 hw1
    obtain ⟨r, h2, hr2⟩ := arr_of_lits Tryz.underlying24 c24 k2
    obtain ⟨s, h3, hs⟩ := arr_of_lits Tryz.underlying26 c26 k3
    refine ⟨r, s, n, m, hr2, hs, hn, hm, ?_⟩
    have e := split3 cs 1 1
    rw [List.drop_zero] at h0
    rw [h0, h1] at e
    have e1 := split3 (cs.drop (1 + 1)) 32 64
    rw [h2, List.drop_drop] at e1
    rw [show 1 + 1 + 32 = 34 from rfl, h3] at e1
    have e3 : (cs.drop (1 + 1)).drop (32 + 64) = [] := List.drop_of_length_le (by rw [List.length_drop, hl]; omega)
    rw [e3, List.append_nil] at e1
    rw [e1] at e
    unfold headC
    simpa only [List.singleton_append] using e
  · cases h
end Go.Proofs.YtjehnejgojgahaaGreatDoor
