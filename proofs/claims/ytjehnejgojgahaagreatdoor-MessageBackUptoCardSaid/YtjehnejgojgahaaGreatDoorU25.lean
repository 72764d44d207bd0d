/-
  A part of the proof of MessageBack (bulk at most 1048576): the texts C2.
-/
import Derived.Test.YtjehnejgojgahaaGreatDoorU21
import Derived.Test.YtjehnejgojgahaaGreatDoorU24
import Derived.Test.YtjehnejgojgahaaGreatDoorRows

/- C2 -/
namespace Go.Proofs.YtjehnejgojgahaaGreatDoor
open Go.RowKit Go.ChangeShapes Go.Deep
set_option linter.unusedVariables false
set_option linter.unusedSimpArgs false

section
variable {H : Type} {enc : TypeId × Value → H} {w : World} {fuel : Nat} {cs : List Value} {x : DataW H × List MemPlace}
theorem bulk_one (d : DataW H) : 1 ≤ Rows.uptoBulk d := by
  cases d
  case lit l => cases l <;> simp [Rows.uptoBulk]
  all_goals simp [Rows.uptoBulk]
theorem bulk_map {f : Nat → Nat} {D : Nat → DataW H} : ∀ L : List Nat, (∀ i ∈ L, f i ≤ Rows.uptoBulk (D i)) → (L.map f).sum ≤ Rows.uptoBulkAll (L.map D)
  | [], _ => by simp
  | i :: L, h => by
    have h1 := h i (by simp)
    have h2 := bulk_map L (fun j hj => h j (by simp [hj]))
    simp only [List.map_cons, List.sum_cons, Rows.uptoBulkAll]
    omega
theorem bulk_len : ∀ l : List (DataW H), l.length ≤ Rows.uptoBulkAll l
  | [] => by simp
  | d :: l => by
    have h1 := bulk_one d
    have h2 := bulk_len l
    simp only [List.length_cons, Rows.uptoBulkAll]
    omega
theorem spot_none {a : Addr} {v : Value} (h : w.cell? a = some v) : a.spot = none := by
  unfold World.cell? at h
  split at h
  · split at h
    · cases h
    · rename_i hs
      cases hh : a.spot with
      | none => rfl
      | some s => rw [hh] at hs; simp at hs
  · cases h
theorem add_none {a : Addr} (h : a.spot = none) (k : Nat) : a.add k = ⟨a.block, a.off + k, none⟩ := by
  unfold Addr.add
  split
  · rename_i hk
    subst hk
    obtain ⟨b, o, s⟩ := a
    simp only at h
    subst h
    rfl
  · rfl
theorem cells_at {base n : Nat} {a : Addr} {cs' : List Value} (h : w.cells? base a n = some cs') : cs'.length = n ∧ ∀ j, j < n → ∃ v, cs'[j]? = some v ∧ w.cell? (a.add j) = some v := by
  unfold World.cells? at h
  split at h
  · refine ⟨by rw [Lib.mapM_length h, List.length_range], fun j hj => ?_⟩
    obtain ⟨v, h1, h2⟩ := Lib.mapM_at h j j (by rw [List.getElem?_range hj])
    exact ⟨v, h1, h2⟩
  · cases h
theorem cells_range {base n k : Nat} {a : Addr} {cs' : List Value} (hs : a.spot = none) (h : w.cells? base (a.add k) n = some cs') : w.rangeAt a.block (a.off + k) cs' := by
  obtain ⟨hl, hc⟩ := cells_at h
  intro j v hv
  have hj := (List.getElem?_eq_some_iff.1 hv).1
  obtain ⟨v', h1, h2⟩ := hc j (by omega)
  rw [hv] at h1
  cases h1
  rw [add_none hs, add_none (a := ⟨a.block, a.off + k, none⟩) rfl] at h2
  exact h2
/-- A slice of bytes. -/
theorem read_bytes (h : DataW.trod enc Tryz.prog w 0 (fun _ => true) true fuel 22 cs = some x) : ∃ b : Bytes, EB (fun _ => True) w b cs ∧ b.length ≤ Rows.uptoBulk x.1 := by
  rcases open_ints Tryz.underlying22 Tryz.underlying5 (by kernel_rfl) h with ⟨rfl, rfl⟩ | ⟨a, len, cap, zs, rfl, _, hlc, _, hz, rfl, hc, hw⟩
  · exact ⟨[], ⟨none, 0, rfl, fun i x h => by simp at h, Nat.zero_le _, fun _ _ _ _ => trivial⟩, by simp⟩
  · simp only [if_true] at hz
    have hx : ∀ i, i < len → ∃ y : UInt8, zs[i]? = some (y.toNat : Int) ∧ w.cell? (a.add i) = some (.int .u8 y.toNat) := by
      intro i hi
      have hiz : i < zs.length := by omega
      obtain ⟨y, hy⟩ := wf_u8 (hw zs[i] (List.getElem_mem hiz))
      have hci := hc i hiz
      have e : zs[i]? = some (y.toNat : Int) := by rw [List.getElem?_eq_getElem hiz, hy]
      refine ⟨y, e, ?_⟩
      rw [hci, List.getD_eq_getElem?_getD, e]
      rfl
    have hf : ∃ f : Nat → UInt8, ∀ i, i < len → zs[i]? = some ((f i).toNat : Int) ∧ w.cell? (a.add i) = some (.int .u8 (f i).toNat) :=
      ⟨fun i => if hi : i < len then Classical.choose (hx i hi) else 0, fun i hi => by simp only [dif_pos hi]; exact Classical.choose_spec (hx i hi)⟩
    obtain ⟨f, hf⟩ := hf
    refine ⟨(List.range len).map f, ⟨some a, cap, by simp, ?_, by simp; exact hlc, fun _ _ _ _ => trivial⟩, ?_⟩
    · intro i y hy
      have hi : i < len := by have := (List.getElem?_eq_some_iff.1 hy).1; simpa using this
      rw [List.getElem?_map, List.getElem?_range hi] at hy
      simp only [Option.map_some, Option.some.injEq] at hy
      have h0 := (hf 0 (by omega)).2
      have hs : a.spot = none := spot_none (a := a) (by rw [show a = a.add 0 from by unfold Addr.add; rw [if_pos rfl]]; exact h0)
      have hci := (hf i hi).2
      rw [add_none hs, hy] at hci
      refine ⟨a.block, a.off, ?_, hci⟩
      have := add_none hs 0
      unfold Addr.add at this
      rw [if_pos rfl] at this
      rw [this]
    · have h1 := bulk_len (lits (H := H) .u8 (zs.take len))
      simp only [Rows.uptoBulk, List.length_map, List.length_range]
      unfold lits at h1 ⊢
      rw [List.length_map, List.length_take] at h1
      omega
theorem u40 : Tryz.prog.underlying 40 = some (.slice 24) := by kernel_rfl
/-- A slice of hashes. -/
theorem read_digests (h : DataW.trod enc Tryz.prog w 0 (fun _ => true) true fuel 40 cs = some x) : ∃ (A : Option Addr) (c : Nat) (l : List Bytes), cs = [.slice A l.length c] ∧ RowAt ED 32 (fun _ => True) w A l ∧ (∀ y ∈ l, y.length = 32) ∧ l.length ≤ Rows.uptoBulk x.1 := by
  rcases open_slice u40 h with ⟨rfl, rfl⟩ | ⟨a, len, cap, m, n, D, Pl, rfl, _, hlc, _, hm, rfl, hc⟩
  · exact ⟨none, 0, [], rfl, fun i a h => by simp at h, by simp, by simp⟩
  · simp only [if_true] at hm
    have hx : ∀ i, i < len → ∃ y : Bytes, y.length = 32 ∧ a.spot = none ∧ w.rangeAt a.block (a.off + i * 32) (u8s y) := by
      intro i hi
      obtain ⟨cs', h1, h2⟩ := hc i (by omega)
      rw [c24] at h1
      obtain ⟨h3, _⟩ := Go.keyLits_of_trod 2 24 (by kernel_rfl) _ _ _ h2
      obtain ⟨y, rfl, hy⟩ := arr_of_lits (d := 0) Tryz.underlying24 c24 h3
      have hs : a.spot = none := by
        obtain ⟨cs0, h01, h02⟩ := hc 0 (by omega)
        rw [c24] at h01
        obtain ⟨v, _, hv⟩ := (cells_at h01).2 0 (by omega)
        refine spot_none (w := w) (a := a) (v := v) ?_
        rw [show (a.add (0 * 32)).add 0 = a from by unfold Addr.add; simp] at hv
        exact hv
      exact ⟨y, hy, hs, cells_range hs h1⟩
    have hf : ∃ f : Nat → Bytes, ∀ i, i < len → (f i).length = 32 ∧ a.spot = none ∧ w.rangeAt a.block (a.off + i * 32) (u8s (f i)) :=
      ⟨fun i => if hi : i < len then Classical.choose (hx i hi) else [], fun i hi => by simp only [dif_pos hi]; exact Classical.choose_spec (hx i hi)⟩
    obtain ⟨f, hf⟩ := hf
    refine ⟨some a, cap, (List.range len).map f, by simp, ?_, ?_, ?_⟩
    · intro i y hy
      have hi : i < len := by have := (List.getElem?_eq_some_iff.1 hy).1; simpa using this
      rw [List.getElem?_map, List.getElem?_range hi] at hy
      simp only [Option.map_some, Option.some.injEq] at hy
      subst hy
      obtain ⟨h1, h2, h3⟩ := hf i hi
      refine ⟨a.block, a.off, _, ?_, h3, by rw [u8s_length, h1], rfl, h1⟩
      have := add_none h2 0
      unfold Addr.add at this
      rw [if_pos rfl] at this
      rw [this]
    · intro y hy
      obtain ⟨i, hi, rfl⟩ := List.mem_map.1 hy
      exact (hf i (List.mem_range.1 hi)).1
    · have h1 := bulk_len ((List.range len).map D)
      simp only [Rows.uptoBulk, List.length_map, List.length_range] at h1 ⊢
      omega
def sizeI (p : Bytes × Bytes) : Nat := p.1.length + p.2.length
theorem u50 : Tryz.prog.underlying 50 = some (.slice 105) := by kernel_rfl
theorem c105 : Tryz.prog.cellsOf 105 = 2 := by kernel_rfl
theorem c22 : Tryz.prog.cellsOf 22 = 1 := by kernel_rfl
/-- A slice of entries. -/
theorem read_items (h : DataW.trod enc Tryz.prog w 0 (fun _ => true) true fuel 50 cs = some x) : ∃ (A : Option Addr) (c : Nat) (l : List (Bytes × Bytes)), cs = [.slice A l.length c] ∧ RowAt EI 2 (fun _ => True) w A l ∧ (l.map sizeI).sum ≤ Rows.uptoBulk x.1 ∧ l.length ≤ Rows.uptoBulk x.1 := by
  rcases open_slice u50 h with ⟨rfl, rfl⟩ | ⟨a, len, cap, m, n, D, Pl, rfl, _, hlc, _, hm, rfl, hc⟩
  · exact ⟨none, 0, [], rfl, fun i a h => by simp at h, by simp, by simp⟩
  · simp only [if_true] at hm
    have hx : ∀ i, i < len → ∃ p : Bytes × Bytes, a.spot = none ∧ (∃ cs', w.rangeAt a.block (a.off + i * 2) cs' ∧ cs'.length = 2 ∧ EI (fun _ => True) w p cs') ∧ sizeI p ≤ Rows.uptoBulk (D i) := by
      intro i hi
      obtain ⟨cs', h1, h2⟩ := hc i (by omega)
      rw [c105] at h1
      have hs : a.spot = none := by
        obtain ⟨cs0, h01, h02⟩ := hc 0 (by omega)
        rw [c105] at h01
        obtain ⟨v, _, hv⟩ := (cells_at h01).2 0 (by omega)
        refine spot_none (w := w) (a := a) (v := v) ?_
        rw [show (a.add (0 * 2)).add 0 = a from by unfold Addr.add; simp] at hv
        exact hv
      obtain ⟨y0, y1, n', hxe, hl, k0, k1⟩ := trod_struct2 Tryz.underlying105 h2
      have hD : D i = .agg [y0.1, y1.1] := congrArg Prod.fst hxe
      simp only [c22] at k0 k1
      obtain ⟨b0, e0, s0⟩ := read_bytes k0
      obtain ⟨b1, e1, s1⟩ := read_bytes k1
      have hl2 := (cells_at h1).1
      refine ⟨(b0, b1), hs, ⟨cs', cells_range hs h1, hl2, ⟨_, _, ?_, e0, e1⟩⟩, ?_⟩
      · have e := split3 cs' 1 1
        rw [List.drop_of_length_le (show cs'.length ≤ 1 + 1 by omega), List.append_nil] at e
        rw [List.drop_zero]
        exact e
      · rw [hD]
        simp only [Rows.uptoBulk, Rows.uptoBulkAll, sizeI]
        omega
    have hf : ∃ f : Nat → Bytes × Bytes, ∀ i, i < len → a.spot = none ∧ (∃ cs', w.rangeAt a.block (a.off + i * 2) cs' ∧ cs'.length = 2 ∧ EI (fun _ => True) w (f i) cs') ∧ sizeI (f i) ≤ Rows.uptoBulk (D i) :=
      ⟨fun i => if hi : i < len then Classical.choose (hx i hi) else ([], []), fun i hi => by simp only [dif_pos hi]; exact Classical.choose_spec (hx i hi)⟩
    obtain ⟨f, hf⟩ := hf
    refine ⟨some a, cap, (List.range len).map f, by simp, ?_, ?_, ?_⟩
    · intro i y hy
      have hi : i < len := by have := (List.getElem?_eq_some_iff.1 hy).1; simpa using this
      rw [List.getElem?_map, List.getElem?_range hi] at hy
      simp only [Option.map_some, Option.some.injEq] at hy
      subst hy
      obtain ⟨h2, ⟨cs', h3, h4, h5⟩, _⟩ := hf i hi
      refine ⟨a.block, a.off, cs', ?_, h3, h4, h5⟩
      have := add_none h2 0
      unfold Addr.add at this
      rw [if_pos rfl] at this
      rw [this]
    · have h1 := bulk_map (f := fun i => sizeI (f i)) (D := D) (List.range len) (fun i hi => (hf i (List.mem_range.1 hi)).2.2)
      rw [List.map_map]
      simp only [Rows.uptoBulk]
      have e : (sizeI ∘ f) = fun i => sizeI (f i) := rfl
      rw [e]
      omega
    · have h1 := bulk_len ((List.range len).map D)
      simp only [Rows.uptoBulk, List.length_map, List.length_range] at h1 ⊢
      omega
end
theorem itemT_len (p : Bytes × Bytes) : (itemT p).length ≤ 2 * sizeI p + 50 := by
  unfold itemT
  rw [objT_len]
  simp only [List.zipWith_cons_cons, List.zipWith_nil_right, List.zipWith_nil_left, tailP_len, memP_len, wordT_len]
  rw [show tailP [] = [] from rfl]
  unfold sizeI
  simp [nLeaf, nExtra]
  omega
theorem tailP_sum : ∀ l : List (Bytes × Bytes), (tailP (l.map itemT)).length ≤ 2 * (l.map sizeI).sum + 51 * l.length
  | [] => by simp [tailP]
  | p :: l => by
    have h1 := itemT_len p
    have h2 := tailP_sum l
    rw [List.map_cons, tailP_len, List.map_cons, List.sum_cons, List.length_cons]
    omega
theorem entT_len (l : List (Bytes × Bytes)) : (entT l).length ≤ 2 * (l.map sizeI).sum + 51 * l.length + 100 := by
  unfold entT
  rw [lT_len]
  unfold arrT
  cases l with
  | nil => simp [joinP_nil, nEnt]
  | cons p l =>
    have h1 := itemT_len p
    have h2 := tailP_sum l
    rw [List.map_cons, joinP_cons, List.map_cons, List.sum_cons, List.length_cons]
    simp [nEnt]
    omega
theorem size_mem {l : List (Bytes × Bytes)} {p : Bytes × Bytes} (h : p ∈ l) : sizeI p ≤ (l.map sizeI).sum := by
  induction l with
  | nil => cases h
  | cons q l ih =>
    rw [List.map_cons, List.sum_cons]
    rcases List.mem_cons.1 h with rfl | h
    · omega
    · have := ih h; omega
end Go.Proofs.YtjehnejgojgahaaGreatDoor
