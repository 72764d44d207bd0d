/-
  A part of the proof of MessageTakes: the texts C2.
-/
import Derived.Test.YtjehnejgojgahaaGreatDoorK32
import Derived.Test.YtjehnejgojgahaaGreatDoorK37
import Derived.Test.YtjehnejgojgahaaGreatDoorRows
namespace Go.Proofs.YtjehnejgojgahaaGreatDoor
set_option linter.unusedVariables false
set_option linter.unusedSimpArgs false
open Go.RowKit Go.ChangeShapes Go.Deep
section
variable {H : Type} {enc : TypeId × Value → H} {w : World} {fuel : Nat} {cs : List Value} {x : DataW H × List MemPlace}
theorem bulk_one (d : DataW H) : 1 ≤ Rows.uptoBulk d := by
 cases d
 case lit l => cases l <;> simp [Rows.uptoBulk]
 all_goals simp [Rows.uptoBulk]
theorem bulk_len : ∀ l : List (DataW H), l.length ≤ Rows.uptoBulkAll l
 | [] => by simp
 | d :: l => by
  have h1 := bulk_one d
  have h2 := bulk_len l
  simp only [List.length_cons, Rows.uptoBulkAll]
  omega
theorem spot_none {a : Addr} {v : Value} (h : w.cell? a = some v) : a.spot = none := by
 unfold World.cell? at h
 split at h
 ·split at h
  ·cases h
  ·rename_i hs
   cases hh : a.spot with
   | none => rfl
   | some s => rw [hh] at hs; simp at hs
 ·cases h
theorem add_none {a : Addr} (h : a.spot = none) (k : Nat) : a.add k = ⟨a.block, a.off + k, none⟩ := by
 unfold Addr.add
 split
 ·rename_i hk
  subst hk
  obtain ⟨b, o, s⟩ := a
  simp only at h
  subst h
  rfl
 ·rfl
theorem read_bytes (h : DataW.trod enc Tryz.prog w 0 (fun _ => true) true fuel 22 cs = some x) : ∃ b : Bytes, EB (fun _ => True) w b cs ∧ b.length ≤ Rows.uptoBulk x.1 := by
 rcases open_ints Tryz.underlying22 Tryz.underlying5 (by kernel_rfl) h with ⟨rfl, rfl⟩ | ⟨a, len, cap, zs, rfl, _, hlc, _, hz, rfl, hc, hw⟩
 ·exact ⟨[], ⟨none, 0, rfl, fun i x h => by simp at h, Nat.zero_le _, fun _ _ _ _ => trivial⟩, by simp⟩
 ·simp only [if_true] at hz
  have hx : ∀ i, i < len → ∃ y : UInt8, zs[i]? = some (y.toNat : Int) ∧ w.cell? (a.add i) = some (.int .u8 y.toNat) := by
   intro i hi
   have hiz : i < zs.length := by omega
   obtain ⟨y, hy⟩ := wf_u8 (hw zs[i] (List.getElem_mem hiz))
   have hci := hc i hiz
   have e : zs[i]? = some (y.toNat : Int) := by rw [List.getElem?_eq_getElem hiz, hy]
   refine ⟨y, e, ?_⟩
   rw [hci, List.getD_eq_getElem?_getD, e]
   rfl
  have hf : ∃ f : Nat → UInt8, ∀ i, i < len → zs[i]? = some ((f i).toNat : Int) ∧ w.cell? (a.add i) = some (.int .u8 (f i).toNat) :=
   ⟨fun i => if hi : i < len then Classical.choose (hx i hi) else 0, fun i hi => by simp only [dif_pos hi]; exact Classical.choose_spec (hx i hi)⟩
  obtain ⟨f, hf⟩ := hf
  refine ⟨(List.range len).map f, ⟨some a, cap, by simp, ?_, by simp; exact hlc, fun _ _ _ _ => trivial⟩, ?_⟩
  ·intro i y hy
   have hi : i < len := by have := (List.getElem?_eq_some_iff.1 hy).1; simpa using this
   rw [List.getElem?_map, List.getElem?_range hi] at hy
   simp only [Option.map_some, Option.some.injEq] at hy
   have h0 := (hf 0 (by omega)).2
   have hs : a.spot = none := spot_none (a := a) (by rw [show a = a.add 0 from by unfold Addr.add; rw [if_pos rfl]]; exact h0)
   have hci := (hf i hi).2
   rw [add_none hs, hy] at hci
   refine ⟨a.block, a.off, ?_, hci⟩
   have := add_none hs 0
   unfold Addr.add at this
   rw [if_pos rfl] at this
   rw [this]
  ·have h1 := bulk_len (lits (H := H) .u8 (zs.take len))
   simp only [Rows.uptoBulk, List.length_map, List.length_range]
   unfold lits at h1 ⊢
   rw [List.length_map, List.length_take] at h1
   omega
end
end Go.Proofs.YtjehnejgojgahaaGreatDoor
