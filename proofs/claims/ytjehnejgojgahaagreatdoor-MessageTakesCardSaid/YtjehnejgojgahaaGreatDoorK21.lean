/-
  A part of the proof of MessageTakes: the texts V0.
-/
import Derived.Test.YtjehnejgojgahaaGreatDoorK09
import Derived.Lib.EndianBits
import Derived.Lib.ValidAsc
import Derived.BigQuiet
namespace Go.Proofs.YtjehnejgojgahaaGreatDoor
set_option linter.unusedVariables false
set_option linter.unusedSimpArgs false
open Go Go.RowKit Go.Lib Go.Shelf Go.Proofs
set_option maxRecDepth 100000 in
set_option maxHeartbeats 8000000 in
theorem word_any {A : Option Addr} {n c : Nat} {t : ByteArray} {w : World} (hB : BytesAt w A t.data.toList) (hn : n = t.size) (h8 : 8 ≤ t.size) :
  Calls Tryz.prog 128 #[.slice A n c] w fun e w' => e = .returned (.int .u64 (Lib.leNat [t.get! 0, t.get! 1, t.get! 2, t.get! 3, t.get! 4, t.get! 5, t.get! 6, t.get! 7])) ∧ ∃ q, w' = w.drewN q := by
 subst hn
 have hl : t.size = t.data.toList.length := Lib.size_eq t
 obtain ⟨b, o, rfl, h0⟩ := hB 0 _ (List.getElem?_eq_getElem (by omega))
 obtain ⟨x0, hx0⟩ : ∃ x0, t.get! 0 = x0 := ⟨_, rfl⟩
 have c0 : w.cell? ⟨b, o + 0, none⟩ = some (.int .u8 (x0.toNat : Int)) := by
  obtain ⟨b', o', e', hc⟩ := hB 0 x0 (by rw [← hx0, ← Lib.getD_get!', List.getD_eq_getElem?_getD, List.getElem?_eq_getElem (by omega)]; rfl)
  cases e'
  exact hc
 have l0 : x0.toNat < 256 := x0.toNat_lt
 have q0 : (0 : Int) < (t.size : Int) := by omega
 have p0 : 0 < t.size := by omega
 obtain ⟨x1, hx1⟩ : ∃ x1, t.get! 1 = x1 := ⟨_, rfl⟩
 have c1 : w.cell? ⟨b, o + 1, none⟩ = some (.int .u8 (x1.toNat : Int)) := by
  obtain ⟨b', o', e', hc⟩ := hB 1 x1 (by rw [← hx1, ← Lib.getD_get!', List.getD_eq_getElem?_getD, List.getElem?_eq_getElem (by omega)]; rfl)
  cases e'
  exact hc
 have l1 : x1.toNat < 256 := x1.toNat_lt
 have q1 : (1 : Int) < (t.size : Int) := by omega
 have p1 : 1 < t.size := by omega
 obtain ⟨x2, hx2⟩ : ∃ x2, t.get! 2 = x2 := ⟨_, rfl⟩
 have c2 : w.cell? ⟨b, o + 2, none⟩ = some (.int .u8 (x2.toNat : Int)) := by
  obtain ⟨b', o', e', hc⟩ := hB 2 x2 (by rw [← hx2, ← Lib.getD_get!', List.getD_eq_getElem?_getD, List.getElem?_eq_getElem (by omega)]; rfl)
  cases e'
  exact hc
 have l2 : x2.toNat < 256 := x2.toNat_lt
 have q2 : (2 : Int) < (t.size : Int) := by omega
 have p2 : 2 < t.size := by omega
 obtain ⟨x3, hx3⟩ : ∃ x3, t.get! 3 = x3 := ⟨_, rfl⟩
 have c3 : w.cell? ⟨b, o + 3, none⟩ = some (.int .u8 (x3.toNat : Int)) := by
  obtain ⟨b', o', e', hc⟩ := hB 3 x3 (by rw [← hx3, ← Lib.getD_get!', List.getD_eq_getElem?_getD, List.getElem?_eq_getElem (by omega)]; rfl)
  cases e'
  exact hc
 have l3 : x3.toNat < 256 := x3.toNat_lt
 have q3 : (3 : Int) < (t.size : Int) := by omega
 have p3 : 3 < t.size := by omega
 obtain ⟨x4, hx4⟩ : ∃ x4, t.get! 4 = x4 := ⟨_, rfl⟩
 have c4 : w.cell? ⟨b, o + 4, none⟩ = some (.int .u8 (x4.toNat : Int)) := by
  obtain ⟨b', o', e', hc⟩ := hB 4 x4 (by rw [← hx4, ← Lib.getD_get!', List.getD_eq_getElem?_getD, List.getElem?_eq_getElem (by omega)]; rfl)
  cases e'
  exact hc
 have l4 : x4.toNat < 256 := x4.toNat_lt
 have q4 : (4 : Int) < (t.size : Int) := by omega
 have p4 : 4 < t.size := by omega
 obtain ⟨x5, hx5⟩ : ∃ x5, t.get! 5 = x5 := ⟨_, rfl⟩
 have c5 : w.cell? ⟨b, o + 5, none⟩ = some (.int .u8 (x5.toNat : Int)) := by
  obtain ⟨b', o', e', hc⟩ := hB 5 x5 (by rw [← hx5, ← Lib.getD_get!', List.getD_eq_getElem?_getD, List.getElem?_eq_getElem (by omega)]; rfl)
  cases e'
  exact hc
 have l5 : x5.toNat < 256 := x5.toNat_lt
 have q5 : (5 : Int) < (t.size : Int) := by omega
 have p5 : 5 < t.size := by omega
 obtain ⟨x6, hx6⟩ : ∃ x6, t.get! 6 = x6 := ⟨_, rfl⟩
 have c6 : w.cell? ⟨b, o + 6, none⟩ = some (.int .u8 (x6.toNat : Int)) := by
  obtain ⟨b', o', e', hc⟩ := hB 6 x6 (by rw [← hx6, ← Lib.getD_get!', List.getD_eq_getElem?_getD, List.getElem?_eq_getElem (by omega)]; rfl)
  cases e'
  exact hc
 have l6 : x6.toNat < 256 := x6.toNat_lt
 have q6 : (6 : Int) < (t.size : Int) := by omega
 have p6 : 6 < t.size := by omega
 obtain ⟨x7, hx7⟩ : ∃ x7, t.get! 7 = x7 := ⟨_, rfl⟩
 have c7 : w.cell? ⟨b, o + 7, none⟩ = some (.int .u8 (x7.toNat : Int)) := by
  obtain ⟨b', o', e', hc⟩ := hB 7 x7 (by rw [← hx7, ← Lib.getD_get!', List.getD_eq_getElem?_getD, List.getElem?_eq_getElem (by omega)]; rfl)
  cases e'
  exact hc
 have l7 : x7.toNat < 256 := x7.toNat_lt
 have q7 : (7 : Int) < (t.size : Int) := by omega
 have p7 : 7 < t.size := by omega
 rw [hx0, hx1, hx2, hx3, hx4, hx5, hx6, hx7]
 have hv : ((Lib.leNat [x0, x1, x2, x3, x4, x5, x6, x7] : Nat) : Int) = (x0.toNat : Int) + (x1.toNat : Int) * 256 + (x2.toNat : Int) * 65536 + (x3.toNat : Int) * 16777216 + (x4.toNat : Int) * 4294967296 + (x5.toNat : Int) * 1099511627776 + (x6.toNat : Int) * 281474976710656 + (x7.toNat : Int) * 72057594037927936 := by
  simp only [Lib.leNat]
  push_cast
  omega
 rw [Nat.add_zero] at c0
 clear hB h0 hl
 go_enter Tryz.func128, Tryz.ntmps128
 go_wp2
 go_quiet (fail)
 go_wp2
 go_ret
 refine ⟨?_, _, rfl⟩
 simp (disch := omega) only [u64_or8, u64_or16, u64_or24, u64_or32, u64_or40, u64_or48, u64_or56]
 rw [hv]
 rfl
end Go.Proofs.YtjehnejgojgahaaGreatDoor
