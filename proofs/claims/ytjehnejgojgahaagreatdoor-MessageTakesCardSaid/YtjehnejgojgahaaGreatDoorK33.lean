/-
  A part of the proof of MessageTakes: the texts Q6.
-/
import Derived.Test.YtjehnejgojgahaaGreatDoorK26
import Derived.Test.YtjehnejgojgahaaGreatDoorK32
namespace Go.Proofs.YtjehnejgojgahaaGreatDoor
open Go.RowKit
set_option linter.unusedVariables false
set_option linter.unusedSimpArgs false
set_option maxRecDepth 100000 in
set_option maxHeartbeats 3200000 in
theorem same_any {Y Z : Nat → Prop} {A B : Option Addr} {c d : Nat} {l : List Bytes} {w : World} (hA : RowAt ED 32 Y w A l) (hB : RowAt ED 32 Z w B l) (hl : l.length ≤ 3000000) :
  Calls Tryz.prog 11 #[.slice A l.length c, .slice B l.length d] w (BoolAt true w) := by
 have HA := Lib.hid hA
 have HB := Lib.hid hB
 have HL := Lib.hid hl
 have hlz : (l.length : Int) ≤ 3000000 := by omega
 have q0 : ((l.length : Int) != (l.length : Int)) = false := by simp
 clear hA hB hl
 go_enter Tryz.func11, Tryz.ntmps11
 go_upto_region 4 with (fail)
 go_loopw [5] (fun s5 wr => ∃ j : Nat, j ≤ l.length ∧ s5 = .int .i64 (j : Int) ∧ Only (fun _ => False) w wr) (fun i _ => l.length - (intOf i).toNat)
 case atStart => exact ⟨0, by omega, rfl, Only.refl _ _⟩
 case round =>
  obtain ⟨j, hj, rfl, ho⟩ := hrel
  have HO := Lib.hid ho
  clear ho
  rcases Nat.lt_or_ge j l.length with hlt | hge
  ·have q : decide ((j : Int) < (l.length : Int)) = true := by simp; omega
   have hjz : (j : Int) < (l.length : Int) := by omega
   obtain ⟨x, hx⟩ : ∃ x, l[j]? = some x := ⟨l[j], List.getElem?_eq_getElem hlt⟩
   obtain ⟨bA, oA, cs, rfl, hrg, _, hcs, hxl⟩ := HA.out j x hx
   subst hcs
   obtain ⟨bB, oB, cs, rfl, hrg2, _, hcs, _⟩ := HB.out j x hx
   subst hcs
   have HRG := Lib.hid hrg
   have HRG2 := Lib.hid hrg2
   have hneq := fun w => neq24 hxl w
   have HLT := Lib.hid hlt
   have hu24 := under24x
   have hi24 := info24l hxl
   clear hx hrg hrg2 hlt
   go_upto_region 6 with (fail)
   refine wp_region_held_drew (S := fun w' => w'.rangeAt bA (oA + j * 32) (u8s x) ∧ w'.rangeAt bB (oB + j * 32) (u8s x)) (by kernel_rfl) (⟨rangeAt.keep HRG.out HO.out.drew, rangeAt.keep HRG2.out HO.out.drew⟩) (fun hHeld => ?_)
   refine wpAnyH_take (i := 0) (oi := { dst := some 17, op := Op.move (Operand.tmp 0), type := 40, pos := "ref.go:81", after := #[], guard := none }) (v := .slice (some ⟨bA, oA, none⟩) l.length c) rfl (by kernel_rfl) (by kernel_rfl) (by kernel_rfl) (fun _ _ _ h => h) (Or.inl ⟨by rfl, ?y0⟩) (by assumption) ?r0
   case y0 => intro w hSw; go_simp
   try simp only [Act.put, List.setIfInBounds_toArray, List.set_cons_zero, List.set_cons_succ]
   refine wpAnyH_take (i := 1) (oi := { dst := some 18, op := Op.move (Operand.tmp 5), type := 3, pos := "ref.go:81", after := #[], guard := none }) (v := .int .i64 (j : Int)) rfl (by kernel_rfl) (by kernel_rfl) (by kernel_rfl) (fun _ _ _ h => h) (Or.inl ⟨by rfl, ?y1⟩) (by assumption) ?r1
   case y1 => intro w hSw; go_simp
   try simp only [Act.put, List.setIfInBounds_toArray, List.set_cons_zero, List.set_cons_succ]
   refine wpAnyH_take (i := 2) (oi := { dst := some 19, op := Op.indexAddr 40 (Operand.tmp 17) (Operand.tmp 18), type := 0, pos := "ref.go:81", after := #[{ on := 0, ground := Ground.data }, { on := 1, ground := Ground.data }], guard := none }) (v := .pointer (some ⟨bA, oA + j * 32, none⟩)) rfl (by kernel_rfl) (by kernel_rfl) (by kernel_rfl) (fun _ _ _ h => h) (Or.inl ⟨by rfl, ?y2⟩) (by assumption) ?r2
   case y2 => intro w hSw; go_simp
   try simp only [Act.put, List.setIfInBounds_toArray, List.set_cons_zero, List.set_cons_succ]
   refine wpAnyH_take (i := 3) (oi := { dst := some 20, op := Op.load 24 (Operand.tmp 19), type := 24, pos := "ref.go:81", after := #[{ on := 2, ground := Ground.data }], guard := none }) (v := .agg (u8s x).toArray) rfl (by kernel_rfl) (by kernel_rfl) (by kernel_rfl) (fun _ _ _ h => h) (yieldsIf_load_mid (by rfl) 24 (.tmp 19) rfl bA (oA + j * 32) rfl (u8s x) _ (fun w h => h.1) under24x rfl hi24) (by assumption) ?r3
   try simp only [Act.put, List.setIfInBounds_toArray, List.set_cons_zero, List.set_cons_succ]
   refine wpAnyH_take (i := 4) (oi := { dst := some 21, op := Op.move (Operand.tmp 1), type := 40, pos := "ref.go:81", after := #[], guard := none }) (v := .slice (some ⟨bB, oB, none⟩) l.length d) rfl (by kernel_rfl) (by kernel_rfl) (by kernel_rfl) (fun _ _ _ h => h) (Or.inl ⟨by rfl, ?y4⟩) (by assumption) ?r4
   case y4 => intro w hSw; go_simp
   try simp only [Act.put, List.setIfInBounds_toArray, List.set_cons_zero, List.set_cons_succ]
   refine wpAnyH_take (i := 5) (oi := { dst := some 22, op := Op.move (Operand.tmp 5), type := 3, pos := "ref.go:81", after := #[], guard := none }) (v := .int .i64 (j : Int)) rfl (by kernel_rfl) (by kernel_rfl) (by kernel_rfl) (fun _ _ _ h => h) (Or.inl ⟨by rfl, ?y5⟩) (by assumption) ?r5
   case y5 => intro w hSw; go_simp
   try simp only [Act.put, List.setIfInBounds_toArray, List.set_cons_zero, List.set_cons_succ]
   refine wpAnyH_take (i := 6) (oi := { dst := some 23, op := Op.indexAddr 40 (Operand.tmp 21) (Operand.tmp 22), type := 0, pos := "ref.go:81", after := #[{ on := 4, ground := Ground.data }, { on := 5, ground := Ground.data }], guard := none }) (v := .pointer (some ⟨bB, oB + j * 32, none⟩)) rfl (by kernel_rfl) (by kernel_rfl) (by kernel_rfl) (fun _ _ _ h => h) (Or.inl ⟨by rfl, ?y6⟩) (by assumption) ?r6
   case y6 => intro w hSw; go_simp
   try simp only [Act.put, List.setIfInBounds_toArray, List.set_cons_zero, List.set_cons_succ]
   refine wpAnyH_take (i := 7) (oi := { dst := some 24, op := Op.load 24 (Operand.tmp 23), type := 24, pos := "ref.go:81", after := #[{ on := 6, ground := Ground.data }], guard := none }) (v := .agg (u8s x).toArray) rfl (by kernel_rfl) (by kernel_rfl) (by kernel_rfl) (fun _ _ _ h => h) (yieldsIf_load_mid (by rfl) 24 (.tmp 23) rfl bB (oB + j * 32) rfl (u8s x) _ (fun w h => h.2) under24x rfl hi24) (by assumption) ?r7
   try simp only [Act.put, List.setIfInBounds_toArray, List.set_cons_zero, List.set_cons_succ]
   refine wpAnyH_take (i := 8) (oi := { dst := some 25, op := Op.binOp BinOp.neq 24 (Operand.tmp 20) (Operand.tmp 24) 24, type := 4, pos := "ref.go:81", after := #[{ on := 3, ground := Ground.data }, { on := 7, ground := Ground.data }], guard := none }) (v := .bool false) rfl (by kernel_rfl) (by kernel_rfl) (by kernel_rfl) (fun _ _ _ h => h) (Or.inl ⟨by rfl, ?y8⟩) (by assumption) ?r8
   case y8 => intro w hSw; go_simp
   try simp only [Act.put, List.setIfInBounds_toArray, List.set_cons_zero, List.set_cons_succ]
   refine wpAnyH_done (by kernel_rfl) ?_ _
   go_wp2
   go_roundw
   case rel => exact ⟨j + 1, by have := HLT.out; omega, by push_cast; rfl, HO.out.drew⟩
   case measure => have := HLT.out; simp [intOf]; omega
  ·have q : decide ((j : Int) < (l.length : Int)) = false := by simp; omega
   go_wp2
   go_ret
   exact ⟨HO.out, rfl⟩
set_option maxRecDepth 100000 in
set_option maxHeartbeats 3200000 in
theorem items_any {Y Z : Nat → Prop} {A B : Option Addr} {c d : Nat} {l : List (Bytes × Bytes)} {w : World} (hA : RowAt EI 2 Y w A l) (hB : RowAt EI 2 Z w B l) (hl : l.length ≤ 3000000) :
  Calls Tryz.prog 16 #[.slice A l.length c, .slice B l.length d] w (BoolAt true w) := by
 have HA := Lib.hid hA
 have HB := Lib.hid hB
 have HL := Lib.hid hl
 have hlz : (l.length : Int) ≤ 3000000 := by omega
 have q0 : ((l.length : Int) != (l.length : Int)) = false := by simp
 clear hA hB hl
 go_enter Tryz.func16, Tryz.ntmps16
 go_upto_region 4 with (fail)
 go_loopw [5] (fun s5 wr => ∃ j : Nat, j ≤ l.length ∧ s5 = .int .i64 (j : Int) ∧ Only (fun _ => False) w wr) (fun i _ => l.length - (intOf i).toNat)
 case atStart => exact ⟨0, by omega, rfl, Only.refl _ _⟩
 case round =>
  obtain ⟨j, hj, rfl, ho⟩ := hrel
  have HO := Lib.hid ho
  clear ho
  rcases Nat.lt_or_ge j l.length with hlt | hge
  ·have q : decide ((j : Int) < (l.length : Int)) = true := by simp; omega
   have hjz : (j : Int) < (l.length : Int) := by omega
   obtain ⟨x, hx⟩ : ∃ x, l[j]? = some x := ⟨l[j], List.getElem?_eq_getElem hlt⟩
   obtain ⟨bA, oA, cs, rfl, hrg, _, d1, d2, rfl, ⟨A1, c1, rfl, hb1, _, _⟩, ⟨A2, c2, rfl, hb2, _, _⟩⟩ := HA.out j x hx
   obtain ⟨bB, oB, cs, rfl, hrg2, _, d1, d2, rfl, ⟨B1, e1, rfl, hb3, _, _⟩, ⟨B2, e2, rfl, hb4, _, _⟩⟩ := HB.out j x hx
   obtain ⟨x1, x2⟩ := x
   simp only at hb1 hb2 hb3 hb4 hrg hrg2
   have HK := Lib.hid (fun w' (h : Only (fun _ => False) w w') => (show w'.cell? ⟨bA, oA + j * 2, none⟩ = some (.slice A1 x1.length c1) ∧ w'.cell? ⟨bA, oA + j * 2 + 1, none⟩ = some (.slice A2 x2.length c2) ∧ w'.cell? ⟨bB, oB + j * 2, none⟩ = some (.slice B1 x1.length e1) ∧ w'.cell? ⟨bB, oB + j * 2 + 1, none⟩ = some (.slice B2 x2.length e2) ∧
     (convert 22 9 (.slice A1 x1.length c1)).run Tryz.prog w' = .ok (.string ⟨x1.toArray⟩) w' ∧ (convert 22 9 (.slice A2 x2.length c2)).run Tryz.prog w' = .ok (.string ⟨x2.toArray⟩) w' ∧ (convert 22 9 (.slice B1 x1.length e1)).run Tryz.prog w' = .ok (.string ⟨x1.toArray⟩) w' ∧ (convert 22 9 (.slice B2 x2.length e2)).run Tryz.prog w' = .ok (.string ⟨x2.toArray⟩) w' from
    ⟨rangeAt.keep hrg h 0 _ rfl, rangeAt.keep hrg h 1 _ rfl, rangeAt.keep hrg2 h 0 _ rfl, rangeAt.keep hrg2 h 1 _ rfl, text_run rfl (hb1.only0 h (fun _ _ _ _ => id)), text_run rfl (hb2.only0 h (fun _ _ _ _ => id)), text_run rfl (hb3.only0 h (fun _ _ _ _ => id)), text_run rfl (hb4.only0 h (fun _ _ _ _ => id))⟩))
   have s1 : (x1 == x1) = true := by simp
   have s2 : (x2 == x2) = true := by simp
   have HLT := Lib.hid hlt
   clear hx hrg hrg2 hlt hb1 hb2 hb3 hb4
   go_upto_region 6 with (fail)
   go_region_held3 (fun w' => w'.cell? ⟨bA, oA + j * 2, none⟩ = some (.slice A1 x1.length c1) ∧ w'.cell? ⟨bA, oA + j * 2 + 1, none⟩ = some (.slice A2 x2.length c2) ∧ w'.cell? ⟨bB, oB + j * 2, none⟩ = some (.slice B1 x1.length e1) ∧ w'.cell? ⟨bB, oB + j * 2 + 1, none⟩ = some (.slice B2 x2.length e2) ∧ (convert 22 9 (.slice A1 x1.length c1)).run Tryz.prog w' = .ok (.string ⟨x1.toArray⟩) w' ∧ (convert 22 9 (.slice A2 x2.length c2)).run Tryz.prog w' = .ok (.string ⟨x2.toArray⟩) w' ∧ (convert 22 9 (.slice B1 x1.length e1)).run Tryz.prog w' = .ok (.string ⟨x1.toArray⟩) w' ∧ (convert 22 9 (.slice B2 x2.length e2)).run Tryz.prog w' = .ok (.string ⟨x2.toArray⟩) w') (exact HK.out _ HO.out.drew) (fail)
   all_goals
    go_wp2
    go_roundw
    case rel => exact ⟨j + 1, by have := HLT.out; omega, by push_cast; rfl, HO.out.drew⟩
    case measure => have := HLT.out; simp [intOf]; omega
  ·have q : decide ((j : Int) < (l.length : Int)) = false := by simp; omega
   go_wp2
   go_ret
   exact ⟨HO.out, rfl⟩
end Go.Proofs.YtjehnejgojgahaaGreatDoor
