/-
  A part of the proof of MessageTakes: the texts NF.
-/
import Derived.Test.YtjehnejgojgahaaGreatDoorK30
import Derived.Test.YtjehnejgojgahaaGreatDoorK35
import Derived.Laws.AppendOwnNone
namespace Go.Proofs.YtjehnejgojgahaaGreatDoor
open Go.RowKit
set_option linter.unusedVariables false
set_option linter.unusedSimpArgs false
theorem wpList_copy {ops : Array Oper} {rest : List Oper} {o : Oper} {a : Act} {w : World} {Q : Exit → Act → World → Prop} (hgd : o.guard = none) (s x : Operand)
  (ho : o.op = .call { callee := .builtin .append, args := #[s, x], argTypes := #[22, 22] }) (hs : a.eval s = .slice none 0 0) {A : Option Addr} {c : Nat} {l : Bytes} (hx : a.eval x = .slice A l.length c) (hB : BytesAt w A l)
  (hA : A = none → c = 0) (hl : l.length ≤ 140737488351232) (h : ∀ A' c' w', OwnB w' w.heap.size (.slice A' l.length c') l → Only (fun _ => False) w w' → wpList Tryz.prog ops Q rest (a.put o.dst (.slice A' l.length c')) w') :
  wpList Tryz.prog ops Q (o :: rest) a w := by
 obtain ⟨i0, hi, hz0, hz1, hz2⟩ := info_parts info5
 have hn := OwnB.nil w w.heap.size
 cases A with
 | none =>
  obtain rfl := hA rfl
  have hl0 : l = [] := by
   cases l with
   | nil => rfl
   | cons x l => obtain ⟨b, o, e, _⟩ := hB 0 x rfl; cases e
  subst hl0
  refine wpList_append_own_none hgd s x 22 ho w.heap.size 5 i0 1 under22 hi (.slice none 0 0) 0 [] hs hn hx ?_
  exact h none 0 w hn (Only.refl _ _)
 | some ad =>
  refine wpList_append_own w hgd s x 22 ho w.heap.size 5 i0 (.int .u8 0) 1 1 under22 hi hz0 hz1 hz2 rfl (by decide) (.slice none 0 0) 0 [] hs hn ad l.length c (cellsB l) hx (by unfold cellsB; simp) ?_ ?_ ?_ ?_ (Nat.le_refl _) ?_
  ·intro j u hj
   unfold cellsB at hj
   rw [List.getElem?_map] at hj
   cases hy : l[j]? with
   | none => rw [hy] at hj; cases hj
   | some y =>
    rw [hy] at hj
    simp only [Option.map_some, Option.some.injEq] at hj
    rw [← hj]
    obtain ⟨b, o, e, hc⟩ := hB j y hy
    cases e
    unfold Addr.add
    by_cases h0 : j = 0
    ·subst h0; simpa using hc
    ·rw [if_neg h0]; exact hc
  ·intro u hu
   unfold cellsB at hu
   obtain ⟨y, _, rfl⟩ := List.mem_map.1 hu
   rfl
  ·unfold maxLen; omega
  ·omega
  ·intro v' w' h1 h2 _
   have hown : OwnB w' w.heap.size v' l := by unfold OwnB; simpa using h1
   obtain ⟨A', c', rfl⟩ := hown.form
   exact h A' c' w' hown ((Only.ofGrown h2).mono (fun i hi e => by cases e))
theorem neq_sct (l : Bytes) (w : World) : (binOp .neq 28 (.agg (if badSct l = true then zc28 else sctL l).toArray) (.agg (if badSct l = true then zc28 else sctL l).toArray)).run Tryz.prog w = .ok (.bool false) w := by
 split
 ·exact neq28 (i := zero8 32) (s := zero8 64) (n := 0) (zero8_length 32) (zero8_length 64) (by decide) w
 ·exact neq28 (digB_length _) (sigB_length _) (numL_lt _ _) w
theorem neq_hd (l : Bytes) (w : World) : (binOp .neq 35 (.agg (if badHd l = true then zc35 else hdL l).toArray) (.agg (if badHd l = true then zc35 else hdL l).toArray)).run Tryz.prog w = .ok (.bool false) w := by
 split
 ·exact neq35 (r := zero8 32) (s := zero8 64) (n := 0) (m := 0) (zero8_length 32) (zero8_length 64) (by decide) (by decide) w
 ·exact neq35 (digB_length _) (sigB_length _) (numL_lt _ _) (numL_lt _ _) w
theorem q28_len (l : Bytes) : (if badSct l = true then zc28 else sctL l).length = 97 := by split; exact zc28_len; exact sctL_len l
theorem q28_one (l : Bytes) : (if badSct l = true then zc28 else sctL l).all (·.oneCell') = true := by split; exact zc28_one; exact sctL_one l
theorem q35_len (l : Bytes) : (if badHd l = true then zc35 else hdL l).length = 98 := by split; exact zc35_len; exact hdL_len l
theorem q35_one (l : Bytes) : (if badHd l = true then zc35 else hdL l).all (·.oneCell') = true := by split; exact zc35_one; exact hdL_one l
theorem wpList_neq {ops : Array Oper} {rest : List Oper} {o : Oper} {a : Act} {w : World} {Q : Exit → Act → World → Prop} (hgd : o.guard = none) (T : TypeId) (x y : Operand) (r : TypeId) (ho : o.op = .binOp .neq T x y r) {cs : List Value} (hx : a.eval x = .agg cs.toArray) (hy : a.eval y = .agg cs.toArray)
  (hm : Tryz.prog.eqGuardType Tryz.prog.depth T = false) (hn : ∀ w, (binOp .neq T (.agg cs.toArray) (.agg cs.toArray)).run Tryz.prog w = .ok (.bool false) w) (h : wpList Tryz.prog ops Q rest (a.put o.dst (.bool false)) w) : wpList Tryz.prog ops Q (o :: rest) a w :=
 wpList_plain hgd fun _ hK => oper_neq T x y r ho hx hy hm hn (hK _ _ h)
structure Two (w : World) (A A1 : Option Addr) (l : Bytes) (W : World) : Prop where
 only : Only (fun _ => False) w W
 a : Inp W A1 l
 b : Inp W A l
theorem Two.keep {w : World} {A A1 : Option Addr} {l : Bytes} {W W' : World} (h : Two w A A1 l W) (ho : Only (fun _ => False) W W') : Two w A A1 l W' := ⟨h.only.trans ho, h.a.keep ho, h.b.keep ho⟩
theorem Two.mk' {w W : World} {A A1 : Option Addr} {n c : Nat} {l : Bytes} (hI : Inp w A l) (hown : OwnB W w.heap.size (.slice A1 n c) l) (ho : Only (fun _ => False) w W) : Two w A A1 l W :=
 ⟨ho, ⟨hown.bytes.2, fun b o e => by subst e; exact (hown.lt b rfl).2, hI.gl.only ho (fun _ _ => id)⟩, hI.keep ho⟩
theorem RowAt.top {α : Type} {E : (Nat → Prop) → World → α → List Value → Prop} {size : Nat} {Y : Nat → Prop} {w : World} {A : Option Addr} {l : List α} (hE : EncOK size E) (h : RowAt E size Y w A l) : RowAt E size (fun _ => True) w A l := by
 intro i a hi
 obtain ⟨b, o, cs, e, hr, hl, h2⟩ := h i a hi
 exact ⟨b, o, cs, e, hr, hl, hE.only h2 (Only.refl (fun _ => False) w) (fun b _ _ => ⟨id, trivial⟩)⟩
theorem LTake.out {α : Type} {E : (Nat → Prop) → World → α → List Value → Prop} {size : Nat} {T : TypeId} {bad : Bool} {l L : List α} {e0 z : Int} {w : World} {e : Ending} {w' : World} (hE : EncOK size E) (h : LTake E size T bad l e0 w e w')
  (hL : L = (if bad = true then [] else l)) (hz : z = (if bad = true then e0 else 0)) : Only (fun _ => False) w w' ∧ ∃ A c, e = .returned (.tuple #[.slice A L.length c, .int .i64 z]) ∧ RowAt E size (fun _ => True) w' A L := by
 obtain ⟨ho, A, c, he, hr⟩ := h
 rw [← hL] at he hr
 rw [← hz] at he
 exact ⟨ho, A, c, he, (rowAt_own hE hr).top hE⟩
set_option maxRecDepth 100000 in
set_option maxHeartbeats 6400000 in
theorem takes_any {A : Option Addr} {c : Nat} {l : Bytes} {w : World} (hI : Inp w A l) (hcap : l.length ≤ c) (hA : A = none → c = 0) (hl : l.length ≤ 140737488351232) :
  Calls Tryz.prog 3 #[.slice A l.length c] w (BoolAt true w) := by
 have HI := Lib.hid hI
 have HC := Lib.hid hcap
 have HAN := Lib.hid hA
 have HL := Lib.hid hl
 obtain ⟨X28, h28⟩ : ∃ x, x = (if badSct l = true then zc28 else sctL l) := ⟨_, rfl⟩
 obtain ⟨X35, h35⟩ : ∃ x, x = (if badHd l = true then zc35 else hdL l) := ⟨_, rfl⟩
 have L28 := Lib.hid (show X28.length = 97 by rw [h28]; exact q28_len l)
 have L35 := Lib.hid (show X35.length = 98 by rw [h35]; exact q35_len l)
 have O28 := Lib.hid (show X28.all (·.oneCell') = true by rw [h28]; exact q28_one l)
 have O35 := Lib.hid (show X35.all (·.oneCell') = true by rw [h35]; exact q35_one l)
 have N28 := Lib.hid (show ∀ w, (binOp .neq 28 (.agg X28.toArray) (.agg X28.toArray)).run Tryz.prog w = .ok (.bool false) w by rw [h28]; exact neq_sct l)
 have N35 := Lib.hid (show ∀ w, (binOp .neq 35 (.agg X35.toArray) (.agg X35.toArray)).run Tryz.prog w = .ok (.bool false) w by rw [h35]; exact neq_hd l)
 obtain ⟨z1, hz1⟩ : ∃ x : Int, x = (if badSct l = true then 5 else 0) := ⟨_, rfl⟩
 obtain ⟨z2, hz2⟩ : ∃ x : Int, x = (if badHd l = true then 5 else 0) := ⟨_, rfl⟩
 have S1 := Lib.hid (fun (w : World) e w' (h : SctTake l w e w') => show Only (fun _ => False) w w' ∧ e = .returned (.tuple #[.agg X28.toArray, .int .i64 z1]) from by rw [h28, hz1]; exact h)
 have S2 := Lib.hid (fun (w : World) e w' (h : HdTake l w e w') => show Only (fun _ => False) w w' ∧ e = .returned (.tuple #[.agg X35.toArray, .int .i64 z2]) from by rw [h35, hz2]; exact h)
 obtain ⟨L3, h3⟩ : ∃ x, x = (if badL l [nCons] nCons okH' = true then [] else elsL l nCons elH) := ⟨_, rfl⟩
 obtain ⟨z3, hz3⟩ : ∃ x : Int, x = (if badL l [nCons] nCons okH' = true then 5 else 0) := ⟨_, rfl⟩
 have S3 := Lib.hid (fun (w : World) e w' (h : LTake ED 32 24 (badL l [nCons] nCons okH') (elsL l nCons elH) 5 w e w') => h.out encD h3 hz3)
 have M3 := Lib.hid (show L3.length ≤ 3000000 by rw [h3]; have := gl_ l nCons; split; simp; rw [show (elsL l nCons elH).length = ((getB (pV l) nCons).getD JV0).list.length from by unfold elsL; rw [List.length_map]]; exact this)
 obtain ⟨L4, h4⟩ : ∃ x, x = (if badP l = true then [] else elsL l nPath elH) := ⟨_, rfl⟩
 obtain ⟨z4, hz4⟩ : ∃ x : Int, x = (if badP l = true then 5 else 0) := ⟨_, rfl⟩
 obtain ⟨n4, hn4⟩ : ∃ x : Int, x = (if badP l = true then 0 else (numL l nIdx : Int)) := ⟨_, rfl⟩
 have S4 := Lib.hid (show ∀ (w : World) e w' (h : PrfTake l w e w'), Only (fun _ => False) w w' ∧ ∃ A c, e = .returned (.tuple #[.int .u64 n4, .slice A L4.length c, .int .i64 z4]) ∧ RowAt ED 32 (fun _ => True) w' A L4 from by
  intro w e w' h
  obtain ⟨ho, A, c, he, hr⟩ := h
  rw [← h4] at he hr
  rw [← hz4, ← hn4] at he
  exact ⟨ho, A, c, he, (rowAt_own encD hr).top encD⟩)
 have M4 := Lib.hid (show L4.length ≤ 3000000 by rw [h4]; have := gl_ l nPath; split; simp; rw [show (elsL l nPath elH).length = ((getB (pV l) nPath).getD JV0).list.length from by unfold elsL; rw [List.length_map]]; exact this)
 obtain ⟨L5, h5⟩ : ∃ x, x = (if badL l [nEnt] nEnt okI' = true then [] else elsL l nEnt elI) := ⟨_, rfl⟩
 obtain ⟨z5, hz5⟩ : ∃ x : Int, x = (if badL l [nEnt] nEnt okI' = true then 5 else 0) := ⟨_, rfl⟩
 have S5 := Lib.hid (fun (w : World) e w' (h : LTake EI 2 105 (badL l [nEnt] nEnt okI') (elsL l nEnt elI) 5 w e w') => h.out encI h5 hz5)
 have M5 := Lib.hid (show L5.length ≤ 3000000 by rw [h5]; have := gl_ l nEnt; split; simp; rw [show (elsL l nEnt elI).length = ((getB (pV l) nEnt).getD JV0).list.length from by unfold elsL; rw [List.length_map]]; exact this)
 obtain ⟨z6, hz6⟩ : ∃ x : Int, x = (if badE l = true then 5 else 0) := ⟨_, rfl⟩
 obtain ⟨n6, hn6⟩ : ∃ x : Int, x = (if badE l = true then 0 else (numL l nErr : Int)) := ⟨_, rfl⟩
 have S6 := Lib.hid (fun (w : World) e w' (h : ErrTake l w e w') => show Only (fun _ => False) w w' ∧ e = .returned (.tuple #[.int .i64 n6, .int .i64 z6]) from by rw [hz6, hn6]; exact h)
 have b1 : (z1 != z1) = false := by simp
 clear b1
 clear hI hcap hA hl h28 h35 hz1 hz2 h3 hz3 h4 hz4 hn4 h5 hz5 hz6 hn6
 go_enter Tryz.func3, Tryz.ntmps3
 go_upto_region 2 with (refine wpList_copy rfl _ (.tmp 18) rfl rfl rfl HI.out.at_ HAN.out HL.out ?_; intro A1 c1 w1 hown ho1; have HT1 := Lib.hid (Two.mk' HI.out hown ho1); have HC1 := Lib.hid hown.capD; clear hown ho1)
 go_upto_region 3 with (first
  | (go_at_call 5; refine (takeSct_any HT1.out.a HC1.out).mono ?_; rintro e w2 h2; obtain ⟨ho2, rfl⟩ := S1.out _ _ _ h2; have HT2 := Lib.hid (HT1.out.keep ho2); clear h2 ho2)
  | (refine wpList_alloc_blk rfl 28 4 rfl rfl zero28 ?_; intro w3 hb3 ho3 hs3; have HB3 := Lib.hid hb3; have HO3 := Lib.hid ho3; clear hb3 ho3 hs3)
  | (refine wpList_store_blk (cs := X28) rfl 28 (.tmp 4) (.tmp 23) rfl rfl rfl rfl HB3.out (by rw [zc28_len, L28.out]) (info28s L28.out) O28.out ?_; intro w4 hb4 ho4; have HT4 := Lib.hid (HT2.out.keep (HO3.out.then ho4 (G := fun _ => False) (fun i hi e => by omega))); have HB4 := Lib.hid hb4; clear hb4 ho4))
 go_upto_region 4 with (first
  | (go_at_call 6; refine (takeSct_doc HT4.out.b HC.out).mono ?_; rintro e w5 h5; obtain ⟨ho5, rfl⟩ := S1.out _ _ _ h5; have HT5 := Lib.hid (HT4.out.keep ho5); have HB5 := Lib.hid (HB4.out.only ho5 id); clear h5 ho5)
  | (refine wpList_alloc_blk rfl 28 6 rfl rfl zero28 ?_; intro w6 hb6 ho6 hs6; have HB6 := Lib.hid hb6; have HO6 := Lib.hid ho6; clear hb6 ho6 hs6)
  | (refine wpList_store_blk (cs := X28) rfl 28 (.tmp 6) (.tmp 28) rfl rfl rfl rfl HB6.out (by rw [zc28_len, L28.out]) (info28s L28.out) O28.out ?_; intro w7 hb7 ho7; have ho57 := HO6.out.then ho7 (G := fun _ => False) (fun i hi e => by omega); have HT7 := Lib.hid (HT5.out.keep ho57); have HB7 := Lib.hid (HB5.out.only ho57 id); have HD7 := Lib.hid hb7; clear hb7 ho7 ho57))
 go_upto_region 6 with (first
  | (refine wpList_load_blk (cs := X28) rfl 28 (.tmp 4) rfl rfl HB7.out agg28 (info28s L28.out) ?_)
  | (refine wpList_load_blk (cs := X28) rfl 28 (.tmp 6) rfl rfl HD7.out agg28 (info28s L28.out) ?_)
  | (refine wpList_neq rfl 28 (.tmp 30) (.tmp 31) 28 rfl rfl rfl eg28 N28.out ?_))
 go_upto_region 7 with (first
  | (go_at_call 7; refine (takeHd_any HT7.out.a HC1.out).mono ?_; rintro e w8 h8; obtain ⟨ho8, rfl⟩ := S2.out _ _ _ h8; have HT8 := Lib.hid (HT7.out.keep ho8); clear h8 ho8)
  | (refine wpList_alloc_blk rfl 35 8 rfl rfl zero35 ?_; intro w9 hb9 ho9 hs9; have HB9 := Lib.hid hb9; have HO9 := Lib.hid ho9; clear hb9 ho9 hs9)
  | (refine wpList_store_blk (cs := X35) rfl 35 (.tmp 8) (.tmp 41) rfl rfl rfl rfl HB9.out (by rw [zc35_len, L35.out]) (info35s L35.out) O35.out ?_; intro w10 hb10 ho10; have HT10 := Lib.hid (HT8.out.keep (HO9.out.then ho10 (G := fun _ => False) (fun i hi e => by omega))); have HB10 := Lib.hid hb10; clear hb10 ho10))
 go_upto_region 8 with (first
  | (go_at_call 8; refine (takeHd_doc HT10.out.b HC.out).mono ?_; rintro e w11 h11; obtain ⟨ho11, rfl⟩ := S2.out _ _ _ h11; have HT11 := Lib.hid (HT10.out.keep ho11); have HB11 := Lib.hid (HB10.out.only ho11 id); clear h11 ho11)
  | (refine wpList_alloc_blk rfl 35 9 rfl rfl zero35 ?_; intro w12 hb12 ho12 hs12; have HB12 := Lib.hid hb12; have HO12 := Lib.hid ho12; clear hb12 ho12 hs12)
  | (refine wpList_store_blk (cs := X35) rfl 35 (.tmp 9) (.tmp 46) rfl rfl rfl rfl HB12.out (by rw [zc35_len, L35.out]) (info35s L35.out) O35.out ?_; intro w13 hb13 ho13; have hoq := HO12.out.then ho13 (G := fun _ => False) (fun i hi e => by omega); have HT13 := Lib.hid (HT11.out.keep hoq); have HB13 := Lib.hid (HB11.out.only hoq id); have HD13 := Lib.hid hb13; clear hb13 ho13 hoq))
 go_upto_region 10 with (first
  | (refine wpList_load_blk (cs := X35) rfl 35 (.tmp 8) rfl rfl HB13.out agg35 (info35s L35.out) ?_)
  | (refine wpList_load_blk (cs := X35) rfl 35 (.tmp 9) rfl rfl HD13.out agg35 (info35s L35.out) ?_)
  | (refine wpList_neq rfl 35 (.tmp 48) (.tmp 49) 35 rfl rfl rfl eg35 N35.out ?_))
 go_upto_region 11 with (go_at_call 9; refine (takeCons_any HT13.out.a HC1.out).mono ?_; rintro e w14 h14; obtain ⟨ho14, B14, d14, rfl, hr14⟩ := S3.out _ _ _ h14; have HT14 := Lib.hid (HT13.out.keep ho14); have HR14 := Lib.hid hr14; clear h14 ho14 hr14)
 go_upto_region 12 with (go_at_call 10; refine (takeCons_doc HT14.out.b HC.out).mono ?_; rintro e w15 h15; obtain ⟨ho15, B15, d15, rfl, hr15⟩ := S3.out _ _ _ h15; have HT15 := Lib.hid (HT14.out.keep ho15); have HR15 := Lib.hid hr15; have HR14' := Lib.hid (RowAt.keep encD HR14.out ho15); clear h15 ho15 hr15)
 go_upto_region 14 with (go_at_call 11; refine (same_any HR14'.out HR15.out M3.out).mono ?_; rintro e w16 ⟨ho16, rfl⟩; have HT16 := Lib.hid (HT15.out.keep ho16); clear ho16)
 go_upto_region 15 with (go_at_call 12; refine (takePrf_any HT16.out.a HC1.out).mono ?_; rintro e w17 h17; obtain ⟨ho17, B17, d17, rfl, hr17⟩ := S4.out _ _ _ h17; have HT17 := Lib.hid (HT16.out.keep ho17); have HR17 := Lib.hid hr17; clear h17 ho17 hr17)
 go_upto_region 16 with (go_at_call 13; refine (takePrf_doc HT17.out.b HC.out).mono ?_; rintro e w18 h18; obtain ⟨ho18, B18, d18, rfl, hr18⟩ := S4.out _ _ _ h18; have HT18 := Lib.hid (HT17.out.keep ho18); have HR18 := Lib.hid hr18; have HR17' := Lib.hid (RowAt.keep encD HR17.out ho18); clear h18 ho18 hr18)
 go_upto_region 18 with (go_at_call 11; refine (same_any HR17'.out HR18.out M4.out).mono ?_; rintro e w19 ⟨ho19, rfl⟩; have HT19 := Lib.hid (HT18.out.keep ho19); clear ho19)
 go_upto_region 19 with (go_at_call 14; refine (takeEnt_any HT19.out.a HC1.out).mono ?_; rintro e w20 h20; obtain ⟨ho20, B20, d20, rfl, hr20⟩ := S5.out _ _ _ h20; have HT20 := Lib.hid (HT19.out.keep ho20); have HR20 := Lib.hid hr20; clear h20 ho20 hr20)
 go_upto_region 20 with (go_at_call 15; refine (takeEnt_doc HT20.out.b HC.out).mono ?_; rintro e w21 h21; obtain ⟨ho21, B21, d21, rfl, hr21⟩ := S5.out _ _ _ h21; have HT21 := Lib.hid (HT20.out.keep ho21); have HR21 := Lib.hid hr21; have HR20' := Lib.hid (RowAt.keep encI HR20.out ho21); clear h21 ho21 hr21)
 go_upto_region 22 with (go_at_call 16; refine (items_any HR20'.out HR21.out M5.out).mono ?_; rintro e w22 ⟨ho22, rfl⟩; have HT22 := Lib.hid (HT21.out.keep ho22); clear ho22)
 go_upto_region 23 with (go_at_call 17; refine (takeErr_any HT22.out.a HC1.out).mono ?_; rintro e w23 h23; obtain ⟨ho23, rfl⟩ := S6.out _ _ _ h23; have HT23 := Lib.hid (HT22.out.keep ho23); clear h23 ho23)
 go_upto_region 24 with (go_at_call 18; refine (takeErr_doc HT23.out.b HC.out).mono ?_; rintro e w24 h24; obtain ⟨ho24, rfl⟩ := S6.out _ _ _ h24; have HT24 := Lib.hid (HT23.out.keep ho24); clear h24 ho24)
 have htx1 := text_run (c := c1) rfl HT24.out.a.at_
 have htx2 := text_run (c := c) rfl HT24.out.b.at_
 go_wp2_with (go_at_call 19; refine (wakes_any HT24.out.a.gl).mono ?_; rintro e w25 ⟨ho25, rfl⟩; have HT25 := Lib.hid (HT24.out.only.trans ho25); clear ho25)
 go_ret
 exact ⟨HT25.out, rfl⟩
end Go.Proofs.YtjehnejgojgahaaGreatDoor
