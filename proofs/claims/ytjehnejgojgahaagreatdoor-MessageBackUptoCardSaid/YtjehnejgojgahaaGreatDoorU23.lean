/-
  A part of the proof of MessageBack (bulk at most 1048576): the texts Q7 Q8.
-/
import Derived.Test.YtjehnejgojgahaaGreatDoorU21
import Derived.Test.YtjehnejgojgahaaGreatDoorU22
import Derived.Lib.SlBytesConst

/- Q7 -/
namespace Go.Proofs.YtjehnejgojgahaaGreatDoor
open Go.RowKit
set_option linter.unusedVariables false
set_option linter.unusedSimpArgs false

/-- A text of n bytes, put. -/
def LitOut (n : Nat) (t : ByteArray) (w : World) (e : Ending) (w' : World) : Prop :=
  Only (fun _ => False) w w' ∧ ∃ A c, e = .returned (.slice A n c) ∧ (convert 22 9 (.slice A n c)).run Tryz.prog w' = .ok (.string t) w'
theorem lit_out {n : Nat} {t l : Bytes} {w w' : World} {e : Ending} (ht : t = l) (hn : l.length = n) (hl : n ≤ 1048576) (h : TxtPut t w e w') : LitOut n ⟨l.toArray⟩ w e w' := by
  subst ht hn
  obtain ⟨ho, A, c, rfl, hb, _, _⟩ := txt_ok hl h
  exact ⟨ho, A, c, rfl, text_run rfl hb⟩
theorem rowAt_nil {α : Type} {E : (Nat → Prop) → World → α → List Value → Prop} {size : Nat} {Y : Nat → Prop} {w : World} {A : Option Addr} : RowAt E size Y w A [] := fun i a ha => by simp at ha
theorem RowAt.keep {α : Type} {E : (Nat → Prop) → World → α → List Value → Prop} {size : Nat} (hE : EncOK size E) {Y : Nat → Prop} {w w' : World} {A : Option Addr} {l : List α} (h : RowAt E size Y w A l) (ho : Only (fun _ => False) w w') : RowAt E size Y w' A l := by
  intro i a ha
  obtain ⟨b, o, cs, e, hr, hl, hc⟩ := h i a ha
  exact ⟨b, o, cs, e, rangeAt.keep hr ho, hl, hE.only hc ho (fun b _ hy => ⟨id, hy⟩)⟩
theorem put_err32 {w : World} (hG : Gl w) : Calls Tryz.prog 25 #[.int .i64 32] w (LitOut 12 ⟨#[123, 34, 101, 114, 114, 111, 114, 34, 58, 51, 50, 125]⟩ w) :=
  (putErr_any (n := 32) (by decide) hG (by have := errT_len (n := 32) (by decide); omega)).mono (fun e w' h => lit_out (l := [123, 34, 101, 114, 114, 111, 114, 34, 58, 51, 50, 125]) (by decide +kernel) rfl (by decide) h)
theorem put_prf5 {w : World} (hG : Gl w) : Calls Tryz.prog 23 #[.int .u64 5, .slice none 0 0] w (LitOut 32 ⟨#[123, 34, 108, 101, 97, 102, 95, 105, 110, 100, 101, 120, 34, 58, 53, 44, 34, 97, 117, 100, 105, 116, 95, 112, 97, 116, 104, 34, 58, 91, 93, 125]⟩ w) :=
  (putPrf_any (n := 5) (l := []) (A := none) (c := 0) (Y := fun _ => True) rowAt_nil (by simp) (by decide) hG (by have := prfT_len (n := 5) (l := []) (by decide) (by simp) (by simp); omega)).mono (fun e w' h => lit_out (l := [123, 34, 108, 101, 97, 102, 95, 105, 110, 100, 101, 120, 34, 58, 53, 44, 34, 97, 117, 100, 105, 116, 95, 112, 97, 116, 104, 34, 58, 91, 93, 125]) (by decide +kernel) rfl (by decide) h)
theorem chT1 : chT [[102]] = [123, 34, 99, 104, 97, 105, 110, 34, 58, 91, 34, 90, 103, 61, 61, 34, 93, 125] := by decide +kernel
theorem ask_chain1 {Y : Nat → Prop} {A : Option Addr} {c : Nat} {w : World} (hR : RowAt EB 1 Y w A [[102]]) (hG : Gl w) : Calls Tryz.prog 51 #[.slice A 1 c] w (LitOut 18 ⟨#[123, 34, 99, 104, 97, 105, 110, 34, 58, 91, 34, 90, 103, 61, 61, 34, 93, 125]⟩ w) :=
  (askChain_any (l := [[102]]) hR (by simp) (by simp) hG (by rw [chT1]; simp)).mono (fun e w' h => lit_out (l := [123, 34, 99, 104, 97, 105, 110, 34, 58, 91, 34, 90, 103, 61, 61, 34, 93, 125]) chT1 rfl (by decide) h)
theorem bytes_const (w : World) (l : Bytes) (k : Nat × Nat) (cs : Array Value) (h : cs = (u8s l).toArray) : BytesAt (w.alloc (.cells cs 5 k)) (some ⟨w.heap.size, 0, none⟩) l := by
  subst h
  intro i x hx
  refine ⟨w.heap.size, 0, rfl, ?_⟩
  rw [Nat.zero_add, World.cell?_alloc_mark, List.getElem?_toArray]
  unfold u8s
  rw [List.getElem?_map, hx]
  rfl
theorem read_ch {w : World} (hG : Gl w) : Calls Tryz.prog 49 #[.slice (some ⟨w.heap.size, 0, none⟩) 18 18] (w.alloc (.cells #[.int .u8 123, .int .u8 34, .int .u8 99, .int .u8 104, .int .u8 97, .int .u8 105, .int .u8 110, .int .u8 34, .int .u8 58, .int .u8 91, .int .u8 34, .int .u8 90, .int .u8 103, .int .u8 61, .int .u8 61, .int .u8 34, .int .u8 93, .int .u8 125] 5 (18, 18 + 1))) (RowOut EB 1 0 [[102]] (w.alloc (.cells #[.int .u8 123, .int .u8 34, .int .u8 99, .int .u8 104, .int .u8 97, .int .u8 105, .int .u8 110, .int .u8 34, .int .u8 58, .int .u8 91, .int .u8 34, .int .u8 90, .int .u8 103, .int .u8 61, .int .u8 61, .int .u8 34, .int .u8 93, .int .u8 125] 5 (18, 18 + 1)))) := by
  have h := ch_take (l := [[102]]) (c := 18) (A := some ⟨w.heap.size, 0, none⟩) (w := w.alloc (.cells #[.int .u8 123, .int .u8 34, .int .u8 99, .int .u8 104, .int .u8 97, .int .u8 105, .int .u8 110, .int .u8 34, .int .u8 58, .int .u8 91, .int .u8 34, .int .u8 90, .int .u8 103, .int .u8 61, .int .u8 61, .int .u8 34, .int .u8 93, .int .u8 125] 5 (18, 18 + 1))) (by simp) (by rw [chT1]; decide)
    ⟨by rw [chT1]; exact bytes_const w _ _ _ rfl, fun b o e => by cases e; simp, hG.alloc _⟩ (by rw [chT1]; decide)
  rw [chT1] at h
  exact h
theorem read_two {w : World} (hG : Gl w) : Calls Tryz.prog 49 #[.slice (some ⟨w.heap.size, 0, none⟩) 2 2] (w.alloc (.cells #[.int .u8 91, .int .u8 93] 5 (2, 2 + 1))) (RowOut EB 1 43 [] (w.alloc (.cells #[.int .u8 91, .int .u8 93] 5 (2, 2 + 1)))) :=
  two_read (c := 2) ⟨bytes_const w [91, 93] _ _ rfl, fun b o e => by cases e; simp, hG.alloc _⟩ (by decide)
set_option maxRecDepth 100000 in
set_option maxHeartbeats 6400000 in
theorem wakes_any {w : World} (hG : Gl w) : Calls Tryz.prog 19 #[] w (BoolAt true w) := by
  have HG := Lib.hid hG
  clear hG
  go_enter Tryz.func19, Tryz.ntmps19
  go_upto_region 2 with (go_at_call 48; refine (readE_1 HG.out).mono ?_; rintro e w1 ⟨ho1, rfl⟩; have HO1 := Lib.hid ho1; clear ho1)
  go_upto_region 3 with (go_at_call 48; refine (readE_2 (HG.out.only HO1.out (fun _ _ => id))).mono ?_; rintro e w2 ⟨ho2, rfl⟩; have HO2 := Lib.hid (HO1.out.trans ho2); clear ho2)
  have hcv := Lib.run_convert_bytes_const (P := Tryz.prog) w2 22 5 #[.int .u8 123, .int .u8 34, .int .u8 99, .int .u8 104, .int .u8 97, .int .u8 105, .int .u8 110, .int .u8 34, .int .u8 58, .int .u8 91, .int .u8 34, .int .u8 90, .int .u8 103, .int .u8 61, .int .u8 61, .int .u8 34, .int .u8 93, .int .u8 125] 18 18 under22 under5
  go_upto_region 4 with (go_at_call 49; refine (read_ch (HG.out.only HO2.out (fun _ _ => id))).mono ?_; rintro e w3 ⟨ho3, A3, c3, rfl, hr3⟩; have HO3 := Lib.hid ((HO2.out.alloc _).trans ho3); have HR3 := Lib.hid hr3; clear ho3 hr3 hcv)
  have hcv := Lib.run_convert_bytes_const (P := Tryz.prog) w3 22 5 #[.int .u8 91, .int .u8 93] 2 2 under22 under5
  go_upto_region 5 with (go_at_call 49; refine (read_two (HG.out.only HO3.out (fun _ _ => id))).mono ?_; rintro e w4 ⟨ho4, A4, c4, rfl, _⟩; have HO34 := Lib.hid (((Only.refl (fun _ => False) w3).alloc _).trans ho4); have HO4 := Lib.hid ((HO3.out.alloc _).trans ho4); clear ho4 hcv)
  obtain ⟨b3, o3, cs, rfl, hrg, _, A5, c5, rfl, hb5, hc5, _⟩ := HR3.out 0 [102] rfl
  have HC := Lib.hid (fun w' (h : Only (fun _ => False) w3 w') => (show w'.cell? ⟨b3, o3, none⟩ = some (.slice A5 1 c5) ∧ (convert 22 9 (.slice A5 1 c5)).run Tryz.prog w' = .ok (.string ⟨#[102]⟩) w' from
    ⟨by have := rangeAt.keep hrg h 0 _ rfl; simpa using this, text_run (l := [102]) rfl (hb5.only0 h (fun _ _ _ _ => id))⟩))
  clear hrg hb5 hc5
  go_wp2_with (first
    | (go_at_call 25; refine (put_err32 (HG.out.only HO4.out (fun _ _ => id))).mono ?_; rintro e w5 ⟨ho5, A6, c6, rfl, ht5⟩; have HO5 := Lib.hid (HO4.out.trans ho5); have HO35 := Lib.hid (HO34.out.trans ho5); clear ho5)
    | (go_at_call 23; refine (put_prf5 (HG.out.only HO5.out (fun _ _ => id))).mono ?_; rintro e w6 ⟨ho6, A7, c7, rfl, ht6⟩; have HO6 := Lib.hid (HO5.out.trans ho6); have HO36 := Lib.hid (HO35.out.trans ho6); have hc0 := (HC.out w6 HO36.out).1; have hc1 := (HC.out w6 HO36.out).2; have HR6 := Lib.hid (RowAt.keep encB HR3.out HO36.out); clear ho6)
    | (go_at_call 50; refine (askEntries _).mono ?_; rintro e w7 ⟨rfl, rfl⟩)
    | (go_at_call 51; refine (ask_chain1 HR6.out (HG.out.only HO6.out (fun _ _ => id))).mono ?_; rintro e w8 ⟨ho8, A8, c8, rfl, ht8⟩; have HO8 := Lib.hid (HO6.out.trans ho8); clear ho8))
  go_ret
  exact ⟨HO8.out, rfl⟩
end Go.Proofs.YtjehnejgojgahaaGreatDoor

/- Q8 -/
namespace Go.Proofs.YtjehnejgojgahaaGreatDoor
open Go.RowKit
set_option linter.unusedVariables false
set_option linter.unusedSimpArgs false

/-- What the law is given. -/
structure BackIn (w : World) (i sg r hg : Bytes) (t n m : Nat) (A B : Option Addr) (l : List Bytes) (es : List (Bytes × Bytes)) (ix en : Nat) : Prop where
  gl : Gl w
  hi : i.length = 32
  hs : sg.length = 64
  hr : r.length = 32
  hh : hg.length = 64
  ht : t < 18446744073709551616
  hn : n < 18446744073709551616
  hm : m < 18446744073709551616
  rl : RowAt ED 32 (fun _ => True) w A l
  ll : l.length ≤ 3000000
  l32 : ∀ x ∈ l, x.length = 32
  re : RowAt EI 2 (fun _ => True) w B es
  le : es.length ≤ 3000000
  les : ∀ x ∈ es, x.1.length ≤ 1000000000 ∧ x.2.length ≤ 1000000000
  lt : (entT es).length ≤ 1000000000000
  hix : ix < 18446744073709551616
  hen : en < 65536
theorem inp_of {t : Bytes} {w w' : World} {A : Option Addr} (hG : Gl w) (ho : Only (fun _ => False) w w') (hb : BytesAt w' A t) (hl : ∀ b o, A = some ⟨b, o, none⟩ → b < w'.heap.size) : Inp w' A t := ⟨hb, hl, hG.only ho (fun _ _ => id)⟩
theorem oper_load {o : Oper} {a : Act} {w : World} {K : Act → World → Prop} {Q : Exit → Act → World → Prop} (ty : TypeId) (x : Operand) (ho : o.op = .load ty x) {g : Nat} {cs : List Value} {T : TypeId} (hx : a.eval x = .pointer (some ⟨g, 0, none⟩))
    (hB : Blk w g cs T) (hu : (Tryz.prog.underlying ty).map aggD = some true) (hi : (Tryz.prog.info? ty).map (·.size) = some cs.toArray.size) (h : K (a.put o.dst (.agg cs.toArray)) w) : Oper.wp Tryz.prog o a w K Q := by
  unfold Oper.wp
  have hrun : (execOp a.eval o).run Tryz.prog w = .ok (.value (.agg cs.toArray)) w := by
    unfold execOp
    simp only [ho, hx, Instr.loadAt, Instr.sureAddr, Sem.run_bind, Sem.run_pure, Result.andThen_ok, load_row Tryz.prog w g T ty cs hB hu hi]
  rw [hrun, Oper.upon_value]
  exact h
theorem oper_neq {o : Oper} {a : Act} {w : World} {K : Act → World → Prop} {Q : Exit → Act → World → Prop} (T : TypeId) (x y : Operand) (r : TypeId) (ho : o.op = .binOp .neq T x y r) {cs : List Value} (hx : a.eval x = .agg cs.toArray) (hy : a.eval y = .agg cs.toArray)
    (hm : Tryz.prog.eqGuardType Tryz.prog.depth T = false) (hn : ∀ w, (binOp .neq T (.agg cs.toArray) (.agg cs.toArray)).run Tryz.prog w = .ok (.bool false) w) (h : K (a.put o.dst (.bool false)) w) : Oper.wp Tryz.prog o a w K Q := by
  unfold Oper.wp
  have hrun : (execOp a.eval o).run Tryz.prog w = .ok (.value (.bool false)) w := by
    unfold execOp
    simp only [ho, hx, hy, Sem.run_bind, Sem.run_pure, Result.andThen_ok, run_eqGuard_agg _ _ _ _ _ _ _ hm, hn]
  rw [hrun, Oper.upon_value]
  exact h
theorem eg28 : Tryz.prog.eqGuardType Tryz.prog.depth 28 = false := by kernel_rfl
theorem eg35 : Tryz.prog.eqGuardType Tryz.prog.depth 35 = false := by kernel_rfl
theorem putCons_nil {w : World} (hG : Gl w) : Calls Tryz.prog 22 #[.slice none 0 0] w (PutOK (consT []) w) :=
  (putCons_any (l := []) (A := none) (c := 0) (Y := fun _ => True) rowAt_nil (by simp) hG (by have := consT_len (l := []) (by simp) (by simp); omega)).mono (fun e w' h => txt_ok (by have := consT_len (l := []) (by simp) (by simp); omega) h)
theorem ent_takek {A : Option Addr} {c k : Nat} {w : World} {l : List (Bytes × Bytes)} (hk : k = (entT l).length) (hl : l.length ≤ 3000000) (ht : (entT l).length ≤ 1048576) (hI : Inp w A (entT l)) (hc : (entT l).length ≤ c) : Calls Tryz.prog 14 #[.slice A k c] w (RowOut EI 2 0 l w) := by
  subst hk
  exact ent_take hl ht hI hc
theorem putPrf_nil {w : World} {n : Nat} (hn : n < 18446744073709551616) (hG : Gl w) : Calls Tryz.prog 23 #[.int .u64 n, .slice none 0 0] w (PutOK (prfT n []) w) :=
  (putPrf_any (n := n) (l := []) (A := none) (c := 0) (Y := fun _ => True) rowAt_nil (by simp) hn hG (by have := prfT_len (n := n) (l := []) hn (by simp) (by simp); omega)).mono (fun e w' h => txt_ok (by have := prfT_len (n := n) (l := []) hn (by simp) (by simp); omega) h)
set_option maxRecDepth 100000 in
set_option maxHeartbeats 12800000 in
theorem back_any {w : World} {i sg r hg : Bytes} {t n m : Nat} {A B : Option Addr} {c d : Nat} {l : List Bytes} {es : List (Bytes × Bytes)} {ix en : Nat} (h : BackIn w i sg r hg t n m A B l es ix en) :
    Calls Tryz.prog 4 #[.agg (sctC i t sg).toArray, .agg (headC n m r hg).toArray, .slice A l.length c, .int .u64 ix, .slice B es.length d, .int .u16 en] w (BoolAt true w) := by
  have H := Lib.hid h
  have l28 := sctC_len (n := t) h.hi h.hs
  have l35 := headC_len (n := n) (m := m) h.hr h.hh
  have i28 := info28s l28
  have i35 := info35s l35
  have L28 := Lib.hid l28
  have L35 := Lib.hid l35
  have hll : (l.length : Int) ≤ 3000000 := by have := h.ll; omega
  have hen1 : (0 : Int) ≤ (en : Int) := by omega
  have hen2 : (en : Int) < 65536 := by have := h.hen; omega
  have hneq28 := fun w => neq28 h.hi h.hs h.ht w
  have hneq35 := fun w => neq35 h.hr h.hh h.hn h.hm w
  clear h l28 l35
  go_enter Tryz.func4, Tryz.ntmps4
  go_upto_region 1 with (first
    | (refine wpList_box_blk rfl 28 6 (.tmp 0) rfl rfl rfl ?_; intro w1 hb1 ho1 hs1; have O1 := Lib.hid ho1; have A6 := Lib.hid hb1; clear hb1 ho1 hs1; generalize w.heap.size = g6 at A6 ⊢)
    | (refine wpList_box_blk rfl 35 7 (.tmp 1) rfl rfl rfl ?_; intro w2 hb2 ho2 hs2; have O2 := Lib.hid (O1.out.trans ho2); have B6 := Lib.hid (A6.out.only ho2 id); have B7 := Lib.hid hb2; clear hb2 ho2 hs2; generalize w1.heap.size = g7 at B7 ⊢))
  go_upto_region 2 with (first
    | (refine wpList_load_blk (cs := sctC i t sg) rfl 28 (.tmp 6) rfl rfl B6.out agg28 i28 ?_)
    | (go_at_call 20; refine (putSct_any H.out.ht H.out.hi H.out.hs (H.out.gl.only O2.out (fun _ _ => id))).mono ?_; rintro e w3 h3; obtain ⟨ho3, P3, p3, rfl, hb3, hc3, hl3⟩ := txt_ok (by have := sctT_len H.out.ht H.out.hi H.out.hs; omega) h3; have O3 := Lib.hid (O2.out.trans ho3); have C6 := Lib.hid (B6.out.only ho3 id); have C7 := Lib.hid (B7.out.only ho3 id); have I3 := Lib.hid (inp_of H.out.gl O3.out hb3 hl3); have K3 := Lib.hid hc3; clear h3 ho3 hb3 hc3 hl3)
    | (go_at_call 5; refine (sct_take H.out.ht H.out.hi H.out.hs I3.out K3.out).mono ?_; rintro e w4 ⟨ho4, rfl⟩; have O4 := Lib.hid (O3.out.trans ho4); have D6 := Lib.hid (C6.out.only ho4 id); have D7 := Lib.hid (C7.out.only ho4 id); clear ho4)
    | (refine wpList_alloc_blk rfl 28 13 rfl rfl zero28 ?_; intro w5 hb5 ho5 hs5; have O5 := Lib.hid (O4.out.trans ho5); have E6 := Lib.hid (D6.out.only ho5 id); have E7 := Lib.hid (D7.out.only ho5 id); have E13 := Lib.hid hb5; have ne6 := Lib.hid (show g6 ≠ w4.heap.size by have := D6.out.lt; omega); have ne7 := Lib.hid (show g7 ≠ w4.heap.size by have := D7.out.lt; omega); have hge := Lib.hid O4.out.size; clear hb5 ho5 hs5; generalize w4.heap.size = g13 at E13 ne6 ne7 hge ⊢)
    | (refine wpList_store_blk (cs := sctC i t sg) rfl 28 (.tmp 13) (.tmp 39) rfl rfl rfl rfl E13.out (by rw [zc28_len, L28.out]) i28 (sctC_one _ _ _) ?_; intro w6 hb6 ho6; have O6 := Lib.hid (O5.out.then ho6 (fun k hk e => by have := hge.out; omega)); have F6 := Lib.hid (E6.out.only ho6 ne6.out); have F7 := Lib.hid (E7.out.only ho6 ne7.out); have F13 := Lib.hid hb6; clear hb6 ho6))
  go_upto_region 3 with (first
    | (refine wpList_load_blk (cs := headC n m r hg) rfl 35 (.tmp 7) rfl rfl F7.out agg35 i35 ?_)
    | (go_at_call 21; refine (putHead_any H.out.hn H.out.hm H.out.hr H.out.hh (H.out.gl.only O6.out (fun _ _ => id))).mono ?_; rintro e w7 h7; obtain ⟨ho7, P7, p7, rfl, hb7, hc7, hl7⟩ := txt_ok (by have := headT_len H.out.hn H.out.hm H.out.hr H.out.hh; omega) h7; have O7 := Lib.hid (O6.out.trans ho7); have G6 := Lib.hid (F6.out.only ho7 id); have G7 := Lib.hid (F7.out.only ho7 id); have G13 := Lib.hid (F13.out.only ho7 id); have I7 := Lib.hid (inp_of H.out.gl O7.out hb7 hl7); have K7 := Lib.hid hc7; clear h7 ho7 hb7 hc7 hl7)
    | (go_at_call 7; refine (head_take H.out.hn H.out.hm H.out.hr H.out.hh I7.out K7.out).mono ?_; rintro e w8 ⟨ho8, rfl⟩; have O8 := Lib.hid (O7.out.trans ho8); have J6 := Lib.hid (G6.out.only ho8 id); have J7 := Lib.hid (G7.out.only ho8 id); have J13 := Lib.hid (G13.out.only ho8 id); clear ho8)
    | (refine wpList_alloc_blk rfl 35 15 rfl rfl zero35 ?_; intro w9 hb9 ho9 hs9; have O9 := Lib.hid (O8.out.trans ho9); have M6 := Lib.hid (J6.out.only ho9 id); have M7 := Lib.hid (J7.out.only ho9 id); have M13 := Lib.hid (J13.out.only ho9 id); have M15 := Lib.hid hb9; have nf6 := Lib.hid (show g6 ≠ w8.heap.size by have := J6.out.lt; omega); have nf7 := Lib.hid (show g7 ≠ w8.heap.size by have := J7.out.lt; omega); have nf13 := Lib.hid (show g13 ≠ w8.heap.size by have := J13.out.lt; omega); have hge2 := Lib.hid O8.out.size; clear hb9 ho9 hs9; generalize w8.heap.size = g15 at M15 nf6 nf7 nf13 hge2 ⊢)
    | (refine wpList_store_blk (cs := headC n m r hg) rfl 35 (.tmp 15) (.tmp 45) rfl rfl rfl rfl M15.out (by rw [zc35_len, L35.out]) i35 (headC_one _ _ _ _) ?_; intro w10 hb10 ho10; have O10 := Lib.hid (O9.out.then ho10 (fun k hk e => by have := hge2.out; omega)); have N6 := Lib.hid (M6.out.only ho10 nf6.out); have N7 := Lib.hid (M7.out.only ho10 nf7.out); have N13 := Lib.hid (M13.out.only ho10 nf13.out); have N15 := Lib.hid hb10; clear hb10 ho10))
  go_upto_region 5 with (first
    | (refine oper_load 28 (.tmp 13) rfl rfl N13.out agg28 i28 ?_)
    | (refine oper_load 28 (.tmp 6) rfl rfl N6.out agg28 i28 ?_)
    | (refine oper_load 35 (.tmp 15) rfl rfl N15.out agg35 i35 ?_)
    | (refine oper_load 35 (.tmp 7) rfl rfl N7.out agg35 i35 ?_)
    | (refine oper_neq 28 (.tmp 50) (.tmp 51) 28 rfl rfl rfl eg28 hneq28 ?_)
    | (refine oper_neq 35 (.tmp 59) (.tmp 60) 35 rfl rfl rfl eg35 hneq35 ?_))
  have HK := Lib.hid (fun w' (h : Only (fun _ => False) w10 w') => (show Blk w' g6 (sctC i t sg) 28 ∧ Blk w' g7 (headC n m r hg) 35 from ⟨N6.out.only h id, N7.out.only h id⟩))
  have OO10 := Lib.hid (Only.refl (fun _ => False) w10)
  clear hneq28 hneq35
  have hl0 : (entT es).length ≠ 0 := by unfold entT lT objT; simp
  have HL0 := Lib.hid hl0
  clear hl0
  rcases Nat.lt_or_ge 10000 l.length with hbig | hsmall
  rotate_left 1
  · have HSM := Lib.hid hsmall
    have q : decide ((l.length : Int) ≤ 10000) = true := by simp; omega
    clear hsmall
    go_upto_region 7 with (first
      | (go_at_call 22; refine (putCons_any (RowAt.keep encD H.out.rl O10.out) H.out.ll (H.out.gl.only O10.out (fun _ _ => id)) (by have := consT_len HSM.out H.out.l32; omega)).mono ?_; rintro e w11 h11; obtain ⟨ho11, P11, p11, rfl, hb11, hc11, hl11⟩ := txt_ok (by have := consT_len HSM.out H.out.l32; omega) h11; have OO11 := Lib.hid ho11; have I11 := Lib.hid (inp_of H.out.gl (O10.out.trans ho11) hb11 hl11); have K11 := Lib.hid hc11; clear h11 ho11 hb11 hc11 hl11)
      | (go_at_call 9; refine (cons_take HSM.out H.out.l32 I11.out K11.out).mono ?_; rintro e w12 ⟨ho12, P12, p12, rfl, hr12⟩; have OO12 := Lib.hid (OO11.out.trans ho12); have R12 := Lib.hid hr12; clear ho12 hr12))
    go_upto_region 8 with (first
      | (go_at_call 23; refine (putPrf_any (RowAt.keep encD H.out.rl (O10.out.trans OO12.out)) H.out.ll H.out.hix (H.out.gl.only (O10.out.trans OO12.out) (fun _ _ => id)) (by have := prfT_len H.out.hix HSM.out H.out.l32; omega)).mono ?_; rintro e w13 h13; obtain ⟨ho13, P13, p13, rfl, hb13, hc13, hl13⟩ := txt_ok (by have := prfT_len H.out.hix HSM.out H.out.l32; omega) h13; have OO13 := Lib.hid (OO12.out.trans ho13); have R13 := Lib.hid (RowAt.keep encD R12.out ho13); have I13 := Lib.hid (inp_of H.out.gl (O10.out.trans OO13.out) hb13 hl13); have K13 := Lib.hid hc13; clear h13 ho13 hb13 hc13 hl13)
      | (go_at_call 12; refine (prf_take H.out.hix HSM.out H.out.l32 I13.out K13.out).mono ?_; rintro e w14 ⟨ho14, P14, p14, rfl, hr14⟩; have OO14 := Lib.hid (OO13.out.trans ho14); have R14 := Lib.hid (RowAt.keep encD R13.out ho14); have U14 := Lib.hid hr14; clear ho14 hr14))
    have hix0 : ((ix : Int) != (ix : Int)) = false := by simp
    go_upto_region 10 with (first
      | (go_at_call 11; refine (same_any R14.out (RowAt.keep encD H.out.rl (O10.out.trans OO14.out)) H.out.ll).mono ?_; rintro e w15 ⟨ho15, rfl⟩; have OO15 := Lib.hid (OO14.out.trans ho15); have U15 := Lib.hid (RowAt.keep encD U14.out ho15); clear ho15 R14)
      | (go_at_call 11; refine (same_any U15.out (RowAt.keep encD H.out.rl (O10.out.trans OO15.out)) H.out.ll).mono ?_; rintro e w16 ⟨ho16, rfl⟩; have OO16 := Lib.hid (OO15.out.trans ho16); clear ho16))
    go_upto_region 11 with (go_at_call 24; refine (putEnt_any (RowAt.keep encI H.out.re (O10.out.trans OO16.out)) H.out.le H.out.les (H.out.gl.only (O10.out.trans OO16.out) (fun _ _ => id)) H.out.lt).mono ?_; rintro e y1 hh; obtain ⟨ho, Q1, q1, rfl, hb, hc, hl⟩ := txt_any hh; have OY1 := Lib.hid (OO16.out.trans ho); have IY := Lib.hid (inp_of H.out.gl (O10.out.trans OY1.out) hb hl); have KY := Lib.hid hc; clear hh ho hb hc hl)
    rcases Nat.lt_or_ge 1048576 (entT es).length with hbt | hst
    · have e0 : (outT (entT es)).length = 0 := by unfold outT; rw [if_neg (by omega)]; rfl
      rw [e0]
      clear e0 hbt
      go_upto_region 15 with (fail)
      have hen0 : ((en : Int) != (en : Int)) = false := by simp
      go_upto_region 16 with (first
        | (go_at_call 25; refine (putErr_any (n := en) (by have := H.out.hen; omega) (H.out.gl.only (O10.out.trans OY1.out) (fun _ _ => id)) (by have := errT_len (n := en) (by have := H.out.hen; omega); omega)).mono ?_; rintro e z101 hh; obtain ⟨ho, P1, p1, rfl, hb, hc, hl⟩ := txt_ok (by have := errT_len (n := en) (by have := H.out.hen; omega); omega) hh; have OZ101 := Lib.hid (OY1.out.trans ho); have I1 := Lib.hid (inp_of H.out.gl (O10.out.trans OZ101.out) hb hl); have K1 := Lib.hid hc; clear hh ho hb hc hl)
        | (go_at_call 17; refine (err_take (n := en) (by have := H.out.hen; omega) I1.out K1.out).mono ?_; rintro e z102 ⟨ho, rfl⟩; have OZ102 := Lib.hid (OZ101.out.trans ho); clear ho))
      go_upto_region 18 with (fail)
      go_upto_region 19 with (first
        | (refine wpList_load_blk (cs := sctC i t sg) rfl 28 (.tmp 6) rfl rfl (HK.out _ OZ102.out).1 agg28 i28 ?_)
        | (go_at_call 20; refine (putSct_any H.out.ht H.out.hi H.out.hs (H.out.gl.only (O10.out.trans OZ102.out) (fun _ _ => id))).mono ?_; rintro e z103 hh; obtain ⟨ho, P3, p3, rfl, hb, hc, hl⟩ := txt_ok (by have := sctT_len H.out.ht H.out.hi H.out.hs; omega) hh; have OZ103 := Lib.hid (OZ102.out.trans ho); have I3 := Lib.hid (inp_of H.out.gl (O10.out.trans OZ103.out) hb hl); have K3 := Lib.hid hc; clear hh ho hb hc hl)
        | (go_at_call 7; refine (sct_take7 H.out.ht H.out.hi H.out.hs I3.out K3.out).mono ?_; rintro e z104 ⟨ho, rfl⟩; have OZ104 := Lib.hid (OZ103.out.trans ho); clear ho)
        | (refine wpList_alloc_blk rfl 35 26 rfl rfl zero35 ?_; intro z105 hb ho hs; have OZ105 := Lib.hid (OZ104.out.trans ho); have E26 := Lib.hid hb; have ge26 := Lib.hid OZ104.out.size; clear hb ho hs; generalize z104.heap.size = g26 at E26 ge26 ⊢)
        | (refine wpList_store_blk (cs := zc35) rfl 35 (.tmp 26) (.tmp 140) rfl rfl rfl rfl E26.out rfl (info35s zc35_len) zc35_one ?_; intro z106 hb ho; have OZ106 := Lib.hid (OZ105.out.then ho (fun k hk e => by have := ge26.out; omega)); clear hb ho))
      go_upto_region 20 with (first
        | (refine wpList_load_blk (cs := headC n m r hg) rfl 35 (.tmp 7) rfl rfl (HK.out _ OZ106.out).2 agg35 i35 ?_)
        | (go_at_call 21; refine (putHead_any H.out.hn H.out.hm H.out.hr H.out.hh (H.out.gl.only (O10.out.trans OZ106.out) (fun _ _ => id))).mono ?_; rintro e z107 hh; obtain ⟨ho, P7, p7, rfl, hb, hc, hl⟩ := txt_ok (by have := headT_len H.out.hn H.out.hm H.out.hr H.out.hh; omega) hh; have OZ107 := Lib.hid (OZ106.out.trans ho); have I7 := Lib.hid (inp_of H.out.gl (O10.out.trans OZ107.out) hb hl); have K7 := Lib.hid hc; clear hh ho hb hc hl)
        | (go_at_call 5; refine (head_take5 H.out.hn H.out.hm H.out.hr H.out.hh I7.out K7.out).mono ?_; rintro e z108 ⟨ho, rfl⟩; have OZ108 := Lib.hid (OZ107.out.trans ho); clear ho)
        | (refine wpList_alloc_blk rfl 28 28 rfl rfl zero28 ?_; intro z109 hb ho hs; have OZ109 := Lib.hid (OZ108.out.trans ho); have E28 := Lib.hid hb; have ge28 := Lib.hid OZ108.out.size; clear hb ho hs; generalize z108.heap.size = g28 at E28 ge28 ⊢)
        | (refine wpList_store_blk (cs := zc28) rfl 28 (.tmp 28) (.tmp 146) rfl rfl rfl rfl E28.out rfl (info28s zc28_len) zc28_one ?_; intro z110 hb ho; have OZ110 := Lib.hid (OZ109.out.then ho (fun k hk e => by have := ge28.out; omega)); clear hb ho))
      go_upto_region 21 with (first
        | (go_at_call 22; refine (putCons_nil (H.out.gl.only (O10.out.trans OZ110.out) (fun _ _ => id))).mono ?_; rintro e z111 ⟨ho, P11, p11, rfl, hb, hc, hl⟩; have OZ111 := Lib.hid (OZ110.out.trans ho); have I11 := Lib.hid (inp_of H.out.gl (O10.out.trans OZ111.out) hb hl); have K11 := Lib.hid hc; clear ho hb hc hl)
        | (go_at_call 12; refine (cons_take12 I11.out K11.out).mono ?_; rintro e z112 ⟨ho, P12, p12, rfl, _⟩; have OZ112 := Lib.hid (OZ111.out.trans ho); clear ho))
      go_upto_region 22 with (first
        | (go_at_call 23; refine (putPrf_nil H.out.hix (H.out.gl.only (O10.out.trans OZ112.out) (fun _ _ => id))).mono ?_; rintro e z113 ⟨ho, P13, p13, rfl, hb, hc, hl⟩; have OZ113 := Lib.hid (OZ112.out.trans ho); have I13 := Lib.hid (inp_of H.out.gl (O10.out.trans OZ113.out) hb hl); have K13 := Lib.hid hc; clear ho hb hc hl)
        | (go_at_call 9; refine (prf_take9 H.out.hix I13.out K13.out).mono ?_; rintro e z114 ⟨ho, P14, p14, rfl, _⟩; have OZ114 := Lib.hid (OZ113.out.trans ho); clear ho))
      go_wp2_with (go_at_call 19; refine (wakes_any (H.out.gl.only (O10.out.trans OZ114.out) (fun _ _ => id))).mono ?_; rintro e z115 ⟨ho, rfl⟩; have OZ115 := Lib.hid (OZ114.out.trans ho); clear ho)
      go_ret
      exact ⟨O10.out.trans OZ115.out, rfl⟩
    · have e0 : outT (entT es) = entT es := if_pos hst
      rw [e0] at IY KY ⊢
      have HST := Lib.hid hst
      obtain ⟨kk, hkk⟩ : ∃ kk, kk = (entT es).length := ⟨_, rfl⟩
      have hk0 : 0 < kk := by have := HL0.out; omega
      have hkz : (0 : Int) < (kk : Int) := by omega
      have q2 : decide ((0 : Int) < (kk : Int)) = true := by simp; omega
      rw [← hkk]
      have HKK := Lib.hid hkk
      clear e0 hst hkk
      go_upto_region 13 with (go_at_call 14; refine (ent_takek HKK.out H.out.le HST.out IY.out KY.out).mono ?_; rintro e y2 ⟨ho, Q2, q2, rfl, hr⟩; have OY2 := Lib.hid (OY1.out.trans ho); have RY2 := Lib.hid hr; clear ho hr)
      go_upto_region 15 with (go_at_call 16; refine (items_any RY2.out (RowAt.keep encI H.out.re (O10.out.trans OY2.out)) H.out.le).mono ?_; rintro e y3 ⟨ho, rfl⟩; have OY3 := Lib.hid (OY2.out.trans ho); clear ho)
      have hen0 : ((en : Int) != (en : Int)) = false := by simp
      go_upto_region 16 with (first
        | (go_at_call 25; refine (putErr_any (n := en) (by have := H.out.hen; omega) (H.out.gl.only (O10.out.trans OY3.out) (fun _ _ => id)) (by have := errT_len (n := en) (by have := H.out.hen; omega); omega)).mono ?_; rintro e z121 hh; obtain ⟨ho, P1, p1, rfl, hb, hc, hl⟩ := txt_ok (by have := errT_len (n := en) (by have := H.out.hen; omega); omega) hh; have OZ121 := Lib.hid (OY3.out.trans ho); have I1 := Lib.hid (inp_of H.out.gl (O10.out.trans OZ121.out) hb hl); have K1 := Lib.hid hc; clear hh ho hb hc hl)
        | (go_at_call 17; refine (err_take (n := en) (by have := H.out.hen; omega) I1.out K1.out).mono ?_; rintro e z122 ⟨ho, rfl⟩; have OZ122 := Lib.hid (OZ121.out.trans ho); clear ho))
      go_upto_region 18 with (fail)
      go_upto_region 19 with (first
        | (refine wpList_load_blk (cs := sctC i t sg) rfl 28 (.tmp 6) rfl rfl (HK.out _ OZ122.out).1 agg28 i28 ?_)
        | (go_at_call 20; refine (putSct_any H.out.ht H.out.hi H.out.hs (H.out.gl.only (O10.out.trans OZ122.out) (fun _ _ => id))).mono ?_; rintro e z123 hh; obtain ⟨ho, P3, p3, rfl, hb, hc, hl⟩ := txt_ok (by have := sctT_len H.out.ht H.out.hi H.out.hs; omega) hh; have OZ123 := Lib.hid (OZ122.out.trans ho); have I3 := Lib.hid (inp_of H.out.gl (O10.out.trans OZ123.out) hb hl); have K3 := Lib.hid hc; clear hh ho hb hc hl)
        | (go_at_call 7; refine (sct_take7 H.out.ht H.out.hi H.out.hs I3.out K3.out).mono ?_; rintro e z124 ⟨ho, rfl⟩; have OZ124 := Lib.hid (OZ123.out.trans ho); clear ho)
        | (refine wpList_alloc_blk rfl 35 26 rfl rfl zero35 ?_; intro z125 hb ho hs; have OZ125 := Lib.hid (OZ124.out.trans ho); have E26 := Lib.hid hb; have ge26 := Lib.hid OZ124.out.size; clear hb ho hs; generalize z124.heap.size = g26 at E26 ge26 ⊢)
        | (refine wpList_store_blk (cs := zc35) rfl 35 (.tmp 26) (.tmp 140) rfl rfl rfl rfl E26.out rfl (info35s zc35_len) zc35_one ?_; intro z126 hb ho; have OZ126 := Lib.hid (OZ125.out.then ho (fun k hk e => by have := ge26.out; omega)); clear hb ho))
      go_upto_region 20 with (first
        | (refine wpList_load_blk (cs := headC n m r hg) rfl 35 (.tmp 7) rfl rfl (HK.out _ OZ126.out).2 agg35 i35 ?_)
        | (go_at_call 21; refine (putHead_any H.out.hn H.out.hm H.out.hr H.out.hh (H.out.gl.only (O10.out.trans OZ126.out) (fun _ _ => id))).mono ?_; rintro e z127 hh; obtain ⟨ho, P7, p7, rfl, hb, hc, hl⟩ := txt_ok (by have := headT_len H.out.hn H.out.hm H.out.hr H.out.hh; omega) hh; have OZ127 := Lib.hid (OZ126.out.trans ho); have I7 := Lib.hid (inp_of H.out.gl (O10.out.trans OZ127.out) hb hl); have K7 := Lib.hid hc; clear hh ho hb hc hl)
        | (go_at_call 5; refine (head_take5 H.out.hn H.out.hm H.out.hr H.out.hh I7.out K7.out).mono ?_; rintro e z128 ⟨ho, rfl⟩; have OZ128 := Lib.hid (OZ127.out.trans ho); clear ho)
        | (refine wpList_alloc_blk rfl 28 28 rfl rfl zero28 ?_; intro z129 hb ho hs; have OZ129 := Lib.hid (OZ128.out.trans ho); have E28 := Lib.hid hb; have ge28 := Lib.hid OZ128.out.size; clear hb ho hs; generalize z128.heap.size = g28 at E28 ge28 ⊢)
        | (refine wpList_store_blk (cs := zc28) rfl 28 (.tmp 28) (.tmp 146) rfl rfl rfl rfl E28.out rfl (info28s zc28_len) zc28_one ?_; intro z130 hb ho; have OZ130 := Lib.hid (OZ129.out.then ho (fun k hk e => by have := ge28.out; omega)); clear hb ho))
      go_upto_region 21 with (first
        | (go_at_call 22; refine (putCons_nil (H.out.gl.only (O10.out.trans OZ130.out) (fun _ _ => id))).mono ?_; rintro e z131 ⟨ho, P11, p11, rfl, hb, hc, hl⟩; have OZ131 := Lib.hid (OZ130.out.trans ho); have I11 := Lib.hid (inp_of H.out.gl (O10.out.trans OZ131.out) hb hl); have K11 := Lib.hid hc; clear ho hb hc hl)
        | (go_at_call 12; refine (cons_take12 I11.out K11.out).mono ?_; rintro e z132 ⟨ho, P12, p12, rfl, _⟩; have OZ132 := Lib.hid (OZ131.out.trans ho); clear ho))
      go_upto_region 22 with (first
        | (go_at_call 23; refine (putPrf_nil H.out.hix (H.out.gl.only (O10.out.trans OZ132.out) (fun _ _ => id))).mono ?_; rintro e z133 ⟨ho, P13, p13, rfl, hb, hc, hl⟩; have OZ133 := Lib.hid (OZ132.out.trans ho); have I13 := Lib.hid (inp_of H.out.gl (O10.out.trans OZ133.out) hb hl); have K13 := Lib.hid hc; clear ho hb hc hl)
        | (go_at_call 9; refine (prf_take9 H.out.hix I13.out K13.out).mono ?_; rintro e z134 ⟨ho, P14, p14, rfl, _⟩; have OZ134 := Lib.hid (OZ133.out.trans ho); clear ho))
      go_wp2_with (go_at_call 19; refine (wakes_any (H.out.gl.only (O10.out.trans OZ134.out) (fun _ _ => id))).mono ?_; rintro e z135 ⟨ho, rfl⟩; have OZ135 := Lib.hid (OZ134.out.trans ho); clear ho)
      go_ret
      exact ⟨O10.out.trans OZ135.out, rfl⟩
  · have q : decide ((l.length : Int) ≤ 10000) = false := by simp; omega
    clear hbig
    go_upto_region 10 with (fail)
    go_upto_region 11 with (go_at_call 24; refine (putEnt_any (RowAt.keep encI H.out.re (O10.out.trans OO10.out)) H.out.le H.out.les (H.out.gl.only (O10.out.trans OO10.out) (fun _ _ => id)) H.out.lt).mono ?_; rintro e y1 hh; obtain ⟨ho, Q1, q1, rfl, hb, hc, hl⟩ := txt_any hh; have OY1 := Lib.hid (OO10.out.trans ho); have IY := Lib.hid (inp_of H.out.gl (O10.out.trans OY1.out) hb hl); have KY := Lib.hid hc; clear hh ho hb hc hl)
    rcases Nat.lt_or_ge 1048576 (entT es).length with hbt | hst
    · have e0 : (outT (entT es)).length = 0 := by unfold outT; rw [if_neg (by omega)]; rfl
      rw [e0]
      clear e0 hbt
      go_upto_region 15 with (fail)
      have hen0 : ((en : Int) != (en : Int)) = false := by simp
      go_upto_region 16 with (first
        | (go_at_call 25; refine (putErr_any (n := en) (by have := H.out.hen; omega) (H.out.gl.only (O10.out.trans OY1.out) (fun _ _ => id)) (by have := errT_len (n := en) (by have := H.out.hen; omega); omega)).mono ?_; rintro e z141 hh; obtain ⟨ho, P1, p1, rfl, hb, hc, hl⟩ := txt_ok (by have := errT_len (n := en) (by have := H.out.hen; omega); omega) hh; have OZ141 := Lib.hid (OY1.out.trans ho); have I1 := Lib.hid (inp_of H.out.gl (O10.out.trans OZ141.out) hb hl); have K1 := Lib.hid hc; clear hh ho hb hc hl)
        | (go_at_call 17; refine (err_take (n := en) (by have := H.out.hen; omega) I1.out K1.out).mono ?_; rintro e z142 ⟨ho, rfl⟩; have OZ142 := Lib.hid (OZ141.out.trans ho); clear ho))
      go_upto_region 18 with (fail)
      go_upto_region 19 with (first
        | (refine wpList_load_blk (cs := sctC i t sg) rfl 28 (.tmp 6) rfl rfl (HK.out _ OZ142.out).1 agg28 i28 ?_)
        | (go_at_call 20; refine (putSct_any H.out.ht H.out.hi H.out.hs (H.out.gl.only (O10.out.trans OZ142.out) (fun _ _ => id))).mono ?_; rintro e z143 hh; obtain ⟨ho, P3, p3, rfl, hb, hc, hl⟩ := txt_ok (by have := sctT_len H.out.ht H.out.hi H.out.hs; omega) hh; have OZ143 := Lib.hid (OZ142.out.trans ho); have I3 := Lib.hid (inp_of H.out.gl (O10.out.trans OZ143.out) hb hl); have K3 := Lib.hid hc; clear hh ho hb hc hl)
        | (go_at_call 7; refine (sct_take7 H.out.ht H.out.hi H.out.hs I3.out K3.out).mono ?_; rintro e z144 ⟨ho, rfl⟩; have OZ144 := Lib.hid (OZ143.out.trans ho); clear ho)
        | (refine wpList_alloc_blk rfl 35 26 rfl rfl zero35 ?_; intro z145 hb ho hs; have OZ145 := Lib.hid (OZ144.out.trans ho); have E26 := Lib.hid hb; have ge26 := Lib.hid OZ144.out.size; clear hb ho hs; generalize z144.heap.size = g26 at E26 ge26 ⊢)
        | (refine wpList_store_blk (cs := zc35) rfl 35 (.tmp 26) (.tmp 140) rfl rfl rfl rfl E26.out rfl (info35s zc35_len) zc35_one ?_; intro z146 hb ho; have OZ146 := Lib.hid (OZ145.out.then ho (fun k hk e => by have := ge26.out; omega)); clear hb ho))
      go_upto_region 20 with (first
        | (refine wpList_load_blk (cs := headC n m r hg) rfl 35 (.tmp 7) rfl rfl (HK.out _ OZ146.out).2 agg35 i35 ?_)
        | (go_at_call 21; refine (putHead_any H.out.hn H.out.hm H.out.hr H.out.hh (H.out.gl.only (O10.out.trans OZ146.out) (fun _ _ => id))).mono ?_; rintro e z147 hh; obtain ⟨ho, P7, p7, rfl, hb, hc, hl⟩ := txt_ok (by have := headT_len H.out.hn H.out.hm H.out.hr H.out.hh; omega) hh; have OZ147 := Lib.hid (OZ146.out.trans ho); have I7 := Lib.hid (inp_of H.out.gl (O10.out.trans OZ147.out) hb hl); have K7 := Lib.hid hc; clear hh ho hb hc hl)
        | (go_at_call 5; refine (head_take5 H.out.hn H.out.hm H.out.hr H.out.hh I7.out K7.out).mono ?_; rintro e z148 ⟨ho, rfl⟩; have OZ148 := Lib.hid (OZ147.out.trans ho); clear ho)
        | (refine wpList_alloc_blk rfl 28 28 rfl rfl zero28 ?_; intro z149 hb ho hs; have OZ149 := Lib.hid (OZ148.out.trans ho); have E28 := Lib.hid hb; have ge28 := Lib.hid OZ148.out.size; clear hb ho hs; generalize z148.heap.size = g28 at E28 ge28 ⊢)
        | (refine wpList_store_blk (cs := zc28) rfl 28 (.tmp 28) (.tmp 146) rfl rfl rfl rfl E28.out rfl (info28s zc28_len) zc28_one ?_; intro z150 hb ho; have OZ150 := Lib.hid (OZ149.out.then ho (fun k hk e => by have := ge28.out; omega)); clear hb ho))
      go_upto_region 21 with (first
        | (go_at_call 22; refine (putCons_nil (H.out.gl.only (O10.out.trans OZ150.out) (fun _ _ => id))).mono ?_; rintro e z151 ⟨ho, P11, p11, rfl, hb, hc, hl⟩; have OZ151 := Lib.hid (OZ150.out.trans ho); have I11 := Lib.hid (inp_of H.out.gl (O10.out.trans OZ151.out) hb hl); have K11 := Lib.hid hc; clear ho hb hc hl)
        | (go_at_call 12; refine (cons_take12 I11.out K11.out).mono ?_; rintro e z152 ⟨ho, P12, p12, rfl, _⟩; have OZ152 := Lib.hid (OZ151.out.trans ho); clear ho))
      go_upto_region 22 with (first
        | (go_at_call 23; refine (putPrf_nil H.out.hix (H.out.gl.only (O10.out.trans OZ152.out) (fun _ _ => id))).mono ?_; rintro e z153 ⟨ho, P13, p13, rfl, hb, hc, hl⟩; have OZ153 := Lib.hid (OZ152.out.trans ho); have I13 := Lib.hid (inp_of H.out.gl (O10.out.trans OZ153.out) hb hl); have K13 := Lib.hid hc; clear ho hb hc hl)
        | (go_at_call 9; refine (prf_take9 H.out.hix I13.out K13.out).mono ?_; rintro e z154 ⟨ho, P14, p14, rfl, _⟩; have OZ154 := Lib.hid (OZ153.out.trans ho); clear ho))
      go_wp2_with (go_at_call 19; refine (wakes_any (H.out.gl.only (O10.out.trans OZ154.out) (fun _ _ => id))).mono ?_; rintro e z155 ⟨ho, rfl⟩; have OZ155 := Lib.hid (OZ154.out.trans ho); clear ho)
      go_ret
      exact ⟨O10.out.trans OZ155.out, rfl⟩
    · have e0 : outT (entT es) = entT es := if_pos hst
      rw [e0] at IY KY ⊢
      have HST := Lib.hid hst
      obtain ⟨kk, hkk⟩ : ∃ kk, kk = (entT es).length := ⟨_, rfl⟩
      have hk0 : 0 < kk := by have := HL0.out; omega
      have hkz : (0 : Int) < (kk : Int) := by omega
      have q2 : decide ((0 : Int) < (kk : Int)) = true := by simp; omega
      rw [← hkk]
      have HKK := Lib.hid hkk
      clear e0 hst hkk
      go_upto_region 13 with (go_at_call 14; refine (ent_takek HKK.out H.out.le HST.out IY.out KY.out).mono ?_; rintro e y2 ⟨ho, Q2, q2, rfl, hr⟩; have OY2 := Lib.hid (OY1.out.trans ho); have RY2 := Lib.hid hr; clear ho hr)
      go_upto_region 15 with (go_at_call 16; refine (items_any RY2.out (RowAt.keep encI H.out.re (O10.out.trans OY2.out)) H.out.le).mono ?_; rintro e y3 ⟨ho, rfl⟩; have OY3 := Lib.hid (OY2.out.trans ho); clear ho)
      have hen0 : ((en : Int) != (en : Int)) = false := by simp
      go_upto_region 16 with (first
        | (go_at_call 25; refine (putErr_any (n := en) (by have := H.out.hen; omega) (H.out.gl.only (O10.out.trans OY3.out) (fun _ _ => id)) (by have := errT_len (n := en) (by have := H.out.hen; omega); omega)).mono ?_; rintro e z161 hh; obtain ⟨ho, P1, p1, rfl, hb, hc, hl⟩ := txt_ok (by have := errT_len (n := en) (by have := H.out.hen; omega); omega) hh; have OZ161 := Lib.hid (OY3.out.trans ho); have I1 := Lib.hid (inp_of H.out.gl (O10.out.trans OZ161.out) hb hl); have K1 := Lib.hid hc; clear hh ho hb hc hl)
        | (go_at_call 17; refine (err_take (n := en) (by have := H.out.hen; omega) I1.out K1.out).mono ?_; rintro e z162 ⟨ho, rfl⟩; have OZ162 := Lib.hid (OZ161.out.trans ho); clear ho))
      go_upto_region 18 with (fail)
      go_upto_region 19 with (first
        | (refine wpList_load_blk (cs := sctC i t sg) rfl 28 (.tmp 6) rfl rfl (HK.out _ OZ162.out).1 agg28 i28 ?_)
        | (go_at_call 20; refine (putSct_any H.out.ht H.out.hi H.out.hs (H.out.gl.only (O10.out.trans OZ162.out) (fun _ _ => id))).mono ?_; rintro e z163 hh; obtain ⟨ho, P3, p3, rfl, hb, hc, hl⟩ := txt_ok (by have := sctT_len H.out.ht H.out.hi H.out.hs; omega) hh; have OZ163 := Lib.hid (OZ162.out.trans ho); have I3 := Lib.hid (inp_of H.out.gl (O10.out.trans OZ163.out) hb hl); have K3 := Lib.hid hc; clear hh ho hb hc hl)
        | (go_at_call 7; refine (sct_take7 H.out.ht H.out.hi H.out.hs I3.out K3.out).mono ?_; rintro e z164 ⟨ho, rfl⟩; have OZ164 := Lib.hid (OZ163.out.trans ho); clear ho)
        | (refine wpList_alloc_blk rfl 35 26 rfl rfl zero35 ?_; intro z165 hb ho hs; have OZ165 := Lib.hid (OZ164.out.trans ho); have E26 := Lib.hid hb; have ge26 := Lib.hid OZ164.out.size; clear hb ho hs; generalize z164.heap.size = g26 at E26 ge26 ⊢)
        | (refine wpList_store_blk (cs := zc35) rfl 35 (.tmp 26) (.tmp 140) rfl rfl rfl rfl E26.out rfl (info35s zc35_len) zc35_one ?_; intro z166 hb ho; have OZ166 := Lib.hid (OZ165.out.then ho (fun k hk e => by have := ge26.out; omega)); clear hb ho))
      go_upto_region 20 with (first
        | (refine wpList_load_blk (cs := headC n m r hg) rfl 35 (.tmp 7) rfl rfl (HK.out _ OZ166.out).2 agg35 i35 ?_)
        | (go_at_call 21; refine (putHead_any H.out.hn H.out.hm H.out.hr H.out.hh (H.out.gl.only (O10.out.trans OZ166.out) (fun _ _ => id))).mono ?_; rintro e z167 hh; obtain ⟨ho, P7, p7, rfl, hb, hc, hl⟩ := txt_ok (by have := headT_len H.out.hn H.out.hm H.out.hr H.out.hh; omega) hh; have OZ167 := Lib.hid (OZ166.out.trans ho); have I7 := Lib.hid (inp_of H.out.gl (O10.out.trans OZ167.out) hb hl); have K7 := Lib.hid hc; clear hh ho hb hc hl)
        | (go_at_call 5; refine (head_take5 H.out.hn H.out.hm H.out.hr H.out.hh I7.out K7.out).mono ?_; rintro e z168 ⟨ho, rfl⟩; have OZ168 := Lib.hid (OZ167.out.trans ho); clear ho)
        | (refine wpList_alloc_blk rfl 28 28 rfl rfl zero28 ?_; intro z169 hb ho hs; have OZ169 := Lib.hid (OZ168.out.trans ho); have E28 := Lib.hid hb; have ge28 := Lib.hid OZ168.out.size; clear hb ho hs; generalize z168.heap.size = g28 at E28 ge28 ⊢)
        | (refine wpList_store_blk (cs := zc28) rfl 28 (.tmp 28) (.tmp 146) rfl rfl rfl rfl E28.out rfl (info28s zc28_len) zc28_one ?_; intro z170 hb ho; have OZ170 := Lib.hid (OZ169.out.then ho (fun k hk e => by have := ge28.out; omega)); clear hb ho))
      go_upto_region 21 with (first
        | (go_at_call 22; refine (putCons_nil (H.out.gl.only (O10.out.trans OZ170.out) (fun _ _ => id))).mono ?_; rintro e z171 ⟨ho, P11, p11, rfl, hb, hc, hl⟩; have OZ171 := Lib.hid (OZ170.out.trans ho); have I11 := Lib.hid (inp_of H.out.gl (O10.out.trans OZ171.out) hb hl); have K11 := Lib.hid hc; clear ho hb hc hl)
        | (go_at_call 12; refine (cons_take12 I11.out K11.out).mono ?_; rintro e z172 ⟨ho, P12, p12, rfl, _⟩; have OZ172 := Lib.hid (OZ171.out.trans ho); clear ho))
      go_upto_region 22 with (first
        | (go_at_call 23; refine (putPrf_nil H.out.hix (H.out.gl.only (O10.out.trans OZ172.out) (fun _ _ => id))).mono ?_; rintro e z173 ⟨ho, P13, p13, rfl, hb, hc, hl⟩; have OZ173 := Lib.hid (OZ172.out.trans ho); have I13 := Lib.hid (inp_of H.out.gl (O10.out.trans OZ173.out) hb hl); have K13 := Lib.hid hc; clear ho hb hc hl)
        | (go_at_call 9; refine (prf_take9 H.out.hix I13.out K13.out).mono ?_; rintro e z174 ⟨ho, P14, p14, rfl, _⟩; have OZ174 := Lib.hid (OZ173.out.trans ho); clear ho))
      go_wp2_with (go_at_call 19; refine (wakes_any (H.out.gl.only (O10.out.trans OZ174.out) (fun _ _ => id))).mono ?_; rintro e z175 ⟨ho, rfl⟩; have OZ175 := Lib.hid (OZ174.out.trans ho); clear ho)
      go_ret
      exact ⟨O10.out.trans OZ175.out, rfl⟩
end Go.Proofs.YtjehnejgojgahaaGreatDoor
