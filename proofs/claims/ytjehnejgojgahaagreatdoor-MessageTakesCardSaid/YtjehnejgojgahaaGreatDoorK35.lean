/-
  A part of the proof of MessageTakes: the texts Q7 Q8.
-/
import Derived.Test.YtjehnejgojgahaaGreatDoorK32
import Derived.Test.YtjehnejgojgahaaGreatDoorK33
import Derived.Test.YtjehnejgojgahaaGreatDoorK34
import Derived.Lib.SlBytesConst
namespace Go.Proofs.YtjehnejgojgahaaGreatDoor
open Go.RowKit
set_option linter.unusedVariables false
set_option linter.unusedSimpArgs false
def LitOut (n : Nat) (t : ByteArray) (w : World) (e : Ending) (w' : World) : Prop :=
 Only (fun _ => False) w w' ∧ ∃ A c, e = .returned (.slice A n c) ∧ (convert 22 9 (.slice A n c)).run Tryz.prog w' = .ok (.string t) w'
theorem lit_out {n : Nat} {t l : Bytes} {w w' : World} {e : Ending} (ht : t = l) (hn : l.length = n) (hl : n ≤ 1048576) (h : TxtPut t w e w') : LitOut n ⟨l.toArray⟩ w e w' := by
 subst ht hn
 obtain ⟨ho, A, c, rfl, hb, _, _⟩ := txt_ok hl h
 exact ⟨ho, A, c, rfl, text_run rfl hb⟩
theorem rowAt_nil {α : Type} {E : (Nat → Prop) → World → α → List Value → Prop} {size : Nat} {Y : Nat → Prop} {w : World} {A : Option Addr} : RowAt E size Y w A [] := fun i a ha => by simp at ha
theorem RowAt.keep {α : Type} {E : (Nat → Prop) → World → α → List Value → Prop} {size : Nat} (hE : EncOK size E) {Y : Nat → Prop} {w w' : World} {A : Option Addr} {l : List α} (h : RowAt E size Y w A l) (ho : Only (fun _ => False) w w') : RowAt E size Y w' A l := by
 intro i a ha
 obtain ⟨b, o, cs, e, hr, hl, hc⟩ := h i a ha
 exact ⟨b, o, cs, e, rangeAt.keep hr ho, hl, hE.only hc ho (fun b _ hy => ⟨id, hy⟩)⟩
theorem put_err32 {w : World} (hG : Gl w) : Calls Tryz.prog 25 #[.int .i64 32] w (LitOut 12 ⟨#[123, 34, 101, 114, 114, 111, 114, 34, 58, 51, 50, 125]⟩ w) :=
 (putErr_any (n := 32) (by decide) hG (by have := errT_len (n := 32) (by decide); omega)).mono (fun e w' h => lit_out (l := [123, 34, 101, 114, 114, 111, 114, 34, 58, 51, 50, 125]) (by decide +kernel) rfl (by decide) h)
theorem put_prf5 {w : World} (hG : Gl w) : Calls Tryz.prog 23 #[.int .u64 5, .slice none 0 0] w (LitOut 32 ⟨#[123, 34, 108, 101, 97, 102, 95, 105, 110, 100, 101, 120, 34, 58, 53, 44, 34, 97, 117, 100, 105, 116, 95, 112, 97, 116, 104, 34, 58, 91, 93, 125]⟩ w) :=
 (putPrf_any (n := 5) (l := []) (A := none) (c := 0) (Y := fun _ => True) rowAt_nil (by simp) (by decide) hG (by have := prfT_len (n := 5) (l := []) (by decide) (by simp) (by simp); omega)).mono (fun e w' h => lit_out (l := [123, 34, 108, 101, 97, 102, 95, 105, 110, 100, 101, 120, 34, 58, 53, 44, 34, 97, 117, 100, 105, 116, 95, 112, 97, 116, 104, 34, 58, 91, 93, 125]) (by decide +kernel) rfl (by decide) h)
theorem chT1 : chT [[102]] = [123, 34, 99, 104, 97, 105, 110, 34, 58, 91, 34, 90, 103, 61, 61, 34, 93, 125] := by decide +kernel
theorem ask_chain1 {Y : Nat → Prop} {A : Option Addr} {c : Nat} {w : World} (hR : RowAt EB 1 Y w A [[102]]) (hG : Gl w) : Calls Tryz.prog 51 #[.slice A 1 c] w (LitOut 18 ⟨#[123, 34, 99, 104, 97, 105, 110, 34, 58, 91, 34, 90, 103, 61, 61, 34, 93, 125]⟩ w) :=
 (askChain_any (l := [[102]]) hR (by simp) (by simp) hG (by rw [chT1]; simp)).mono (fun e w' h => lit_out (l := [123, 34, 99, 104, 97, 105, 110, 34, 58, 91, 34, 90, 103, 61, 61, 34, 93, 125]) chT1 rfl (by decide) h)
theorem bytes_const (w : World) (l : Bytes) (k : Nat × Nat) (cs : Array Value) (h : cs = (u8s l).toArray) : BytesAt (w.alloc (.cells cs 5 k)) (some ⟨w.heap.size, 0, none⟩) l := by
 subst h
 intro i x hx
 refine ⟨w.heap.size, 0, rfl, ?_⟩
 rw [Nat.zero_add, World.cell?_alloc_mark, List.getElem?_toArray]
 unfold u8s
 rw [List.getElem?_map, hx]
 rfl
theorem read_ch {w : World} (hG : Gl w) : Calls Tryz.prog 49 #[.slice (some ⟨w.heap.size, 0, none⟩) 18 18] (w.alloc (.cells #[.int .u8 123, .int .u8 34, .int .u8 99, .int .u8 104, .int .u8 97, .int .u8 105, .int .u8 110, .int .u8 34, .int .u8 58, .int .u8 91, .int .u8 34, .int .u8 90, .int .u8 103, .int .u8 61, .int .u8 61, .int .u8 34, .int .u8 93, .int .u8 125] 5 (18, 18 + 1))) (RowOut EB 1 0 [[102]] (w.alloc (.cells #[.int .u8 123, .int .u8 34, .int .u8 99, .int .u8 104, .int .u8 97, .int .u8 105, .int .u8 110, .int .u8 34, .int .u8 58, .int .u8 91, .int .u8 34, .int .u8 90, .int .u8 103, .int .u8 61, .int .u8 61, .int .u8 34, .int .u8 93, .int .u8 125] 5 (18, 18 + 1)))) := by
 have h := ch_take (l := [[102]]) (c := 18) (A := some ⟨w.heap.size, 0, none⟩) (w := w.alloc (.cells #[.int .u8 123, .int .u8 34, .int .u8 99, .int .u8 104, .int .u8 97, .int .u8 105, .int .u8 110, .int .u8 34, .int .u8 58, .int .u8 91, .int .u8 34, .int .u8 90, .int .u8 103, .int .u8 61, .int .u8 61, .int .u8 34, .int .u8 93, .int .u8 125] 5 (18, 18 + 1))) (by simp) (by rw [chT1]; decide)
  ⟨by rw [chT1]; exact bytes_const w _ _ _ rfl, fun b o e => by cases e; simp, hG.alloc _⟩ (by rw [chT1]; decide)
 rw [chT1] at h
 exact h
theorem read_two {w : World} (hG : Gl w) : Calls Tryz.prog 49 #[.slice (some ⟨w.heap.size, 0, none⟩) 2 2] (w.alloc (.cells #[.int .u8 91, .int .u8 93] 5 (2, 2 + 1))) (RowOut EB 1 43 [] (w.alloc (.cells #[.int .u8 91, .int .u8 93] 5 (2, 2 + 1)))) :=
 two_read (c := 2) ⟨bytes_const w [91, 93] _ _ rfl, fun b o e => by cases e; simp, hG.alloc _⟩ (by decide)
set_option maxRecDepth 100000 in
set_option maxHeartbeats 6400000 in
theorem wakes_any {w : World} (hG : Gl w) : Calls Tryz.prog 19 #[] w (BoolAt true w) := by
 have HG := Lib.hid hG
 clear hG
 go_enter Tryz.func19, Tryz.ntmps19
 go_upto_region 2 with (go_at_call 48; refine (readE_1 HG.out).mono ?_; rintro e w1 ⟨ho1, rfl⟩; have HO1 := Lib.hid ho1; clear ho1)
 go_upto_region 3 with (go_at_call 48; refine (readE_2 (HG.out.only HO1.out (fun _ _ => id))).mono ?_; rintro e w2 ⟨ho2, rfl⟩; have HO2 := Lib.hid (HO1.out.trans ho2); clear ho2)
 have hcv := Lib.run_convert_bytes_const (P := Tryz.prog) w2 22 5 #[.int .u8 123, .int .u8 34, .int .u8 99, .int .u8 104, .int .u8 97, .int .u8 105, .int .u8 110, .int .u8 34, .int .u8 58, .int .u8 91, .int .u8 34, .int .u8 90, .int .u8 103, .int .u8 61, .int .u8 61, .int .u8 34, .int .u8 93, .int .u8 125] 18 18 under22 under5
 go_upto_region 4 with (go_at_call 49; refine (read_ch (HG.out.only HO2.out (fun _ _ => id))).mono ?_; rintro e w3 ⟨ho3, A3, c3, rfl, hr3⟩; have HO3 := Lib.hid ((HO2.out.alloc _).trans ho3); have HR3 := Lib.hid hr3; clear ho3 hr3 hcv)
 have hcv := Lib.run_convert_bytes_const (P := Tryz.prog) w3 22 5 #[.int .u8 91, .int .u8 93] 2 2 under22 under5
 go_upto_region 5 with (go_at_call 49; refine (read_two (HG.out.only HO3.out (fun _ _ => id))).mono ?_; rintro e w4 ⟨ho4, A4, c4, rfl, _⟩; have HO34 := Lib.hid (((Only.refl (fun _ => False) w3).alloc _).trans ho4); have HO4 := Lib.hid ((HO3.out.alloc _).trans ho4); clear ho4 hcv)
 obtain ⟨b3, o3, cs, rfl, hrg, _, A5, c5, rfl, hb5, hc5, _⟩ := HR3.out 0 [102] rfl
 have HC := Lib.hid (fun w' (h : Only (fun _ => False) w3 w') => (show w'.cell? ⟨b3, o3, none⟩ = some (.slice A5 1 c5) ∧ (convert 22 9 (.slice A5 1 c5)).run Tryz.prog w' = .ok (.string ⟨#[102]⟩) w' from
  ⟨by have := rangeAt.keep hrg h 0 _ rfl; simpa using this, text_run (l := [102]) rfl (hb5.only0 h (fun _ _ _ _ => id))⟩))
 clear hrg hb5 hc5
 go_wp2_with (first
  | (go_at_call 25; refine (put_err32 (HG.out.only HO4.out (fun _ _ => id))).mono ?_; rintro e w5 ⟨ho5, A6, c6, rfl, ht5⟩; have HO5 := Lib.hid (HO4.out.trans ho5); have HO35 := Lib.hid (HO34.out.trans ho5); clear ho5)
  | (go_at_call 23; refine (put_prf5 (HG.out.only HO5.out (fun _ _ => id))).mono ?_; rintro e w6 ⟨ho6, A7, c7, rfl, ht6⟩; have HO6 := Lib.hid (HO5.out.trans ho6); have HO36 := Lib.hid (HO35.out.trans ho6); have hc0 := (HC.out w6 HO36.out).1; have hc1 := (HC.out w6 HO36.out).2; have HR6 := Lib.hid (RowAt.keep encB HR3.out HO36.out); clear ho6)
  | (go_at_call 50; refine (askEntries _).mono ?_; rintro e w7 ⟨rfl, rfl⟩)
  | (go_at_call 51; refine (ask_chain1 HR6.out (HG.out.only HO6.out (fun _ _ => id))).mono ?_; rintro e w8 ⟨ho8, A8, c8, rfl, ht8⟩; have HO8 := Lib.hid (HO6.out.trans ho8); clear ho8))
 go_ret
 exact ⟨HO8.out, rfl⟩
theorem oper_neq {o : Oper} {a : Act} {w : World} {K : Act → World → Prop} {Q : Exit → Act → World → Prop} (T : TypeId) (x y : Operand) (r : TypeId) (ho : o.op = .binOp .neq T x y r) {cs : List Value} (hx : a.eval x = .agg cs.toArray) (hy : a.eval y = .agg cs.toArray)
  (hm : Tryz.prog.eqGuardType Tryz.prog.depth T = false) (hn : ∀ w, (binOp .neq T (.agg cs.toArray) (.agg cs.toArray)).run Tryz.prog w = .ok (.bool false) w) (h : K (a.put o.dst (.bool false)) w) : Oper.wp Tryz.prog o a w K Q := by
 unfold Oper.wp
 have hrun : (execOp a.eval o).run Tryz.prog w = .ok (.value (.bool false)) w := by
  unfold execOp
  simp only [ho, hx, hy, Sem.run_bind, Sem.run_pure, Result.andThen_ok, run_eqGuard_agg _ _ _ _ _ _ _ hm, hn]
 rw [hrun, Oper.upon_value]
 exact h
theorem eg28 : Tryz.prog.eqGuardType Tryz.prog.depth 28 = false := by kernel_rfl
theorem eg35 : Tryz.prog.eqGuardType Tryz.prog.depth 35 = false := by kernel_rfl
end Go.Proofs.YtjehnejgojgahaaGreatDoor
