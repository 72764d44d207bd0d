/-
  MessageBack, for every input whose reading is of bulk at most 1048576: each answer goes as a text and is taken as it was; no text is two answers. Conditions: the bound on the bulk; the listed package variables as the program lays them (the card ties them).
-/
import Derived.Test.YtjehnejgojgahaaGreatDoorU23
import Derived.Test.YtjehnejgojgahaaGreatDoorU25
import Derived.Test.YtjehnejgojgahaaGreatDoorU26
import Derived.Test.YtjehnejgojgahaaGreatDoorCards
import Derived.Test.YtjehnejgojgahaaGreatDoorTie
import Derived.WalkKit
import Derived.ProofKit
import Derived.OpenShut
import Derived.SevenTiedAt
import Derived.WideKeyArgs
import Derived.Deep.DeepHandedRow
import Derived.Deep.DeepWitnessRowRef
import Derived.Lib.LaidIn

/- C3 -/
namespace Go.Proofs.YtjehnejgojgahaaGreatDoor
open Go.ChangeShapes Go.WideShapes Go.ChangeAt Go.RowKit Go.Lib
set_option linter.unusedVariables false
set_option linter.unusedSimpArgs false

theorem own4 : ownKnob Tryz.prog.godebug = none := by kernel_rfl
theorem laidOutT : laidOutB Tryz.prog = true := by kernel_rfl
theorem agg_of {P : Program} {W : World} {base : Nat} {t : TypeId} {v : Value} {fs : Array Field} (hu : P.underlying t = some (.struct fs)) (h : Value.okWide P W .any base t v) : ∃ cs, v = .agg cs := by
  unfold Value.okWide at h
  rw [hu] at h
  obtain ⟨cs, rfl, _⟩ := h
  exact ⟨cs, rfl⟩
theorem Only.sameAt {w w' : World} (h : Only (fun _ => False) w w') {p : MemPlace} (hp : p.block < w.heap.size) : w.sameAt w' p := by
  cases p with
  | cell b o =>
    have hb : w'.heap[b]? = w.heap[b]? := h.block b hp id
    show w'.cell? ⟨b, o, none⟩ = w.cell? ⟨b, o, none⟩
    unfold World.cell?
    rw [hb]
  | map b => exact h.block b hp id
theorem bool_res {H : Type} {enc : TypeId × Value → H} {W' : World} {B : Nat} {sp : Nat → Bool} {hd : Bool} : DataW.TrodAll enc Tryz.prog W' B sp hd [4] [.bool true] [.lit (.bool true)] [] :=
  trodAll_cons_mk (shut_bool Tryz.underlying4 true) trodAll_mk0
theorem stay {H : Type} {enc : TypeId × Value → H} {W W' : World} {t : TypeId} {v : Value} {d : DataW H} {ps : List MemPlace} (hr : Tryz.prog.readableRec t = true) (ht : t < Tryz.prog.types.size) (ho : Only (fun _ => False) W W')
    (h : DataW.Trod enc Tryz.prog W 0 (fun _ => true) true t v d ps) (hlt : ∀ p ∈ ps, p.block < W.heap.size) : DataW.Trod enc Tryz.prog W' 0 (fun b => decide (b < W.heap.size)) true t v d ps :=
  WideElems.Trod_stays laidOutT hr ht h (fun p hp => ho.sameAt (hlt p hp)) (fun p hp => by simpa using hlt p hp)
set_option maxRecDepth 100000 in
theorem contract (H : Type) (enc : TypeId × Value → H) (W : World) (base : Nat) (args : Array Value) (ds gs : List (DataW H)) (before : List MemPlace)
    (hval : ∀ (j : Nat) t v, Tryz.f4.params[j]? = some t → args[j]? = some v → Value.okWide Tryz.prog W .any base t v)
    (hW : DataW.Whole enc Tryz.prog Tryz.f4.params.toList Rows.messageBackSpec.vars false W args.toList ds gs before) (hb : Rows.uptoSmall H (ds ++ gs) = true) (hL : laidMetH Tryz.prog Rows.messageBackUptoRow.laid W) (hsh : W.ShapedOpen Tryz.prog) (hsz : 8 ≤ W.heap.size) :
    Calls Tryz.prog 4 args W fun e W' => ∃ v, e = .returned v ∧ Rows.messageBackSpec.post enc Tryz.prog Tryz.f4 false true false false W args v W' := by
  have hW' := hW
  have hlt := hW.lt
  obtain ⟨p, q, hA0, hV, rfl, hfz, hnd⟩ := hW
  have hA : DataW.TrodAll enc Tryz.prog W 0 (fun _ => true) true Tryz.f4.params.toList args.toList ds p := hA0
  rw [Tryz.params4] at hA hval
  obtain ⟨v0, vs, d0, es, p0, q0, ha, rfl, rfl, h0, r0⟩ := trodAll_cons hA
  obtain ⟨v1, vs, d1, es, p1, q1, rfl, rfl, rfl, h1, r1⟩ := trodAll_cons r0
  obtain ⟨v2, vs, d2, es, p2, q2, rfl, rfl, rfl, h2, r2⟩ := trodAll_cons r1
  obtain ⟨v3, vs, d3, es, p3, q3, rfl, rfl, rfl, h3, r3⟩ := trodAll_cons r2
  obtain ⟨v4, vs, d4, es, p4, q4, rfl, rfl, rfl, h4, r4⟩ := trodAll_cons r3
  obtain ⟨v5, vs, d5, es, p5, q5, rfl, rfl, rfl, h5, r5⟩ := trodAll_cons r4
  obtain ⟨rfl, rfl, rfl⟩ := trodAll_nil r5
  obtain rfl : args = #[v0, v1, v2, v3, v4, v5] := by apply Array.toList_inj.1; exact ha
  obtain ⟨rfl, rfl⟩ := trodVars_none hV
  simp only [List.append_nil] at hW' hb hlt
  have hbulk : Rows.uptoBulkAll [d0, d1, d2, d3, d4, d5] ≤ 1048576 := of_decide_eq_true hb
  simp only [Rows.uptoBulkAll] at hbulk
  obtain ⟨cs0, rfl⟩ := agg_of Tryz.underlying28 (hval 0 28 v0 rfl rfl)
  obtain ⟨cs1, rfl⟩ := agg_of Tryz.underlying35 (hval 1 35 v1 rfl rfl)
  obtain ⟨a2, n2, k2, rfl⟩ := okWide_slice u40 (hval 2 40 v2 rfl rfl)
  obtain ⟨a4, n4, k4, rfl⟩ := okWide_slice u50 (hval 4 50 v4 rfl rfl)
  obtain ⟨x3, rfl, rfl, _, w3⟩ := open_int Tryz.underlying25 (hval 3 25 v3 rfl rfl) h3
  obtain ⟨x5, rfl, rfl, _, w5⟩ := open_int Tryz.underlying62 (hval 5 62 v5 rfl rfl) h5
  obtain ⟨ix, rfl, hix⟩ := wf_u64 w3
  obtain ⟨en, rfl, hen⟩ := wf_u16 w5
  obtain ⟨f0, t0⟩ := id h0
  obtain ⟨f1, t1⟩ := id h1
  obtain ⟨f2, t2⟩ := id h2
  obtain ⟨f4', t4⟩ := id h4
  obtain ⟨i, sg, t, hi, hs, ht, e0⟩ := sct_of_lits (keyLits_of_trod 3 28 (by kernel_rfl) _ _ _ t0).1
  obtain ⟨r, hg, n, m, hr, hh, hn, hm, e1⟩ := head_of_lits (keyLits_of_trod 3 35 (by kernel_rfl) _ _ _ t1).1
  have e0' : cs0 = (sctC i t sg).toArray := by rw [← e0]; simp [Value.cells]
  have e1' : cs1 = (headC n m r hg).toArray := by rw [← e1]; simp [Value.cells]
  obtain ⟨A, c, l, e2, hrl, h32, hbl⟩ := read_digests t2
  obtain ⟨B, d, es, e4, hre, hbs, hbe⟩ := read_items t4
  have e2' : Value.slice a2 n2 k2 = .slice A l.length c := by simpa [Value.cells] using e2
  have e4' : Value.slice a4 n4 k4 = .slice B es.length d := by simpa [Value.cells] using e4
  simp only at hbl hbs hbe
  have hin : BackIn W i sg r hg t n m A B l es ix en := by
    refine ⟨gl_of hL hsh hsz, hi, hs, hr, hh, ht, hn, hm, hrl, by omega, h32, hre, by omega, fun x hx => ?_, ?_, hix, hen⟩
    · have hsm := size_mem hx
      have e : sizeI x = x.1.length + x.2.length := rfl
      constructor <;> omega
    · have := entT_len es
      omega
  rw [e0', e1', e2', e4'] at hW' ⊢
  rw [e0'] at h0
  rw [e1'] at h1
  rw [e2'] at h2
  rw [e4'] at h4
  refine (back_any (c := c) (d := d) hin).mono ?_
  rintro e W' ⟨ho, rfl⟩
  have hl0 : ∀ x ∈ p0, x.block < W.heap.size := fun x hx => hlt x (by simp [hx])
  have hl1 : ∀ x ∈ p1, x.block < W.heap.size := fun x hx => hlt x (by simp [hx])
  have hl2 : ∀ x ∈ p2, x.block < W.heap.size := fun x hx => hlt x (by simp [hx])
  have hl3 : ∀ x ∈ p3, x.block < W.heap.size := fun x hx => hlt x (by simp [hx])
  have hl4 : ∀ x ∈ p4, x.block < W.heap.size := fun x hx => hlt x (by simp [hx])
  have hl5 : ∀ x ∈ p5, x.block < W.heap.size := fun x hx => hlt x (by simp [hx])
  refine ⟨_, rfl, _, _, _, [], p0 ++ (p1 ++ (p2 ++ (p3 ++ (p4 ++ (p5 ++ []))))), [], hW', bool_res, ?_, rfl, ho.toBelow.frame _, fun h => by cases h⟩
  show DataW.TrodAll enc Tryz.prog W' 0 (fun b => decide (b < W.heap.size)) true Tryz.f4.params.toList _ _ _
  rw [Tryz.params4]
  exact trodAll_cons_mk (stay (by kernel_rfl) (of_decide_eq_true (by kernel_rfl)) ho h0 hl0) (trodAll_cons_mk (stay (by kernel_rfl) (of_decide_eq_true (by kernel_rfl)) ho h1 hl1) (trodAll_cons_mk (stay (by kernel_rfl) (of_decide_eq_true (by kernel_rfl)) ho h2 hl2)
    (trodAll_cons_mk (stay (by kernel_rfl) (of_decide_eq_true (by kernel_rfl)) ho h3 hl3) (trodAll_cons_mk (stay (by kernel_rfl) (of_decide_eq_true (by kernel_rfl)) ho h4 hl4) (trodAll_cons_mk (stay (by kernel_rfl) (of_decide_eq_true (by kernel_rfl)) ho h5 hl5) trodAll_mk0)))))
end Go.Proofs.YtjehnejgojgahaaGreatDoor

/- C4 -/
namespace Go.Proofs.YtjehnejgojgahaaGreatDoor
open Go.ChangeShapes Go.WideShapes Go.ChangeAt Go.RowKit Go.Lib
set_option linter.unusedVariables false
set_option linter.unusedSimpArgs false

theorem size_of {W : World} (hL : laidMetH Tryz.prog Rows.messageBackUptoRow.laid W) : 8 ≤ W.heap.size := by
  obtain ⟨g, t, cs, fuel, p, hg, ht, hvar, hd⟩ := laidMet.reads hL (.tail _ (.head _))
  have h7 : Tryz.prog.globalNamed "math/bits.deBruijn64tab" = some 7 := by kernel_rfl
  obtain rfl := Option.some.inj (h7.symm.trans hg)
  unfold World.var? at hvar
  rw [hg] at hvar
  cases hh : W.heap[7]? with
  | none => simp [hh] at hvar
  | some o =>
    have := (Array.getElem?_eq_some_iff.1 hh).1
    omega
def w8 (k : Nat) : List Value := List.replicate k (.int .u8 0)
noncomputable def laidWorld (os : Os) : World :=
  let N := (World.settled Tryz.prog os).heap.size
  let w0 := World.holding Tryz.prog os ⟨#[.cells #[.string ⟨#[105, 110, 118, 97, 108, 105, 100, 32, 115, 121, 110, 116, 97, 120]⟩] 270, .cells #[.string ⟨#[118, 97, 108, 117, 101, 32, 111, 117, 116, 32, 111, 102, 32, 114, 97, 110, 103, 101]⟩] 270], #[], []⟩
  let put (h : Array Obj) (g : Nat) (cs : Array Value) : Array Obj := h.modify g fun
    | .cells _ t frozen => .cells cs t frozen
    | o => o
  let h1 := put w0.heap 0 (Lib.firstTab.map fun z => Value.int .u8 z).toArray
  let h2 := put h1 1 ((List.range 16).flatMap fun i => [Value.int .u8 (Lib.accLo i), Value.int .u8 (Lib.accHi i)]).toArray
  let h3 := put h2 3 (Lib.pow10Tab.map fun z => Value.int .u64 z).toArray
  let h4 := put h3 4 #[.iface 268 (.pointer (some ⟨N, 0, none⟩))]
  let h5 := put h4 5 #[.iface 268 (.pointer (some ⟨N + 1, 0, none⟩))]
  let h6 := put h5 6 #[.int .u8 0, .int .u8 1, .int .u8 28, .int .u8 2, .int .u8 29, .int .u8 14, .int .u8 24, .int .u8 3, .int .u8 30, .int .u8 22, .int .u8 20, .int .u8 15, .int .u8 25, .int .u8 17, .int .u8 4, .int .u8 8, .int .u8 31, .int .u8 27, .int .u8 13, .int .u8 23, .int .u8 21, .int .u8 19, .int .u8 16, .int .u8 7, .int .u8 26, .int .u8 12, .int .u8 18, .int .u8 6, .int .u8 11, .int .u8 5, .int .u8 10, .int .u8 9]
  let h7 := put h6 7 #[.int .u8 0, .int .u8 1, .int .u8 56, .int .u8 2, .int .u8 57, .int .u8 49, .int .u8 28, .int .u8 3, .int .u8 61, .int .u8 58, .int .u8 42, .int .u8 50, .int .u8 38, .int .u8 29, .int .u8 17, .int .u8 4, .int .u8 62, .int .u8 47, .int .u8 59, .int .u8 36, .int .u8 45, .int .u8 43, .int .u8 51, .int .u8 22, .int .u8 53, .int .u8 39, .int .u8 33, .int .u8 30, .int .u8 24, .int .u8 18, .int .u8 12, .int .u8 5, .int .u8 63, .int .u8 55, .int .u8 48, .int .u8 27, .int .u8 60, .int .u8 41, .int .u8 37, .int .u8 16, .int .u8 46, .int .u8 35, .int .u8 44, .int .u8 21, .int .u8 52, .int .u8 32, .int .u8 23, .int .u8 11, .int .u8 54, .int .u8 26, .int .u8 40, .int .u8 15, .int .u8 34, .int .u8 20, .int .u8 31, .int .u8 10, .int .u8 25, .int .u8 14, .int .u8 19, .int .u8 9, .int .u8 13, .int .u8 8, .int .u8 7, .int .u8 6]
  { w0 with heap := h7 }
def wArgs : Array Value := #[.agg zc28.toArray, .agg zc35.toArray, .slice none 0 0, .int .u64 0, .slice none 0 0, .int .u16 0]
noncomputable abbrev wMem (os : Os) : World := ((laidWorld os).forCall (fun _ _ => 0) ⟨#[], wArgs, []⟩).memory
noncomputable abbrev N0 : Nat := (World.settled Tryz.prog default).heap.size
theorem laid_a (os : Os) : LaidIn Tryz.prog (wMem os) [("math/bits.deBruijn32tab", Rows.laid_math_bits_deBruijn32tab), ("math/bits.deBruijn64tab", Rows.laid_math_bits_deBruijn64tab), ("internal/strconv.uint64pow10", Rows.laid_internal_strconv_uint64pow10), ("unicode/utf8.acceptRanges", Rows.laid_unicode_utf8_acceptRanges)] [6, 7, 3, 1] :=
  LaidIn.of_run [6, 7, 3, 1] 8 (by kernel_rfl) (by kernel_rfl) (by kernel_rfl) (by kernel_rfl)

theorem laid_b (os : Os) : LaidIn Tryz.prog (wMem os) [("strconv.ErrRange", Rows.laid_strconv_ErrRange)] [5, N0 + 1] :=
  LaidIn.of_run [5, N0 + 1] 8 (by kernel_rfl) (by kernel_rfl) (by kernel_rfl) (by kernel_rfl)
theorem laid_c (os : Os) : LaidIn Tryz.prog (wMem os) [("strconv.ErrSyntax", Rows.laid_strconv_ErrSyntax)] [4, N0] :=
  LaidIn.of_run [4, N0] 8 (by kernel_rfl) (by kernel_rfl) (by kernel_rfl) (by kernel_rfl)
theorem laid_d (os : Os) : LaidIn Tryz.prog (wMem os) [("unicode/utf8.first", Rows.laid_unicode_utf8_first)] [0] :=
  LaidIn.of_run [0] 8 (by kernel_rfl) (by kernel_rfl) (by kernel_rfl) (by kernel_rfl)
theorem laid_met (os : Os) : laidMet Tryz.prog Rows.messageBackUptoRow.laid (wMem os) :=
  ((((laid_a os).append (laid_b os) (by kernel_rfl)).append (laid_c os) (by kernel_rfl)).append (laid_d os) (by kernel_rfl)).met
def z8 {H : Type} (n : Nat) : DataW H := .agg (List.replicate n (.lit (.int .u8 0)))
theorem reads (os : Os) {H : Type} (enc : TypeId × Value → H) : ∃ places, DataW.whole enc Tryz.prog (wMem os) Tryz.f4.params.toList Rows.messageBackSpec.vars false wArgs.toList 8 =
    some ([.agg [z8 32, .lit (.int .u64 0), z8 64], .agg [.lit (.int .u64 0), .lit (.int .u64 0), z8 32, z8 64], .nil, .lit (.int .u64 0), .nil, .lit (.int .u16 0)], [], places) :=
  ⟨[], by kernel_rfl⟩
set_option maxRecDepth 100000 in
theorem lifted (os : Os) (started : os.Started) (H : Type) (enc : TypeId × Value → H) (F : Stop.Interp) :
    ReturnsInHanded {} Tryz.checked os 4 .any ((Rows.OpenSpec.upto Rows.messageBackSpec).preRow enc Tryz.prog Tryz.f4 Rows.messageBackUptoRow.domain false Rows.messageBackUptoRow.laid) (((Rows.OpenSpec.upto Rows.messageBackSpec).at F).post enc Tryz.prog Tryz.f4 false true false false) := by
  obtain ⟨places, hx⟩ := reads os enc
  refine returnsInHanded_of_row (C := Tryz.checked) (s := Rows.OpenSpec.upto Rows.messageBackSpec) own4 started (by kernel_rfl) Tryz.func4
    (witness_row_atRef (enc := enc) (C := Tryz.checked) false (laidWorld os) wArgs rfl (by kernel_rfl) (by kernel_rfl) (by kernel_rfl)
      (OpenSpec.preRow_of_cond 8 hx (by kernel_rfl) (fun k hk => by cases hk; kernel_rfl) (by kernel_rfl) (laid_met os))) ?_
  intro W base args ds gs before hval hW _ hcond _ hL hsh _
  exact contract H enc W base args ds gs before hval hW (hcond _ rfl) hL hsh (size_of hL)
theorem saidUpto : Rows.MessageBackUptoSaid :=
  OpenClaim.holds_of_cond 4 Tryz.f4 rfl rfl rfl rfl rfl rfl rfl ⟨rfl, rfl, rfl, rfl, rfl⟩ rfl rfl rfl rfl rfl (by kernel_rfl) Tryz.func4 (by kernel_rfl)
    (of_decide_eq_true (by kernel_rfl)) (by unfold Func.isWrapper; first | (rw [if_pos (by decide +kernel)]; kernel_rfl) | (rw [if_neg (by decide +kernel)]; exact ⟨rfl, rfl⟩))
    (fun os started H enc _ F => by rw [OpenClaim.pre_eq_preRow]; exact lifted os started H enc F)
theorem plainF (f : FuncId) (fn : Func) (hf : Tryz.pinned.checked.prog.funcNamed "escritoire/escritoirelaw26.MessageBack" = some f) (hfn : Tryz.pinned.checked.prog.funcs[f]? = some fn) :
    true = Tryz.pinned.checked.prog.looks [] ∧ ∀ (j : Nat) t, fn.params[j]? = some t → Tryz.pinned.checked.prog.wantsStandIn t = false := by
  obtain rfl : f = 4 := Option.some.inj ((show Tryz.prog.funcNamed "escritoire/escritoirelaw26.MessageBack" = some 4 by kernel_rfl).symm.trans hf) |>.symm
  obtain rfl : fn = Tryz.f4 := (Option.some.inj (Tryz.func4.symm.trans hfn)).symm
  refine ⟨by kernel_rfl, fun j t ht => ?_⟩
  rw [Tryz.params4] at ht
  have hm : t ∈ (#[28, 35, 40, 25, 50, 62] : Array TypeId) := Array.mem_of_getElem? ht
  have hall : ∀ t ∈ (#[28, 35, 40, 25, 50, 62] : Array TypeId).toList, Tryz.prog.wantsStandIn t = false := by
    intro t ht
    simp only [List.mem_cons, List.not_mem_nil, or_false] at ht
    rcases ht with rfl | rfl | rfl | rfl | rfl | rfl <;> kernel_rfl
  exact hall t (by simpa using hm)
/-- The second form's card of MessageBack. -/
theorem message_back_upto : Rows.MessageBackUptoCardSaid :=
  Claim7.holds_tied_plain_at .later [] _ _ _ _ saidUpto (fun _ h => by cases h) (by kernel_rfl) (fun _ h => by cases h) messageBackUpto_row_tie rfl ⟨rfl, rfl⟩ (by kernel_rfl) rfl plainF (by kernel_rfl)
end Go.Proofs.YtjehnejgojgahaaGreatDoor
