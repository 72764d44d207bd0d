/-
  MessageTakes, for every input: what any bytes are as each of the answers is what the document holds them to be; the bytes stay. Condition: the listed package variables as the program lays them (the card ties them).
-/
import Derived.Test.YtjehnejgojgahaaGreatDoorK36
import Derived.Test.YtjehnejgojgahaaGreatDoorK38
import Derived.Test.YtjehnejgojgahaaGreatDoorK39
import Derived.Test.YtjehnejgojgahaaGreatDoorCards
import Derived.Test.YtjehnejgojgahaaGreatDoorTie
import Derived.WalkKit
import Derived.ProofKit
import Derived.OpenShut
import Derived.SevenTiedAt
import Derived.WideKeyArgs
import Derived.Deep.DeepHandedRow
import Derived.Deep.DeepWitnessRowRef
import Derived.Lib.LaidIn
import Derived.SizedLaws
namespace Go.Proofs.YtjehnejgojgahaaGreatDoor
set_option linter.unusedVariables false
set_option linter.unusedSimpArgs false
open Go.ChangeShapes Go.WideShapes Go.ChangeAt Go.RowKit Go.Lib
theorem own4 : ownKnob Tryz.prog.godebug = none := by kernel_rfl
theorem laidOutT : laidOutB Tryz.prog = true := by kernel_rfl
theorem Only.sameAt {w w' : World} (h : Only (fun _ => False) w w') {p : MemPlace} (hp : p.block < w.heap.size) : w.sameAt w' p := by
 cases p with
 | cell b o =>
  have hb : w'.heap[b]? = w.heap[b]? := h.block b hp id
  show w'.cell? ⟨b, o, none⟩ = w.cell? ⟨b, o, none⟩
  unfold World.cell?
  rw [hb]
 | map b => exact h.block b hp id
theorem bool_res {H : Type} {enc : TypeId × Value → H} {W' : World} {B : Nat} {sp : Nat → Bool} {hd : Bool} : DataW.TrodAll enc Tryz.prog W' B sp hd [4] [.bool true] [.lit (.bool true)] [] :=
 trodAll_cons_mk (shut_bool Tryz.underlying4 true) trodAll_mk0
theorem stay {H : Type} {enc : TypeId × Value → H} {W W' : World} {t : TypeId} {v : Value} {d : DataW H} {ps : List MemPlace} (hr : Tryz.prog.readableRec t = true) (ht : t < Tryz.prog.types.size) (ho : Only (fun _ => False) W W')
  (h : DataW.Trod enc Tryz.prog W 0 (fun _ => true) true t v d ps) (hlt : ∀ p ∈ ps, p.block < W.heap.size) : DataW.Trod enc Tryz.prog W' 0 (fun b => decide (b < W.heap.size)) true t v d ps :=
 WideElems.Trod_stays laidOutT hr ht h (fun p hp => ho.sameAt (hlt p hp)) (fun p hp => by simpa using hlt p hp)
theorem has_lt {P : Program} {w : World} {r : Reach} {base : Nat} {a : Addr} {e : TypeId} {n : Nat} (h : w.has P r base a e n) : a.block < w.heap.size := by
 obtain ⟨_, _, row, cells, hs, _⟩ := h
 unfold World.shape? at hs
 cases hh : w.heap[a.block]? with
 | none => rw [hh] at hs; simp at hs
 | some o => exact (Array.getElem?_eq_some_iff.1 hh).1
theorem slice_ok {P : Program} {w : World} {r : Reach} {base : Nat} {t e : TypeId} {A : Option Addr} {n c : Nat} (ht : P.underlying t = some (.slice e)) (h : Value.okWide P w r base t (.slice A n c)) : (A = none → c = 0) ∧ ∀ a, A = some a → w.has P r base a e c := by
 simp only [Value.okWide, ht, Cell.okWide, Cell.ok] at h
 cases A with
 | none =>
  refine ⟨fun _ => ?_, fun a e => (by cases e)⟩
  cases n <;> cases c <;> simp_all
 | some a =>
  refine ⟨fun e => (by cases e), fun a' e => ?_⟩
  cases e
  exact h.2.2
set_option maxRecDepth 100000 in
theorem slice_low {w : World} {base : Nat} {A : Option Addr} {n c : Nat} (h : Value.okWide Tryz.prog w .any base 22 (.slice A n c)) : (A = none → c = 0) ∧ ∀ b o, A = some ⟨b, o, none⟩ → b < w.heap.size := by
 obtain ⟨h1, h2⟩ := slice_ok under22 h
 exact ⟨h1, fun b o e => has_lt (h2 _ e)⟩
theorem read_bytes2 {H : Type} {enc : TypeId × Value → H} {w : World} {fuel : Nat} {cs : List Value} {x : DataW H × List MemPlace} (h : DataW.trod enc Tryz.prog w 0 (fun _ => true) true fuel 22 cs = some x) :
  ∃ b : Bytes, EB (fun _ => True) w b cs ∧ (b = [] ∨ ∃ es sp, x.1 = .slice es sp ∧ b.length ≤ es.length) := by
 obtain ⟨b, hb, _⟩ := read_bytes h
 refine ⟨b, hb, ?_⟩
 rcases open_ints Tryz.underlying22 Tryz.underlying5 (by kernel_rfl) h with ⟨rfl, rfl⟩ | ⟨a, len, cap, zs, rfl, _, hlc, _, hz, rfl, hc, hw⟩
 ·left
  obtain ⟨A, c, e, _⟩ := hb
  simp at e
  exact List.length_eq_zero_iff.1 e.2.1.symm
 ·right
  refine ⟨_, _, rfl, ?_⟩
  obtain ⟨A, c, e, _⟩ := hb
  simp at e
  simp only [if_true] at hz
  unfold lits
  rw [List.length_map, List.length_take]
  omega
set_option maxRecDepth 100000 in
theorem contract (H : Type) (enc : TypeId × Value → H) (W : World) (base : Nat) (args : Array Value) (ds gs : List (DataW H)) (before : List MemPlace)
  (hval : ∀ (j : Nat) t v, Tryz.f3.params[j]? = some t → args[j]? = some v → Value.okWide Tryz.prog W .any base t v)
  (hW : DataW.Whole enc Tryz.prog Tryz.f3.params.toList Rows.messageTakesSpec.vars false W args.toList ds gs before) (hs : (DataW.weightsEach Tryz.prog (Tryz.f3.params.toList ++ (OpenSpec.ofChange Rows.messageTakesSpec).bare.plain.varTypes Tryz.prog) (ds ++ gs)).all (· ≤ reachBytes) = true) (hL : laidMetH Tryz.prog Rows.messageTakesRow.laid W) (hsh : W.ShapedOpen Tryz.prog) (hsz : 8 ≤ W.heap.size) :
  Calls Tryz.prog 3 args W fun e W' => ∃ v, e = .returned v ∧ Rows.messageTakesSpec.post enc Tryz.prog Tryz.f3 false true false false W args v W' := by
 have hW' := hW
 have hlt := hW.lt
 obtain ⟨p, q, hA0, hV, rfl, hfz, hnd⟩ := hW
 have hA : DataW.TrodAll enc Tryz.prog W 0 (fun _ => true) true Tryz.f3.params.toList args.toList ds p := hA0
 rw [Tryz.params3] at hA hval hs
 obtain ⟨v0, vs, d0, es, p0, q0, ha, rfl, rfl, h0, r0⟩ := trodAll_cons hA
 obtain ⟨rfl, rfl, rfl⟩ := trodAll_nil r0
 obtain rfl : args = #[v0] := by apply Array.toList_inj.1; exact ha
 obtain ⟨rfl, rfl⟩ := trodVars_none hV
 simp only [List.append_nil] at hW' hlt
 obtain ⟨a0, n0, k0, rfl⟩ := okWide_slice under22 (hval 0 22 v0 rfl rfl)
 obtain ⟨f0, t0⟩ := id h0
 obtain ⟨l, ⟨A, c, e0, hB, hc, _⟩, hbl⟩ := read_bytes2 t0
 have e0' : Value.slice a0 n0 k0 = .slice A l.length c := by simpa [Value.cells] using e0
 have hlen : l.length ≤ 140737488351232 := by
  rcases hbl with rfl | ⟨xs, sp, hd, hl⟩
  ·simp
  ·have h1 := sized_slice hs (j := 0) (t := 22) (e := 5) (elems := xs) (spare := sp) rfl (by rw [show d0 = .slice xs sp from hd]; rfl) under22
   have hb5 : Tryz.prog.bytesOf 5 = 1 := by kernel_rfl
   rw [hb5] at h1
   have hr : reachBytes = 140737488351232 := rfl
   rw [hr] at h1
   omega
 rw [e0'] at hW' hval h0 ⊢
 obtain ⟨hAn, hlow⟩ := slice_low (hval 0 22 _ rfl rfl)
 have hI : Inp W A l := ⟨hB, hlow, gl_of hL hsh hsz⟩
 refine (takes_any hI hc hAn hlen).mono ?_
 rintro e W' ⟨ho, rfl⟩
 have hl0 : ∀ x ∈ p0, x.block < W.heap.size := fun x hx => hlt x (by simp [hx])
 refine ⟨_, rfl, _, _, _, [], p0 ++ [], [], hW', bool_res, ?_, rfl, ho.toBelow.frame _, fun h => by cases h⟩
 show DataW.TrodAll enc Tryz.prog W' 0 (fun b => decide (b < W.heap.size)) true Tryz.f3.params.toList _ _ _
 rw [Tryz.params3]
 exact trodAll_cons_mk (stay (by kernel_rfl) (of_decide_eq_true (by kernel_rfl)) ho h0 hl0) trodAll_mk0
open Go.ChangeShapes Go.WideShapes Go.ChangeAt Go.RowKit Go.Lib
theorem size_of {W : World} (hL : laidMetH Tryz.prog Rows.messageTakesRow.laid W) : 8 ≤ W.heap.size := by
 obtain ⟨g, t, cs, fuel, p, hg, ht, hvar, hd⟩ := laidMet.reads hL (.tail _ (.head _))
 have h7 : Tryz.prog.globalNamed "math/bits.deBruijn64tab" = some 7 := by kernel_rfl
 obtain rfl := Option.some.inj (h7.symm.trans hg)
 unfold World.var? at hvar
 rw [hg] at hvar
 cases hh : W.heap[7]? with
 | none => simp [hh] at hvar
 | some o =>
  have := (Array.getElem?_eq_some_iff.1 hh).1
  omega
def w8 (k : Nat) : List Value := List.replicate k (.int .u8 0)
noncomputable def laidWorld (os : Os) : World :=
 let N := (World.settled Tryz.prog os).heap.size
 let w0 := World.holding Tryz.prog os ⟨#[.cells #[.string ⟨#[105, 110, 118, 97, 108, 105, 100, 32, 115, 121, 110, 116, 97, 120]⟩] 270, .cells #[.string ⟨#[118, 97, 108, 117, 101, 32, 111, 117, 116, 32, 111, 102, 32, 114, 97, 110, 103, 101]⟩] 270], #[], []⟩
 let put (h : Array Obj) (g : Nat) (cs : Array Value) : Array Obj := h.modify g fun
  | .cells _ t frozen => .cells cs t frozen
  | o => o
 let h1 := put w0.heap 0 (Lib.firstTab.map fun z => Value.int .u8 z).toArray
 let h2 := put h1 1 ((List.range 16).flatMap fun i => [Value.int .u8 (Lib.accLo i), Value.int .u8 (Lib.accHi i)]).toArray
 let h3 := put h2 3 (Lib.pow10Tab.map fun z => Value.int .u64 z).toArray
 let h4 := put h3 4 #[.iface 268 (.pointer (some ⟨N, 0, none⟩))]
 let h5 := put h4 5 #[.iface 268 (.pointer (some ⟨N + 1, 0, none⟩))]
 let h6 := put h5 6 #[.int .u8 0, .int .u8 1, .int .u8 28, .int .u8 2, .int .u8 29, .int .u8 14, .int .u8 24, .int .u8 3, .int .u8 30, .int .u8 22, .int .u8 20, .int .u8 15, .int .u8 25, .int .u8 17, .int .u8 4, .int .u8 8, .int .u8 31, .int .u8 27, .int .u8 13, .int .u8 23, .int .u8 21, .int .u8 19, .int .u8 16, .int .u8 7, .int .u8 26, .int .u8 12, .int .u8 18, .int .u8 6, .int .u8 11, .int .u8 5, .int .u8 10, .int .u8 9]
 let h7 := put h6 7 #[.int .u8 0, .int .u8 1, .int .u8 56, .int .u8 2, .int .u8 57, .int .u8 49, .int .u8 28, .int .u8 3, .int .u8 61, .int .u8 58, .int .u8 42, .int .u8 50, .int .u8 38, .int .u8 29, .int .u8 17, .int .u8 4, .int .u8 62, .int .u8 47, .int .u8 59, .int .u8 36, .int .u8 45, .int .u8 43, .int .u8 51, .int .u8 22, .int .u8 53, .int .u8 39, .int .u8 33, .int .u8 30, .int .u8 24, .int .u8 18, .int .u8 12, .int .u8 5, .int .u8 63, .int .u8 55, .int .u8 48, .int .u8 27, .int .u8 60, .int .u8 41, .int .u8 37, .int .u8 16, .int .u8 46, .int .u8 35, .int .u8 44, .int .u8 21, .int .u8 52, .int .u8 32, .int .u8 23, .int .u8 11, .int .u8 54, .int .u8 26, .int .u8 40, .int .u8 15, .int .u8 34, .int .u8 20, .int .u8 31, .int .u8 10, .int .u8 25, .int .u8 14, .int .u8 19, .int .u8 9, .int .u8 13, .int .u8 8, .int .u8 7, .int .u8 6]
 { w0 with heap := h7 }
def wArgs : Array Value := #[.slice none 0 0]
noncomputable abbrev wMem (os : Os) : World := ((laidWorld os).forCall (fun _ _ => 0) ⟨#[], wArgs, []⟩).memory
noncomputable abbrev N0 : Nat := (World.settled Tryz.prog default).heap.size
theorem laid_a (os : Os) : LaidIn Tryz.prog (wMem os) [("math/bits.deBruijn32tab", Rows.laid_math_bits_deBruijn32tab), ("math/bits.deBruijn64tab", Rows.laid_math_bits_deBruijn64tab), ("internal/strconv.uint64pow10", Rows.laid_internal_strconv_uint64pow10), ("unicode/utf8.acceptRanges", Rows.laid_unicode_utf8_acceptRanges)] [6, 7, 3, 1] :=
 LaidIn.of_run [6, 7, 3, 1] 8 (by kernel_rfl) (by kernel_rfl) (by kernel_rfl) (by kernel_rfl)
theorem laid_b (os : Os) : LaidIn Tryz.prog (wMem os) [("strconv.ErrRange", Rows.laid_strconv_ErrRange)] [5, N0 + 1] :=
 LaidIn.of_run [5, N0 + 1] 8 (by kernel_rfl) (by kernel_rfl) (by kernel_rfl) (by kernel_rfl)
theorem laid_c (os : Os) : LaidIn Tryz.prog (wMem os) [("strconv.ErrSyntax", Rows.laid_strconv_ErrSyntax)] [4, N0] :=
 LaidIn.of_run [4, N0] 8 (by kernel_rfl) (by kernel_rfl) (by kernel_rfl) (by kernel_rfl)
theorem laid_d (os : Os) : LaidIn Tryz.prog (wMem os) [("unicode/utf8.first", Rows.laid_unicode_utf8_first)] [0] :=
 LaidIn.of_run [0] 8 (by kernel_rfl) (by kernel_rfl) (by kernel_rfl) (by kernel_rfl)
theorem laid_met (os : Os) : laidMet Tryz.prog Rows.messageTakesRow.laid (wMem os) :=
 ((((laid_a os).append (laid_b os) (by kernel_rfl)).append (laid_c os) (by kernel_rfl)).append (laid_d os) (by kernel_rfl)).met
theorem reads (os : Os) {H : Type} (enc : TypeId × Value → H) : ∃ places, DataW.whole enc Tryz.prog (wMem os) Tryz.f3.params.toList Rows.messageTakesSpec.vars false wArgs.toList 8 =
  some ([.nil], [], places) :=
 ⟨[], by kernel_rfl⟩
set_option maxRecDepth 100000 in
theorem lifted (os : Os) (started : os.Started) (H : Type) (enc : TypeId × Value → H) (F : Stop.Interp) :
  ReturnsInHanded {} Tryz.checked os 3 .any ((OpenSpec.ofChange Rows.messageTakesSpec).preRow enc Tryz.prog Tryz.f3 Rows.messageTakesRow.domain false Rows.messageTakesRow.laid) (((OpenSpec.ofChange Rows.messageTakesSpec).at F).post enc Tryz.prog Tryz.f3 false true false false) := by
 obtain ⟨places, hx⟩ := reads os enc
 refine returnsInHanded_of_row (C := Tryz.checked) (s := OpenSpec.ofChange Rows.messageTakesSpec) own4 started (by kernel_rfl) Tryz.func3
  (witness_row_atRef (enc := enc) (C := Tryz.checked) false (laidWorld os) wArgs rfl (by kernel_rfl) (by kernel_rfl) (by kernel_rfl)
   (OpenSpec.preRow_of_cond 8 hx (by kernel_rfl) (fun k hk => by cases hk) (by kernel_rfl) (laid_met os))) ?_
 intro W base args ds gs before hval hW _ _ hs hL hsh _
 exact contract H enc W base args ds gs before hval hW hs hL hsh (size_of hL)
theorem said : Rows.MessageTakesSaid :=
 OpenClaim.holds_of_cond 3 Tryz.f3 rfl rfl rfl rfl rfl rfl rfl ⟨rfl, rfl, rfl, rfl, rfl⟩ rfl rfl rfl rfl rfl (by kernel_rfl) Tryz.func3 (by kernel_rfl)
  (of_decide_eq_true (by kernel_rfl)) (by unfold Func.isWrapper; first | (rw [if_pos (by decide +kernel)]; kernel_rfl) | (rw [if_neg (by decide +kernel)]; exact ⟨rfl, rfl⟩))
  (fun os started H enc _ F => by rw [OpenClaim.pre_eq_preRow]; exact lifted os started H enc F)
theorem plainF (f : FuncId) (fn : Func) (hf : Tryz.pinned.checked.prog.funcNamed "escritoire/escritoirelaw26.MessageTakes" = some f) (hfn : Tryz.pinned.checked.prog.funcs[f]? = some fn) :
  true = Tryz.pinned.checked.prog.looks [] ∧ ∀ (j : Nat) t, fn.params[j]? = some t → Tryz.pinned.checked.prog.wantsStandIn t = false := by
 obtain rfl : f = 3 := Option.some.inj ((show Tryz.prog.funcNamed "escritoire/escritoirelaw26.MessageTakes" = some 3 by kernel_rfl).symm.trans hf) |>.symm
 obtain rfl : fn = Tryz.f3 := (Option.some.inj (Tryz.func3.symm.trans hfn)).symm
 refine ⟨by kernel_rfl, fun j t ht => ?_⟩
 rw [Tryz.params3] at ht
 have hm : t ∈ (#[22] : Array TypeId) := Array.mem_of_getElem? ht
 have hall : ∀ t ∈ (#[22] : Array TypeId).toList, Tryz.prog.wantsStandIn t = false := by
  intro t ht
  simp only [List.mem_cons, List.not_mem_nil, or_false] at ht
  subst ht; kernel_rfl
 exact hall t (by simpa using hm)
theorem message_takes : Rows.MessageTakesCardSaid :=
 Claim7.holds_tied_plain_at .later [] _ _ _ _ said (fun _ h => by cases h) (by kernel_rfl) (fun _ h => by cases h) messageTakes_row_tie rfl ⟨rfl, rfl⟩ (by kernel_rfl) rfl plainF (by kernel_rfl)
end Go.Proofs.YtjehnejgojgahaaGreatDoor
