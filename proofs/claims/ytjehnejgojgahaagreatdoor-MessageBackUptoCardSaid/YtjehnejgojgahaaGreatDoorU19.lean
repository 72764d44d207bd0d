/-
  A part of the proof of MessageBack (bulk at most 1048576): the texts T14 T15 T16 T17 T18 W0 W1 W2 W3 W4 W5 W6 Y0 Z0 Q5.
-/
import Derived.Test.YtjehnejgojgahaaGreatDoorU15
import Derived.Test.YtjehnejgojgahaaGreatDoorU17
import Derived.Test.YtjehnejgojgahaaGreatDoorU18
import Derived.Lib.ValidAsc
import Derived.StringKeys
import Derived.DeepKeys

/- T14 -/
namespace Go.Proofs.YtjehnejgojgahaaGreatDoor
open Go.RowKit
set_option linter.unusedVariables false
set_option linter.unusedSimpArgs false

def nSize : Bytes := [116, 114, 101, 101, 95, 115, 105, 122, 101]
def nTime : Bytes := [116, 105, 109, 101, 115, 116, 97, 109, 112]
def nRoot : Bytes := [115, 104, 97, 50, 53, 54, 95, 114, 111, 111, 116, 95, 104, 97, 115, 104]
def nHsig : Bytes := [116, 114, 101, 101, 95, 104, 101, 97, 100, 95, 115, 105, 103, 110, 97, 116, 117, 114, 101]
def nVer : Bytes := [115, 99, 116, 95, 118, 101, 114, 115, 105, 111, 110]
def nId : Bytes := [105, 100]
def nExt : Bytes := [101, 120, 116, 101, 110, 115, 105, 111, 110, 115]
def nSig : Bytes := [115, 105, 103, 110, 97, 116, 117, 114, 101]
def nCons : Bytes := [99, 111, 110, 115, 105, 115, 116, 101, 110, 99, 121]
def nIdx : Bytes := [108, 101, 97, 102, 95, 105, 110, 100, 101, 120]
def nPath : Bytes := [97, 117, 100, 105, 116, 95, 112, 97, 116, 104]
def nEnt : Bytes := [101, 110, 116, 114, 105, 101, 115]
def nErr : Bytes := [101, 114, 114, 111, 114]
def nChain : Bytes := [99, 104, 97, 105, 110]
/-- The value of a text, the zero value if there is none; whether its members are not these. -/
def pV (l : Bytes) : JV := (parseM l).getD JV0
def pBad (l : Bytes) (ns : List Bytes) : Bool := match parseM l with | some v => badN v (bad0 v ns) ns | none => true
theorem Small.jv0 (b : Nat) : Small b JV0 := .mk (by simp) (by decide) (by simp) (by simp) (by simp)
theorem Small.mono {b c : Nat} {v : JV} (h : Small b v) (hbc : b ≤ c) : Small c v := by
  induction h with
  | mk h1 h2 h3 h4 h5 ih => exact .mk (by omega) h2 (by omega) (by omega) ih
theorem pV_small (l : Bytes) : Small 1048576 (pV l) := by
  unfold pV parseM
  split
  · rename_i h
    cases hp : parseD l with
    | none => exact Small.jv0 _
    | some v => exact (parseD_small hp).mono h
  · exact Small.jv0 _
theorem getB_small {b : Nat} {v : JV} (h : Small b v) (k : Bytes) : Small b ((getB v k).getD JV0) := by
  cases hg : getB v k with
  | none => exact Small.jv0 _
  | some u =>
    unfold getB at hg
    split at hg
    · obtain ⟨i, _, hi⟩ := Option.bind_eq_some_iff.1 hg
      exact h.each hi
    · cases hg
theorem SmE.of {u : JV} (h : Small 1048576 u) : SmE u :=
  ⟨by have := h.str; omega, by have := h.keys; omega, by have := h.list; omega, by have := (getB_small h nLeaf).str; omega, by have := (getB_small h nExtra).str; omega⟩
theorem Small.mem {b : Nat} {v u : JV} (h : Small b v) (hu : u ∈ v.list) : Small b u := by
  obtain ⟨i, hi⟩ := List.getElem?_of_mem hu
  exact h.each hi
theorem strsAtBlk {w : World} {g : Nat} {ns : List Bytes} {T : TypeId} (h : Blk w g (ns.map txt) T) : StrsAt w (some ⟨g, 0, none⟩) ns := by
  intro i t ht
  exact ⟨g, 0, rfl, by rw [Nat.zero_add]; exact h.cell i (by rw [List.getElem?_map, ht]; rfl)⟩
def MP2 (l : Bytes) (ns : List Bytes) (w : World) (e : Ending) (w' : World) : Prop :=
  Only (fun _ => False) w w' ∧ ∃ g, e = .returned (.pointer (some ⟨g, 0, none⟩)) ∧ w.heap.size ≤ g ∧ TK (· ≠ g) w' g (pV l) (pBad l ns)
/-- What a taker of a text is given. -/
structure Inp (w : World) (A : Option Addr) (l : Bytes) : Prop where
  at_ : BytesAt w A l
  low : ∀ b o, A = some ⟨b, o, none⟩ → b < w.heap.size
  gl : Gl w
theorem Inp.keep {w w' : World} {A : Option Addr} {l : Bytes} (h : Inp w A l) (ho : Only (fun _ => False) w w') : Inp w' A l :=
  ⟨h.at_.only ho (fun _ _ _ => id), fun b o e => Nat.lt_of_lt_of_le (h.low b o e) ho.size, h.gl.only ho (fun _ _ => id)⟩
theorem msg_parse2 {A N : Option Addr} {c d : Nat} {l : Bytes} {ns : List Bytes} {w : World} (hI : Inp w A l) (hcap : l.length ≤ c) (hN : StrsAt w N ns) (hns : ns.length ≤ 1000) :
    Calls Tryz.prog 26 #[.slice A l.length c, .slice N ns.length d] w (MP2 l ns w) := by
  refine (msg_parse validSaid hI.at_ hcap hI.low hI.gl hN hns).mono ?_
  rintro e w' ⟨ho, g, rfl, hg, h⟩
  refine ⟨ho, g, rfl, hg, ?_⟩
  unfold pV pBad
  cases hp : parseM l with
  | none => rw [hp] at h; exact h
  | some v => rw [hp] at h; exact h
theorem mp_cons {A : Option Addr} {c : Nat} {l : Bytes} {w : World} (hI : Inp w A l) (hcap : l.length ≤ c) :
    Calls Tryz.prog 26 #[.slice A l.length c, .slice (some ⟨w.heap.size, 0, none⟩) 1 1] (w.alloc (.cells #[.string ⟨#[99, 111, 110, 115, 105, 115, 116, 101, 110, 99, 121]⟩] 9)) (MP2 l [nCons] (w.alloc (.cells #[.string ⟨#[99, 111, 110, 115, 105, 115, 116, 101, 110, 99, 121]⟩] 9))) :=
  msg_parse2 (ns := [nCons]) (hI.keep ((Only.refl _ w).alloc _)) hcap (strsAtBlk (Blk.new w [txt nCons] 9)) (by simp)
theorem mp_ent {A : Option Addr} {c : Nat} {l : Bytes} {w : World} (hI : Inp w A l) (hcap : l.length ≤ c) :
    Calls Tryz.prog 26 #[.slice A l.length c, .slice (some ⟨w.heap.size, 0, none⟩) 1 1] (w.alloc (.cells #[.string ⟨#[101, 110, 116, 114, 105, 101, 115]⟩] 9)) (MP2 l [nEnt] (w.alloc (.cells #[.string ⟨#[101, 110, 116, 114, 105, 101, 115]⟩] 9))) :=
  msg_parse2 (ns := [nEnt]) (hI.keep ((Only.refl _ w).alloc _)) hcap (strsAtBlk (Blk.new w [txt nEnt] 9)) (by simp)
theorem mp_chain {A : Option Addr} {c : Nat} {l : Bytes} {w : World} (hI : Inp w A l) (hcap : l.length ≤ c) :
    Calls Tryz.prog 26 #[.slice A l.length c, .slice (some ⟨w.heap.size, 0, none⟩) 1 1] (w.alloc (.cells #[.string ⟨#[99, 104, 97, 105, 110]⟩] 9)) (MP2 l [nChain] (w.alloc (.cells #[.string ⟨#[99, 104, 97, 105, 110]⟩] 9))) :=
  msg_parse2 (ns := [nChain]) (hI.keep ((Only.refl _ w).alloc _)) hcap (strsAtBlk (Blk.new w [txt nChain] 9)) (by simp)
theorem mp_err {A : Option Addr} {c : Nat} {l : Bytes} {w : World} (hI : Inp w A l) (hcap : l.length ≤ c) :
    Calls Tryz.prog 26 #[.slice A l.length c, .slice (some ⟨w.heap.size, 0, none⟩) 1 1] (w.alloc (.cells #[.string ⟨#[101, 114, 114, 111, 114]⟩] 9)) (MP2 l [nErr] (w.alloc (.cells #[.string ⟨#[101, 114, 114, 111, 114]⟩] 9))) :=
  msg_parse2 (ns := [nErr]) (hI.keep ((Only.refl _ w).alloc _)) hcap (strsAtBlk (Blk.new w [txt nErr] 9)) (by simp)
theorem mp_proof {A : Option Addr} {c : Nat} {l : Bytes} {w : World} (hI : Inp w A l) (hcap : l.length ≤ c) :
    Calls Tryz.prog 26 #[.slice A l.length c, .slice (some ⟨w.heap.size, 0, none⟩) 2 2] (w.alloc (.cells #[.string ⟨#[108, 101, 97, 102, 95, 105, 110, 100, 101, 120]⟩, .string ⟨#[97, 117, 100, 105, 116, 95, 112, 97, 116, 104]⟩] 9)) (MP2 l [nIdx, nPath] (w.alloc (.cells #[.string ⟨#[108, 101, 97, 102, 95, 105, 110, 100, 101, 120]⟩, .string ⟨#[97, 117, 100, 105, 116, 95, 112, 97, 116, 104]⟩] 9))) :=
  msg_parse2 (ns := [nIdx, nPath]) (hI.keep ((Only.refl _ w).alloc _)) hcap (strsAtBlk (Blk.new w [txt nIdx, txt nPath] 9)) (by simp)
theorem mp_sct {A : Option Addr} {c : Nat} {l : Bytes} {w : World} (hI : Inp w A l) (hcap : l.length ≤ c) :
    Calls Tryz.prog 26 #[.slice A l.length c, .slice (some ⟨w.heap.size, 0, none⟩) 5 5] (w.alloc (.cells #[.string ⟨#[115, 99, 116, 95, 118, 101, 114, 115, 105, 111, 110]⟩, .string ⟨#[105, 100]⟩, .string ⟨#[116, 105, 109, 101, 115, 116, 97, 109, 112]⟩, .string ⟨#[101, 120, 116, 101, 110, 115, 105, 111, 110, 115]⟩, .string ⟨#[115, 105, 103, 110, 97, 116, 117, 114, 101]⟩] 9)) (MP2 l [nVer, nId, nTime, nExt, nSig] (w.alloc (.cells #[.string ⟨#[115, 99, 116, 95, 118, 101, 114, 115, 105, 111, 110]⟩, .string ⟨#[105, 100]⟩, .string ⟨#[116, 105, 109, 101, 115, 116, 97, 109, 112]⟩, .string ⟨#[101, 120, 116, 101, 110, 115, 105, 111, 110, 115]⟩, .string ⟨#[115, 105, 103, 110, 97, 116, 117, 114, 101]⟩] 9))) :=
  msg_parse2 (ns := [nVer, nId, nTime, nExt, nSig]) (hI.keep ((Only.refl _ w).alloc _)) hcap (strsAtBlk (Blk.new w [txt nVer, txt nId, txt nTime, txt nExt, txt nSig] 9)) (by simp)
theorem mp_head {A : Option Addr} {c : Nat} {l : Bytes} {w : World} (hI : Inp w A l) (hcap : l.length ≤ c) :
    Calls Tryz.prog 26 #[.slice A l.length c, .slice (some ⟨w.heap.size, 0, none⟩) 4 4] (w.alloc (.cells #[.string ⟨#[116, 114, 101, 101, 95, 115, 105, 122, 101]⟩, .string ⟨#[116, 105, 109, 101, 115, 116, 97, 109, 112]⟩, .string ⟨#[115, 104, 97, 50, 53, 54, 95, 114, 111, 111, 116, 95, 104, 97, 115, 104]⟩, .string ⟨#[116, 114, 101, 101, 95, 104, 101, 97, 100, 95, 115, 105, 103, 110, 97, 116, 117, 114, 101]⟩] 9)) (MP2 l [nSize, nTime, nRoot, nHsig] (w.alloc (.cells #[.string ⟨#[116, 114, 101, 101, 95, 115, 105, 122, 101]⟩, .string ⟨#[116, 105, 109, 101, 115, 116, 97, 109, 112]⟩, .string ⟨#[115, 104, 97, 50, 53, 54, 95, 114, 111, 111, 116, 95, 104, 97, 115, 104]⟩, .string ⟨#[116, 114, 101, 101, 95, 104, 101, 97, 100, 95, 115, 105, 103, 110, 97, 116, 117, 114, 101]⟩] 9))) :=
  msg_parse2 (ns := [nSize, nTime, nRoot, nHsig]) (hI.keep ((Only.refl _ w).alloc _)) hcap (strsAtBlk (Blk.new w [txt nSize, txt nTime, txt nRoot, txt nHsig] 9)) (by simp)
/-- A list of things, taken. -/
def LTake {α : Type} (E : (Nat → Prop) → World → α → List Value → Prop) (size : Nat) (T : TypeId) (bad : Bool) (l : List α) (e0 : Int) (w : World) (e : Ending) (w' : World) : Prop :=
  Only (fun _ => False) w w' ∧ ∃ A c, e = .returned (.tuple #[.slice A (if bad = true then [] else l).length c, .int .i64 (if bad = true then e0 else 0)]) ∧ RowOwn E size T w.heap.size w' (.slice A (if bad = true then [] else l).length c) (if bad = true then [] else l)
def badL (l : Bytes) (ns : List Bytes) (k : Bytes) (ok : JV → Bool) : Bool := pBad l ns || badG (pV l) k 5 || eachBad ok ((getB (pV l) k).getD JV0).list
def elsL {α : Type} (l : Bytes) (k : Bytes) (val : JV → α) : List α := ((getB (pV l) k).getD JV0).list.map val

theorem each_hash_nCons {X : Nat → Prop} {g : Nat} {v : JV} {bad : Bool} {w : World} (hX : ∀ b, X b → b ≠ g) (hT : TK X w g v bad) (hv : Small 1048576 v) :
    Calls Tryz.prog 39 #[.pointer (some ⟨g, 0, none⟩), .string ⟨#[99, 111, 110, 115, 105, 115, 116, 101, 110, 99, 121]⟩, .func (.func 40) #[] #[]] w (EachAt ED 32 24 elH okH' X g v bad nCons w) :=
  each_hash (k := nCons) hX hT (by have := hv.keys; omega) (by have := hv.list; omega) (by have := (getB_small hv nCons).list; omega) (fun x hx => SmE.of ((getB_small hv nCons).mem hx))
set_option maxRecDepth 100000 in
set_option maxHeartbeats 1600000 in
theorem takeCons_any {A : Option Addr} {c : Nat} {l : Bytes} {w : World} (hI : Inp w A l) (hcap : l.length ≤ c) :
    Calls Tryz.prog 9 #[.slice A l.length c] w (LTake ED 32 24 (badL l [nCons] nCons okH') (elsL l nCons elH) 5 w) := by
  have HI := Lib.hid hI
  have HC := Lib.hid hcap
  obtain ⟨bb, hbb⟩ : ∃ bb, bb = badL l [nCons] nCons okH' := ⟨_, rfl⟩
  have HBB := Lib.hid hbb
  have HDO := Lib.hid (show ∀ e w', LTake ED 32 24 bb (elsL l nCons elH) 5 w e w' → LTake ED 32 24 (badL l [nCons] nCons okH') (elsL l nCons elH) 5 w e w' from fun e w' h => by rw [← hbb]; exact h)
  clear hI hcap hbb
  cases bb with
  | false =>
    go_enter Tryz.func9, Tryz.ntmps9
    go_wp2_with (first
      | (go_at_call 26; refine (mp_cons HI.out HC.out).mono ?_; rintro e w2 ⟨ho2, g, rfl, hg, ht2⟩; have HO2 := Lib.hid (((Only.refl _ w).alloc _).trans ho2); have HT2 := Lib.hid ht2; have HG := Lib.hid (show w.heap.size ≤ g by have := hg; simp at this; omega); clear ho2 hg ht2)
      | (go_at_call 39; refine (each_hash_nCons (fun b hb => hb) HT2.out (pV_small l)).mono ?_; rintro e w3 ⟨ho3, ht3, rv, rfl, hr3⟩; rw [show (pBad l [nCons] || badG (pV l) nCons 5 || eachBad okH' ((getB (pV l) nCons).getD JV0).list) = _ from HBB.out.symm] at ht3; obtain ⟨A3, c3, rfl⟩ := hr3.form; have HO3 := Lib.hid ho3; have HT3 := Lib.hid ht3; have HR3 := Lib.hid hr3; clear ho3 ht3 hr3)
      | (go_at_call 41; refine (told_digests HT3.out).mono ?_; rintro e w4 ⟨ho4, rfl⟩; have HO4 := Lib.hid ho4; clear ho4))

    go_ret2
    have o3 : Only (fun _ => False) w w3 := HO2.out.then HO3.out (fun i hi e => by have := HG.out; omega)
    refine HDO.out _ _ ⟨o3.trans HO4.out, A3, c3, by simp [elsL], ?_⟩
    exact (HR3.out.only encD HO4.out (fun _ _ _ => id)).mono encD HO2.out.size
  | true =>
    go_enter Tryz.func9, Tryz.ntmps9
    go_wp2_with (first
      | (go_at_call 26; refine (mp_cons HI.out HC.out).mono ?_; rintro e w2 ⟨ho2, g, rfl, hg, ht2⟩; have HO2 := Lib.hid (((Only.refl _ w).alloc _).trans ho2); have HT2 := Lib.hid ht2; have HG := Lib.hid (show w.heap.size ≤ g by have := hg; simp at this; omega); clear ho2 hg ht2)
      | (go_at_call 39; refine (each_hash_nCons (fun b hb => hb) HT2.out (pV_small l)).mono ?_; rintro e w3 ⟨ho3, ht3, rv, rfl, hr3⟩; rw [show (pBad l [nCons] || badG (pV l) nCons 5 || eachBad okH' ((getB (pV l) nCons).getD JV0).list) = _ from HBB.out.symm] at ht3; obtain ⟨A3, c3, rfl⟩ := hr3.form; have HO3 := Lib.hid ho3; have HT3 := Lib.hid ht3; have HR3 := Lib.hid hr3; clear ho3 ht3 hr3)
      | (go_at_call 41; refine (told_digests HT3.out).mono ?_; rintro e w4 ⟨ho4, rfl⟩; have HO4 := Lib.hid ho4; clear ho4))

    go_ret2
    have o3 : Only (fun _ => False) w w3 := HO2.out.then HO3.out (fun i hi e => by have := HG.out; omega)
    refine HDO.out _ _ ⟨o3.trans HO4.out, none, 0, rfl, RowOwn.nil _ _ _⟩

theorem each_item_nEnt {X : Nat → Prop} {g : Nat} {v : JV} {bad : Bool} {w : World} (hX : ∀ b, X b → b ≠ g) (hT : TK X w g v bad) (hv : Small 1048576 v) :
    Calls Tryz.prog 43 #[.pointer (some ⟨g, 0, none⟩), .string ⟨#[101, 110, 116, 114, 105, 101, 115]⟩, .func (.func 44) #[] #[]] w (EachAt EI 2 105 elI okI' X g v bad nEnt w) :=
  each_item (k := nEnt) hX hT (by have := hv.keys; omega) (by have := hv.list; omega) (by have := (getB_small hv nEnt).list; omega) (fun x hx => SmE.of ((getB_small hv nEnt).mem hx))
set_option maxRecDepth 100000 in
set_option maxHeartbeats 1600000 in
theorem takeEnt_any {A : Option Addr} {c : Nat} {l : Bytes} {w : World} (hI : Inp w A l) (hcap : l.length ≤ c) :
    Calls Tryz.prog 14 #[.slice A l.length c] w (LTake EI 2 105 (badL l [nEnt] nEnt okI') (elsL l nEnt elI) 5 w) := by
  have HI := Lib.hid hI
  have HC := Lib.hid hcap
  obtain ⟨bb, hbb⟩ : ∃ bb, bb = badL l [nEnt] nEnt okI' := ⟨_, rfl⟩
  have HBB := Lib.hid hbb
  have HDO := Lib.hid (show ∀ e w', LTake EI 2 105 bb (elsL l nEnt elI) 5 w e w' → LTake EI 2 105 (badL l [nEnt] nEnt okI') (elsL l nEnt elI) 5 w e w' from fun e w' h => by rw [← hbb]; exact h)
  clear hI hcap hbb
  cases bb with
  | false =>
    go_enter Tryz.func14, Tryz.ntmps14
    go_wp2_with (first
      | (go_at_call 26; refine (mp_ent HI.out HC.out).mono ?_; rintro e w2 ⟨ho2, g, rfl, hg, ht2⟩; have HO2 := Lib.hid (((Only.refl _ w).alloc _).trans ho2); have HT2 := Lib.hid ht2; have HG := Lib.hid (show w.heap.size ≤ g by have := hg; simp at this; omega); clear ho2 hg ht2)
      | (go_at_call 43; refine (each_item_nEnt (fun b hb => hb) HT2.out (pV_small l)).mono ?_; rintro e w3 ⟨ho3, ht3, rv, rfl, hr3⟩; rw [show (pBad l [nEnt] || badG (pV l) nEnt 5 || eachBad okI' ((getB (pV l) nEnt).getD JV0).list) = _ from HBB.out.symm] at ht3; obtain ⟨A3, c3, rfl⟩ := hr3.form; have HO3 := Lib.hid ho3; have HT3 := Lib.hid ht3; have HR3 := Lib.hid hr3; clear ho3 ht3 hr3)
      | (go_at_call 45; refine (told_items HT3.out).mono ?_; rintro e w4 ⟨ho4, rfl⟩; have HO4 := Lib.hid ho4; clear ho4))

    go_ret2
    have o3 : Only (fun _ => False) w w3 := HO2.out.then HO3.out (fun i hi e => by have := HG.out; omega)
    refine HDO.out _ _ ⟨o3.trans HO4.out, A3, c3, by simp [elsL], ?_⟩
    exact (HR3.out.only encI HO4.out (fun _ _ _ => id)).mono encI HO2.out.size
  | true =>
    go_enter Tryz.func14, Tryz.ntmps14
    go_wp2_with (first
      | (go_at_call 26; refine (mp_ent HI.out HC.out).mono ?_; rintro e w2 ⟨ho2, g, rfl, hg, ht2⟩; have HO2 := Lib.hid (((Only.refl _ w).alloc _).trans ho2); have HT2 := Lib.hid ht2; have HG := Lib.hid (show w.heap.size ≤ g by have := hg; simp at this; omega); clear ho2 hg ht2)
      | (go_at_call 43; refine (each_item_nEnt (fun b hb => hb) HT2.out (pV_small l)).mono ?_; rintro e w3 ⟨ho3, ht3, rv, rfl, hr3⟩; rw [show (pBad l [nEnt] || badG (pV l) nEnt 5 || eachBad okI' ((getB (pV l) nEnt).getD JV0).list) = _ from HBB.out.symm] at ht3; obtain ⟨A3, c3, rfl⟩ := hr3.form; have HO3 := Lib.hid ho3; have HT3 := Lib.hid ht3; have HR3 := Lib.hid hr3; clear ho3 ht3 hr3)
      | (go_at_call 45; refine (told_items HT3.out).mono ?_; rintro e w4 ⟨ho4, rfl⟩; have HO4 := Lib.hid ho4; clear ho4))

    go_ret2
    have o3 : Only (fun _ => False) w w3 := HO2.out.then HO3.out (fun i hi e => by have := HG.out; omega)
    refine HDO.out _ _ ⟨o3.trans HO4.out, none, 0, rfl, RowOwn.nil _ _ _⟩

theorem each_bytes_nChain {X : Nat → Prop} {g : Nat} {v : JV} {bad : Bool} {w : World} (hX : ∀ b, X b → b ≠ g) (hT : TK X w g v bad) (hv : Small 1048576 v) :
    Calls Tryz.prog 74 #[.pointer (some ⟨g, 0, none⟩), .string ⟨#[99, 104, 97, 105, 110]⟩, .func (.func 72) #[] #[]] w (EachAt EB 1 22 elB okB' X g v bad nChain w) :=
  each_bytes (k := nChain) hX hT (by have := hv.keys; omega) (by have := hv.list; omega) (by have := (getB_small hv nChain).list; omega) (fun x hx => SmE.of ((getB_small hv nChain).mem hx))
set_option maxRecDepth 100000 in
set_option maxHeartbeats 1600000 in
theorem readChain_any {A : Option Addr} {c : Nat} {l : Bytes} {w : World} (hI : Inp w A l) (hcap : l.length ≤ c) :
    Calls Tryz.prog 49 #[.slice A l.length c] w (LTake EB 1 22 (badL l [nChain] nChain okB') (elsL l nChain elB) 43 w) := by
  have HI := Lib.hid hI
  have HC := Lib.hid hcap
  obtain ⟨bb, hbb⟩ : ∃ bb, bb = badL l [nChain] nChain okB' := ⟨_, rfl⟩
  have HBB := Lib.hid hbb
  have HDO := Lib.hid (show ∀ e w', LTake EB 1 22 bb (elsL l nChain elB) 43 w e w' → LTake EB 1 22 (badL l [nChain] nChain okB') (elsL l nChain elB) 43 w e w' from fun e w' h => by rw [← hbb]; exact h)
  clear hI hcap hbb
  cases bb with
  | false =>
    go_enter Tryz.func49, Tryz.ntmps49
    go_wp2_with (first
      | (go_at_call 26; refine (mp_chain HI.out HC.out).mono ?_; rintro e w2 ⟨ho2, g, rfl, hg, ht2⟩; have HO2 := Lib.hid (((Only.refl _ w).alloc _).trans ho2); have HT2 := Lib.hid ht2; have HG := Lib.hid (show w.heap.size ≤ g by have := hg; simp at this; omega); clear ho2 hg ht2)
      | (go_at_call 74; refine (each_bytes_nChain (fun b hb => hb) HT2.out (pV_small l)).mono ?_; rintro e w3 ⟨ho3, ht3, rv, rfl, hr3⟩; rw [show (pBad l [nChain] || badG (pV l) nChain 5 || eachBad okB' ((getB (pV l) nChain).getD JV0).list) = _ from HBB.out.symm] at ht3; obtain ⟨A3, c3, rfl⟩ := hr3.form; have HO3 := Lib.hid ho3; have HT3 := Lib.hid ht3; have HR3 := Lib.hid hr3; clear ho3 ht3 hr3)
      | (go_at_call 75; refine (told_chain HT3.out).mono ?_; rintro e w4 ⟨ho4, rfl⟩; have HO4 := Lib.hid ho4; clear ho4))

    go_ret2
    have o3 : Only (fun _ => False) w w3 := HO2.out.then HO3.out (fun i hi e => by have := HG.out; omega)
    refine HDO.out _ _ ⟨o3.trans HO4.out, A3, c3, by simp [elsL], ?_⟩
    exact (HR3.out.only encB HO4.out (fun _ _ _ => id)).mono encB HO2.out.size
  | true =>
    go_enter Tryz.func49, Tryz.ntmps49
    go_wp2_with (first
      | (go_at_call 26; refine (mp_chain HI.out HC.out).mono ?_; rintro e w2 ⟨ho2, g, rfl, hg, ht2⟩; have HO2 := Lib.hid (((Only.refl _ w).alloc _).trans ho2); have HT2 := Lib.hid ht2; have HG := Lib.hid (show w.heap.size ≤ g by have := hg; simp at this; omega); clear ho2 hg ht2)
      | (go_at_call 74; refine (each_bytes_nChain (fun b hb => hb) HT2.out (pV_small l)).mono ?_; rintro e w3 ⟨ho3, ht3, rv, rfl, hr3⟩; rw [show (pBad l [nChain] || badG (pV l) nChain 5 || eachBad okB' ((getB (pV l) nChain).getD JV0).list) = _ from HBB.out.symm] at ht3; obtain ⟨A3, c3, rfl⟩ := hr3.form; have HO3 := Lib.hid ho3; have HT3 := Lib.hid ht3; have HR3 := Lib.hid hr3; clear ho3 ht3 hr3)
      | (go_at_call 75; refine (told_chain HT3.out).mono ?_; rintro e w4 ⟨ho4, rfl⟩; have HO4 := Lib.hid ho4; clear ho4))

    go_ret2
    have o3 : Only (fun _ => False) w w3 := HO2.out.then HO3.out (fun i hi e => by have := HG.out; omega)
    refine HDO.out _ _ ⟨o3.trans HO4.out, none, 0, rfl, RowOwn.nil _ _ _⟩
end Go.Proofs.YtjehnejgojgahaaGreatDoor

/- T15 -/
namespace Go.Proofs.YtjehnejgojgahaaGreatDoor
open Go.RowKit
set_option linter.unusedVariables false
set_option linter.unusedSimpArgs false

def numL (l : Bytes) (k : Bytes) : Nat := ((getB (pV l) k).getD JV0).num
theorem numL_lt (l k : Bytes) : numL l k < 18446744073709551616 := (getB_small (pV_small l) k).num
theorem tnum_nErr {X : Nat → Prop} {g : Nat} {l : Bytes} {bad : Bool} {w : World} (hX : ∀ b, X b → b ≠ g) (hT : TK X w g (pV l) bad) :
    Calls Tryz.prog 28 #[.pointer (some ⟨g, 0, none⟩), .string ⟨#[101, 114, 114, 111, 114]⟩] w (TNumAt X g (pV l) bad nErr w) := tnum_any (k := nErr) hX hT (by have := (pV_small l).keys; omega) (by have := (pV_small l).list; omega)
theorem tnum_nIdx {X : Nat → Prop} {g : Nat} {l : Bytes} {bad : Bool} {w : World} (hX : ∀ b, X b → b ≠ g) (hT : TK X w g (pV l) bad) :
    Calls Tryz.prog 28 #[.pointer (some ⟨g, 0, none⟩), .string ⟨#[108, 101, 97, 102, 95, 105, 110, 100, 101, 120]⟩] w (TNumAt X g (pV l) bad nIdx w) := tnum_any (k := nIdx) hX hT (by have := (pV_small l).keys; omega) (by have := (pV_small l).list; omega)

def badE (l : Bytes) : Bool := pBad l [nErr] || badG (pV l) nErr 3 || decide (2147483647 < numL l nErr)
def ErrTake (l : Bytes) (w : World) (e : Ending) (w' : World) : Prop :=
  Only (fun _ => False) w w' ∧ e = .returned (.tuple #[.int .i64 (if badE l = true then 0 else (numL l nErr : Int)), .int .i64 (if badE l = true then 5 else 0)])
set_option maxRecDepth 100000 in
set_option maxHeartbeats 1600000 in
theorem takeErr_any {A : Option Addr} {c : Nat} {l : Bytes} {w : World} (hI : Inp w A l) (hcap : l.length ≤ c) :
    Calls Tryz.prog 17 #[.slice A l.length c] w (ErrTake l w) := by
  have HI := Lib.hid hI
  have HC := Lib.hid hcap
  obtain ⟨bb, hbb⟩ : ∃ bb, bb = (pBad l [nErr] || badG (pV l) nErr 3) := ⟨_, rfl⟩
  obtain ⟨n, hn⟩ : ∃ n, n = numL l nErr := ⟨_, rfl⟩
  have HBB := Lib.hid hbb
  have HN := Lib.hid hn
  have hnlt := numL_lt l nErr
  rw [← hn] at hnlt
  have hnz : (n : Int) < 18446744073709551616 := by omega
  have HDO := Lib.hid (show ∀ (q : Bool) e w', q = (bb || decide (2147483647 < n)) → Only (fun _ => False) w w' → e = .returned (.tuple #[.int .i64 (if q = true then 0 else (n : Int)), .int .i64 (if q = true then 5 else 0)]) → ErrTake l w e w' from
    fun q e w' hq ho he => ⟨ho, by have e1 : badE l = q := by rw [hq, hbb, hn]; rfl
                                   rw [e1, ← hn]; exact he⟩)
  clear hI hcap hbb hn hnlt
  by_cases hb : 2147483647 < n
  · have qn : decide ((2147483647 : Int) < (n : Int)) = true := by simp; omega
    have HQ := Lib.hid (decide_eq_true hb)
    clear hb
    cases bb
    all_goals
      go_enter Tryz.func17, Tryz.ntmps17
      go_wp2_with (first
        | (go_at_call 26; refine (mp_err HI.out HC.out).mono ?_; rintro e w2 ⟨ho2, g, rfl, hg, ht2⟩; have HO2 := Lib.hid (((Only.refl _ w).alloc _).trans ho2); have HT2 := Lib.hid ht2; have HG := Lib.hid (show w.heap.size ≤ g by have := hg; simp at this; omega); clear ho2 hg ht2)
        | (go_at_call 28; refine (tnum_nErr (fun b hb => hb) HT2.out).mono ?_; rintro e w3 ⟨ho3, ht3, rfl⟩; rw [show (pBad l [nErr] || badG (pV l) nErr 3) = _ from HBB.out.symm] at ht3; rw [show ((getB (pV l) nErr).getD JV0).num = n from HN.out.symm]; have HO3 := Lib.hid ho3; obtain ⟨hc5, hz5, hg5⟩ := ht3.cell5; have HT3 := Lib.hid ht3; clear ho3 ht3 hg5)
        | (go_at_call 47; refine (told_errno (HT3.out.putb _ (fun b hb => hb))).mono ?_; rintro e w4 ⟨ho4, rfl⟩; have HO4 := Lib.hid ho4; clear ho4))
      go_ret2
      refine HDO.out true _ _ (by rw [HQ.out]; rfl) ?_ rfl
      exact ((HO2.out.then HO3.out (fun i hi e => by have := HG.out; omega)).setCell (fun e => by have := HG.out; simp at e; omega) _).trans HO4.out
  · have qn : decide ((2147483647 : Int) < (n : Int)) = false := by simp; omega
    have hsm : (n : Int) ≤ 2147483647 := by omega
    have HQ := Lib.hid (decide_eq_false hb)
    clear hb
    cases bb
    all_goals
      go_enter Tryz.func17, Tryz.ntmps17
      go_wp2_with (first
        | (go_at_call 26; refine (mp_err HI.out HC.out).mono ?_; rintro e w2 ⟨ho2, g, rfl, hg, ht2⟩; have HO2 := Lib.hid (((Only.refl _ w).alloc _).trans ho2); have HT2 := Lib.hid ht2; have HG := Lib.hid (show w.heap.size ≤ g by have := hg; simp at this; omega); clear ho2 hg ht2)
        | (go_at_call 28; refine (tnum_nErr (fun b hb => hb) HT2.out).mono ?_; rintro e w3 ⟨ho3, ht3, rfl⟩; rw [show (pBad l [nErr] || badG (pV l) nErr 3) = _ from HBB.out.symm] at ht3; rw [show ((getB (pV l) nErr).getD JV0).num = n from HN.out.symm]; have HO3 := Lib.hid ho3; obtain ⟨hc5, hz5, hg5⟩ := ht3.cell5; have HT3 := Lib.hid ht3; clear ho3 ht3 hg5)
        | (go_at_call 47; refine (told_errno (HT3.out.putb _ (fun b hb => hb))).mono ?_; rintro e w4 ⟨ho4, rfl⟩; have HO4 := Lib.hid ho4; clear ho4))
      go_ret2
    · refine HDO.out false _ _ (by rw [HQ.out]; rfl) ?_ rfl
      exact ((HO2.out.then HO3.out (fun i hi e => by have := HG.out; omega)).setCell (fun e => by have := HG.out; simp at e; omega) _).trans HO4.out
    · refine HDO.out true _ _ (by rw [HQ.out]; rfl) ?_ rfl
      exact ((HO2.out.then HO3.out (fun i hi e => by have := HG.out; omega)).setCell (fun e => by have := HG.out; simp at e; omega) _).trans HO4.out

def badP (l : Bytes) : Bool := pBad l [nIdx, nPath] || badG (pV l) nIdx 3 || badG (pV l) nPath 5 || eachBad okH' ((getB (pV l) nPath).getD JV0).list
def PrfTake (l : Bytes) (w : World) (e : Ending) (w' : World) : Prop :=
  Only (fun _ => False) w w' ∧ ∃ A c, e = .returned (.tuple #[.int .u64 (if badP l = true then 0 else (numL l nIdx : Int)), .slice A (if badP l = true then [] else elsL l nPath elH).length c, .int .i64 (if badP l = true then 5 else 0)]) ∧
    RowOwn ED 32 24 w.heap.size w' (.slice A (if badP l = true then [] else elsL l nPath elH).length c) (if badP l = true then [] else elsL l nPath elH)
theorem each_hash_nPath {X : Nat → Prop} {g : Nat} {v : JV} {bad : Bool} {w : World} (hX : ∀ b, X b → b ≠ g) (hT : TK X w g v bad) (hv : Small 1048576 v) :
    Calls Tryz.prog 39 #[.pointer (some ⟨g, 0, none⟩), .string ⟨#[97, 117, 100, 105, 116, 95, 112, 97, 116, 104]⟩, .func (.func 40) #[] #[]] w (EachAt ED 32 24 elH okH' X g v bad nPath w) :=
  each_hash (k := nPath) hX hT (by have := hv.keys; omega) (by have := hv.list; omega) (by have := (getB_small hv nPath).list; omega) (fun x hx => SmE.of ((getB_small hv nPath).mem hx))
set_option maxRecDepth 100000 in
set_option maxHeartbeats 1600000 in
theorem takePrf_any {A : Option Addr} {c : Nat} {l : Bytes} {w : World} (hI : Inp w A l) (hcap : l.length ≤ c) :
    Calls Tryz.prog 12 #[.slice A l.length c] w (PrfTake l w) := by
  have HI := Lib.hid hI
  have HC := Lib.hid hcap
  obtain ⟨bb, hbb⟩ : ∃ bb, bb = badP l := ⟨_, rfl⟩
  have HBB := Lib.hid hbb
  have HDO := Lib.hid (show ∀ e w', (Only (fun _ => False) w w' ∧ ∃ A c, e = .returned (.tuple #[.int .u64 (if bb = true then 0 else (numL l nIdx : Int)), .slice A (if bb = true then [] else elsL l nPath elH).length c, .int .i64 (if bb = true then 5 else 0)]) ∧
    RowOwn ED 32 24 w.heap.size w' (.slice A (if bb = true then [] else elsL l nPath elH).length c) (if bb = true then [] else elsL l nPath elH)) → PrfTake l w e w' from fun e w' h => by unfold PrfTake; rw [← hbb]; exact h)
  clear hI hcap hbb
  cases bb
  all_goals
    go_enter Tryz.func12, Tryz.ntmps12
    go_wp2_with (first
      | (go_at_call 26; refine (mp_proof HI.out HC.out).mono ?_; rintro e w2 ⟨ho2, g, rfl, hg, ht2⟩; have HO2 := Lib.hid (((Only.refl _ w).alloc _).trans ho2); have HT2 := Lib.hid ht2; have HG := Lib.hid (show w.heap.size ≤ g by have := hg; simp at this; omega); clear ho2 hg ht2)
      | (go_at_call 28; refine (tnum_nIdx (fun b hb => hb) HT2.out).mono ?_; rintro e w3 ⟨ho3, ht3, rfl⟩; rw [show ((getB (pV l) nIdx).getD JV0).num = numL l nIdx from rfl]; have HO3 := Lib.hid ho3; have HT3 := Lib.hid ht3; clear ho3 ht3)
      | (go_at_call 39; refine (each_hash_nPath (fun b hb => hb) HT3.out (pV_small l)).mono ?_; rintro e w4 ⟨ho4, ht4, rv, rfl, hr4⟩; rw [show (pBad l [nIdx, nPath] || badG (pV l) nIdx 3 || badG (pV l) nPath 5 || eachBad okH' ((getB (pV l) nPath).getD JV0).list) = _ from HBB.out.symm] at ht4; obtain ⟨A4, c4, rfl⟩ := hr4.form; have HO4 := Lib.hid ho4; have HT4 := Lib.hid ht4; have HR4 := Lib.hid hr4; clear ho4 ht4 hr4)
      | (go_at_call 41; refine (told_digests HT4.out).mono ?_; rintro e w5 ⟨ho5, rfl⟩; have HO5 := Lib.hid ho5; obtain ⟨hc5, hz5, hg5⟩ := (HT4.out.keep ho5).cell5; clear ho5 hz5 hg5))
    have o3 : Only (fun _ => False) w w3 := HO2.out.then HO3.out (fun i hi e => by have := HG.out; omega)
    have o4 : Only (fun _ => False) w w4 := o3.then HO4.out (fun i hi e => by have := HG.out; omega)
    go_ret3
  · refine HDO.out _ _ ⟨o4.trans HO5.out, A4, c4, by simp [elsL], ?_⟩
    have h := (HR4.out.only encD HO5.out (fun _ _ _ => id)).mono encD o3.size
    simpa [elsL] using h
  · exact HDO.out _ _ ⟨o4.trans HO5.out, none, 0, rfl, RowOwn.nil _ _ _⟩
end Go.Proofs.YtjehnejgojgahaaGreatDoor

/- T16 -/
namespace Go.Proofs.YtjehnejgojgahaaGreatDoor
open Go.RowKit
set_option linter.unusedVariables false
set_option linter.unusedSimpArgs false

theorem fold_off (l : List Value) (off : Nat) : ∀ (k : Nat) (arr : Array Value), off + k + l.length ≤ arr.size → ((l.zipIdx k).foldl (fun (cs : Array Value) (x : Value × Nat) => cs.setIfInBounds (off + x.2) x.1) arr).toList = arr.toList.take (off + k) ++ l ++ arr.toList.drop (off + k + l.length) := by
  induction l with
  | nil => intro k arr h; simp
  | cons v l ih =>
    intro k arr h
    rw [List.zipIdx_cons, List.foldl_cons, ih (k + 1) _ (by simp at h ⊢; omega)]
    simp only [Array.toList_setIfInBounds]
    simp only [List.length_cons] at h
    have hk : off + k < arr.toList.length := by simp; omega
    rw [List.set_eq_take_append_cons_drop, if_pos hk, List.take_append, List.take_take, List.length_take, Nat.min_eq_right (by omega), Nat.min_eq_left (Nat.le_of_lt hk)]
    rw [show off + (k + 1) - (off + k) = 0 + 1 by omega, List.take_succ_cons, List.take_zero]
    rw [List.drop_append, List.length_take, Nat.min_eq_left (Nat.le_of_lt hk), List.drop_eq_nil_of_le (by rw [List.length_take]; omega), List.nil_append]
    rw [show off + (k + 1) + l.length - (off + k) = l.length + 1 by omega, List.drop_succ_cons, List.drop_drop]
    simp only [List.append_assoc, List.cons_append, List.nil_append, List.length_cons]
    rw [show off + k + 1 + l.length = off + k + (l.length + 1) by omega]
theorem fill_step {place : Nat → Option (Nat × Nat)} {pre zs cs : List Value} {i off size : Nat} {v : Value} {rest : List (Nat × Value)} (hv : v.cells = cs.toArray) (hp : place i = some (off, size)) (hs : cs.length = size) (ho : pre.length = off) (hb : size ≤ zs.length) :
    Instr.fill place (pre ++ zs).toArray ((i, v) :: rest) = Instr.fill place ((pre ++ cs) ++ zs.drop size).toArray rest := by
  subst hs
  subst ho
  rw [Instr.fill]
  simp only [hp, hv]
  rw [if_neg (by simp; omega)]
  congr 1
  apply Array.toList_inj.1
  rw [← Array.foldl_toList]
  simp only [Array.toList_zipIdx]
  rw [fold_off cs pre.length 0 (pre ++ zs).toArray (by simp; omega)]
  simp [List.drop_append]
theorem built_struct {P : Program} {t : TypeId} {fields : Array Field} {it : TypeInfo} {z : Value} {places : List (Nat × Nat)} {parts : List (Nat × Value)} (hi : P.info? t = some it) (hu : P.underlying t = some (.struct fields)) (hz : it.zero = some z)
    (hp : fields.toList.mapM (fun f => (P.info? f.type).map fun i => (f.offset, i.size)) = some places) : P.built t parts = Instr.fill (places.toArray[·]?) z.cells parts := by
  unfold Program.built
  rw [hi, hu]
  simp only [hz, hp]
def headC (n m : Int) (r s : Bytes) : List Value := .int .u64 n :: .int .u64 m :: (u8s r ++ u8s s)
def sctC (i : Bytes) (n : Int) (s : Bytes) : List Value := u8s i ++ .int .u64 n :: u8s s
theorem headC_len {n m : Int} {r s : Bytes} (hr : r.length = 32) (hs : s.length = 64) : (headC n m r s).length = 98 := by
  unfold headC; simp [u8s_length, hr, hs]
theorem sctC_len {n : Int} {r s : Bytes} (hr : r.length = 32) (hs : s.length = 64) : (sctC r n s).length = 97 := by
  unfold sctC; simp [u8s_length, hr, hs]
theorem headC_one (n m : Int) (r s : Bytes) : (headC n m r s).all (·.oneCell') = true := by
  unfold headC; simp only [List.all_cons, List.all_append, u8s_one]; rfl
theorem sctC_one (n : Int) (r s : Bytes) : (sctC r n s).all (·.oneCell') = true := by
  unfold sctC; simp only [List.all_cons, List.all_append, u8s_one]; rfl
theorem built35 {n m : Int} {r s : Bytes} (hr : r.length = 32) (hs : s.length = 64) : Tryz.prog.built 35 [(0, .int .u64 n), (1, .int .u64 m), (2, .agg (u8s r).toArray), (3, .agg (u8s s).toArray)] = some (headC n m r s).toArray := by
  obtain ⟨it, hi, hz⟩ := Option.bind_eq_some_iff.1 zero35
  rw [built_struct (places := [(0, 1), (1, 1), (2, 32), (34, 64)]) hi Tryz.underlying35 hz (by kernel_rfl)]
  have hl := zc35_len
  show Instr.fill _ ([] ++ zc35).toArray _ = _
  rw [fill_step (cs := [.int .u64 n]) (off := 0) (size := 1) rfl rfl rfl rfl (by rw [hl]; decide)]
  rw [fill_step (cs := [.int .u64 m]) (off := 1) (size := 1) rfl rfl rfl rfl (by rw [List.length_drop, hl]; decide)]
  rw [fill_step (cs := u8s r) (off := 2) (size := 32) rfl rfl (by rw [u8s_length, hr]) rfl (by rw [List.length_drop, List.length_drop, hl]; decide)]
  rw [fill_step (cs := u8s s) (off := 34) (size := 64) rfl rfl (by rw [u8s_length, hs]) (by simp [u8s_length, hr]) (by rw [List.length_drop, List.length_drop, List.length_drop, hl]; decide)]
  rw [Instr.fill, List.drop_eq_nil_of_le (by rw [List.length_drop, List.length_drop, List.length_drop, hl]; decide)]
  unfold headC
  simp
theorem built28 {n : Int} {r s : Bytes} (hr : r.length = 32) (hs : s.length = 64) : Tryz.prog.built 28 [(0, .agg (u8s r).toArray), (1, .int .u64 n), (2, .agg (u8s s).toArray)] = some (sctC r n s).toArray := by
  obtain ⟨it, hi, hz⟩ := Option.bind_eq_some_iff.1 zero28
  rw [built_struct (places := [(0, 32), (32, 1), (33, 64)]) hi Tryz.underlying28 hz (by kernel_rfl)]
  have hl := zc28_len
  show Instr.fill _ ([] ++ zc28).toArray _ = _
  rw [fill_step (cs := u8s r) (off := 0) (size := 32) rfl rfl (by rw [u8s_length, hr]) rfl (by rw [hl]; decide)]
  rw [fill_step (cs := [.int .u64 n]) (off := 32) (size := 1) rfl rfl rfl (by simp [u8s_length, hr]) (by rw [List.length_drop, hl]; decide)]
  rw [fill_step (cs := u8s s) (off := 33) (size := 64) rfl rfl (by rw [u8s_length, hs]) (by simp [u8s_length, hr]) (by rw [List.length_drop, List.length_drop, hl]; decide)]
  rw [Instr.fill, List.drop_eq_nil_of_le (by rw [List.length_drop, List.length_drop, hl]; decide)]
  unfold sctC
  simp
end Go.Proofs.YtjehnejgojgahaaGreatDoor

/- T17 -/
namespace Go.Proofs.YtjehnejgojgahaaGreatDoor
open Go.RowKit
set_option linter.unusedVariables false
set_option linter.unusedSimpArgs false

theorem wpList_buildP {P : Program} {ops : Array Oper} {rest : List Oper} {o : Oper} {a : Act} {w : World} {Q : Exit → Act → World → Prop} (hgd : o.guard = none) (ty : TypeId) (parts : Array (Nat × Operand)) (ho : o.op = .build ty parts) {cs : List Value} {pl : List (Nat × Value)} (hz : P.built ty pl = some cs.toArray) (hp : (parts.map fun (i, x) => (i, a.eval x)).toList = pl)
    (h : wpList P ops Q rest (a.put o.dst (.agg cs.toArray)) w) : wpList P ops Q (o :: rest) a w := by
  refine wpList_build hgd ty parts ho (by rw [hp, hz]; rfl) ?_
  rw [hp, hz]
  exact h
theorem tnum_nSize {X : Nat → Prop} {g : Nat} {l : Bytes} {bad : Bool} {w : World} (hX : ∀ b, X b → b ≠ g) (hT : TK X w g (pV l) bad) :
    Calls Tryz.prog 28 #[.pointer (some ⟨g, 0, none⟩), .string ⟨#[116, 114, 101, 101, 95, 115, 105, 122, 101]⟩] w (TNumAt X g (pV l) bad nSize w) := tnum_any (k := nSize) hX hT (by have := (pV_small l).keys; omega) (by have := (pV_small l).list; omega)
theorem tnum_nTime {X : Nat → Prop} {g : Nat} {l : Bytes} {bad : Bool} {w : World} (hX : ∀ b, X b → b ≠ g) (hT : TK X w g (pV l) bad) :
    Calls Tryz.prog 28 #[.pointer (some ⟨g, 0, none⟩), .string ⟨#[116, 105, 109, 101, 115, 116, 97, 109, 112]⟩] w (TNumAt X g (pV l) bad nTime w) := tnum_any (k := nTime) hX hT (by have := (pV_small l).keys; omega) (by have := (pV_small l).list; omega)
theorem thash_nRoot {X : Nat → Prop} {g : Nat} {l : Bytes} {bad : Bool} {w : World} (hX : ∀ b, X b → b ≠ g) (hT : TK X w g (pV l) bad) :
    Calls Tryz.prog 27 #[.pointer (some ⟨g, 0, none⟩), .string ⟨#[115, 104, 97, 50, 53, 54, 95, 114, 111, 111, 116, 95, 104, 97, 115, 104]⟩] w (THashAt X g (pV l) bad nRoot w) := thash_any (k := nRoot) hX hT (by have := (pV_small l).keys; omega) (by have := (pV_small l).list; omega) (by have := (getB_small (pV_small l) nRoot).str; omega)
theorem tsig_nHsig {X : Nat → Prop} {g : Nat} {l : Bytes} {bad : Bool} {w : World} (hX : ∀ b, X b → b ≠ g) (hT : TK X w g (pV l) bad) :
    Calls Tryz.prog 29 #[.pointer (some ⟨g, 0, none⟩), .string ⟨#[116, 114, 101, 101, 95, 104, 101, 97, 100, 95, 115, 105, 103, 110, 97, 116, 117, 114, 101]⟩] w (TSigAt X g (pV l) bad nHsig w) := tsig_any (k := nHsig) hX hT (by have := (pV_small l).keys; omega) (by have := (pV_small l).list; omega) (by have := (getB_small (pV_small l) nHsig).str; omega)
theorem tnum_nVer {X : Nat → Prop} {g : Nat} {l : Bytes} {bad : Bool} {w : World} (hX : ∀ b, X b → b ≠ g) (hT : TK X w g (pV l) bad) :
    Calls Tryz.prog 28 #[.pointer (some ⟨g, 0, none⟩), .string ⟨#[115, 99, 116, 95, 118, 101, 114, 115, 105, 111, 110]⟩] w (TNumAt X g (pV l) bad nVer w) := tnum_any (k := nVer) hX hT (by have := (pV_small l).keys; omega) (by have := (pV_small l).list; omega)
theorem thash_nId {X : Nat → Prop} {g : Nat} {l : Bytes} {bad : Bool} {w : World} (hX : ∀ b, X b → b ≠ g) (hT : TK X w g (pV l) bad) :
    Calls Tryz.prog 27 #[.pointer (some ⟨g, 0, none⟩), .string ⟨#[105, 100]⟩] w (THashAt X g (pV l) bad nId w) := thash_any (k := nId) hX hT (by have := (pV_small l).keys; omega) (by have := (pV_small l).list; omega) (by have := (getB_small (pV_small l) nId).str; omega)
theorem tsig_nSig {X : Nat → Prop} {g : Nat} {l : Bytes} {bad : Bool} {w : World} (hX : ∀ b, X b → b ≠ g) (hT : TK X w g (pV l) bad) :
    Calls Tryz.prog 29 #[.pointer (some ⟨g, 0, none⟩), .string ⟨#[115, 105, 103, 110, 97, 116, 117, 114, 101]⟩] w (TSigAt X g (pV l) bad nSig w) := tsig_any (k := nSig) hX hT (by have := (pV_small l).keys; omega) (by have := (pV_small l).list; omega) (by have := (getB_small (pV_small l) nSig).str; omega)
theorem tbytes_nExt {X : Nat → Prop} {g : Nat} {l : Bytes} {bad : Bool} {w : World} (hX : ∀ b, X b → b ≠ g) (hT : TK X w g (pV l) bad) :
    Calls Tryz.prog 30 #[.pointer (some ⟨g, 0, none⟩), .string ⟨#[101, 120, 116, 101, 110, 115, 105, 111, 110, 115]⟩] w (TBytAt X g (pV l) bad nExt w) := tbytes_any (k := nExt) hX hT (by have := (pV_small l).keys; omega) (by have := (pV_small l).list; omega) (by have := (getB_small (pV_small l) nExt).str; omega)

def bsL (l : Bytes) (k : Bytes) : Bytes := (bytesB (pV l) k).getD []
def badHash (l : Bytes) (k : Bytes) : Bool := badG (pV l) k 4 || (bytesB (pV l) k).isNone || !decide ((bsL l k).length = 32)
def badSig (l : Bytes) (k : Bytes) : Bool := badG (pV l) k 4 || (bytesB (pV l) k).isNone || !markB (bsL l k)
def badHd (l : Bytes) : Bool := pBad l [nSize, nTime, nRoot, nHsig] || badG (pV l) nSize 3 || badG (pV l) nTime 3 || badG (pV l) nRoot 4 || (bytesB (pV l) nRoot).isNone || !decide (((bytesB (pV l) nRoot).getD []).length = 32) || badG (pV l) nHsig 4 || (bytesB (pV l) nHsig).isNone || !markB ((bytesB (pV l) nHsig).getD [])
def hdL (l : Bytes) : List Value := headC (numL l nSize) (numL l nTime) (digB (bsL l nRoot)) (sigB (bsL l nHsig))
def HdTake (l : Bytes) (w : World) (e : Ending) (w' : World) : Prop :=
  Only (fun _ => False) w w' ∧ e = .returned (.tuple #[.agg (if badHd l = true then zc35 else hdL l).toArray, .int .i64 (if badHd l = true then 5 else 0)])
theorem hdL_len (l : Bytes) : (hdL l).length = 98 := headC_len (digB_length _) (sigB_length _)
theorem hdL_one (l : Bytes) : (hdL l).all (·.oneCell') = true := headC_one _ _ _ _
theorem hdL_built (l : Bytes) : Tryz.prog.built 35 [(0, .int .u64 (numL l nSize)), (1, .int .u64 (numL l nTime)), (2, .agg (u8s (digB (bsL l nRoot))).toArray), (3, .agg (u8s (sigB (bsL l nHsig))).toArray)] = some (hdL l).toArray := built35 (digB_length _) (sigB_length _)
set_option maxRecDepth 100000 in
set_option maxHeartbeats 3200000 in
theorem takeHd_any {A : Option Addr} {c : Nat} {l : Bytes} {w : World} (hI : Inp w A l) (hcap : l.length ≤ c) :
    Calls Tryz.prog 7 #[.slice A l.length c] w (HdTake l w) := by
  have HI := Lib.hid hI
  have HC := Lib.hid hcap
  obtain ⟨bb, hbb⟩ : ∃ bb, bb = badHd l := ⟨_, rfl⟩
  have HBB := Lib.hid hbb
  have HDO := Lib.hid (show ∀ e w', (Only (fun _ => False) w w' ∧ e = .returned (.tuple #[.agg (if bb = true then zc35 else hdL l).toArray, .int .i64 (if bb = true then 5 else 0)])) → HdTake l w e w' from fun e w' h => by unfold HdTake; rw [← hbb]; exact h)
  have HQL := Lib.hid (show (if bb = true then zc35 else hdL l).length = 98 from by split; exact zc35_len; exact hdL_len l)
  have HQ1 := Lib.hid (show (if bb = true then zc35 else hdL l).all (·.oneCell') = true from by split; exact zc35_one; exact hdL_one l)
  clear hI hcap hbb
  go_enter Tryz.func7, Tryz.ntmps7
  go_upto_region 3 with (first
    | (refine wpList_alloc_blk rfl 35 2 rfl rfl zero35 ?_; intro w1 hb1 ho1 hs1; have HR1 := Lib.hid hb1; have HO1 := Lib.hid ho1; have HS1 := Lib.hid hs1; clear hb1 ho1 hs1; generalize hH1 : w.heap.size = Hr at HR1 HS1 ⊢; have HH1 := Lib.hid hH1; clear hH1)
    | (go_at_call 26; refine (mp_head (HI.out.keep HO1.out) HC.out).mono ?_; rintro e w2 ⟨ho2, g, rfl, hg, ht2⟩; have HO2 := Lib.hid (((Only.refl _ w1).alloc _).trans ho2); have HT2 := Lib.hid ht2; have HG := Lib.hid (show w1.heap.size ≤ g by have := hg; simp at this; omega); clear ho2 hg ht2)
    | (go_at_call 29; refine (tsig_nHsig (fun b hb => hb) HT5.out).mono ?_; rintro e w6 ⟨ho6, ht6, rfl⟩; rw [show (pBad l [nSize, nTime, nRoot, nHsig] || badG (pV l) nSize 3 || badG (pV l) nTime 3 || badG (pV l) nRoot 4 || (bytesB (pV l) nRoot).isNone || !decide (((bytesB (pV l) nRoot).getD []).length = 32) || badG (pV l) nHsig 4 || (bytesB (pV l) nHsig).isNone || !markB ((bytesB (pV l) nHsig).getD [])) = _ from HBB.out.symm] at ht6; have HO6 := Lib.hid ho6; have HT6 := Lib.hid ht6; clear ho6 ht6)
    | (go_at_call 27; refine (thash_nRoot (fun b hb => hb) HT4.out).mono ?_; rintro e w5 ⟨ho5, ht5, rfl⟩; have HO5 := Lib.hid ho5; have HT5 := Lib.hid ht5; clear ho5 ht5)
    | (go_at_call 28; refine (tnum_nTime (fun b hb => hb) HT3.out).mono ?_; rintro e w4 ⟨ho4, ht4, rfl⟩; have HO4 := Lib.hid ho4; have HT4 := Lib.hid ht4; clear ho4 ht4)
    | (go_at_call 28; refine (tnum_nSize (fun b hb => hb) HT2.out).mono ?_; rintro e w3 ⟨ho3, ht3, rfl⟩; have HO3 := Lib.hid ho3; have HT3 := Lib.hid ht3; clear ho3 ht3)
    | (refine wpList_buildP rfl 35 _ rfl (hdL_built l) (by simp [Act.eval, numL, bsL]) ?_)
    | (refine wpList_alloc_blk rfl 35 5 rfl rfl zero35 ?_; intro w7 hb7 ho7 hs7; have HB7 := Lib.hid hb7; have HO7 := Lib.hid ho7; clear hb7 ho7 hs7; generalize hH7 : w6.heap.size = Ht at HB7 ⊢; have HH7 := Lib.hid hH7; clear hH7)
    | (refine wpList_store_blk (cs := hdL l) rfl 35 (.tmp 5) (.tmp 17) rfl rfl rfl rfl HB7.out (zc35_len.trans (hdL_len l).symm) (info35s (hdL_len l)) (hdL_one l) ?_; intro w8 hb8 ho8; have HB8 := Lib.hid hb8; have HO8 := Lib.hid ((HO7.out.then ho8 (G := fun _ => False) (fun i hi e => by have := HH7.out; omega))); clear hb8 ho8))
  have HT8 := Lib.hid (HT6.out.keep HO8.out)
  have HNG := Lib.hid (show ¬ (Hr = g) from fun e => by have := HS1.out; have := HG.out; omega)
  go_wp2_with (first
    | (refine wpList_load_blk (cs := hdL l) rfl 35 (.tmp 5) rfl rfl HB8.out agg35 (info35s (hdL_len l)) ?_)
    | (go_at_call 38; refine (told_head HT8.out (hdL_len l) (hdL_one l)).mono ?_; rintro e w9 ⟨ho9, rfl⟩; have HO9 := Lib.hid ho9; clear ho9; rw [show (if bb = true then Value.agg zc35.toArray else Value.agg (hdL l).toArray) = Value.agg (if bb = true then zc35 else hdL l).toArray from by cases bb <;> rfl]; generalize hq : (if bb = true then zc35 else hdL l) = qq at HQL HQ1 HDO ⊢; clear hq)
    | (refine wpList_store_blk (cs := qq) rfl 35 (.tmp 2) (.tmp 21) rfl rfl rfl rfl (((((((((HR1.out.only HO2.out id).only HO3.out (HNG.out)).only HO4.out HNG.out).only HO5.out HNG.out).only HO6.out HNG.out).only HO8.out id)).only HO9.out id)) (zc35_len.trans HQL.out.symm) (info35s HQL.out) HQ1.out ?_; intro w10 hb10 ho10; have HB10 := Lib.hid hb10; have HO10 := Lib.hid ho10; clear hb10 ho10))
  all_goals
    refine bodyPost_ret (ret_cell_tmp rfl rfl HB10.out agg35 (info35s HQL.out)) rfl ?_
    have s1 := HO1.out.size
    have hg := HG.out
    have o2 : Only (fun _ => False) w w2 := HO1.out.trans HO2.out
    have o3 : Only (fun _ => False) w w3 := o2.then HO3.out (fun i hi e => by omega)
    have o4 : Only (fun _ => False) w w4 := o3.then HO4.out (fun i hi e => by omega)
    have o5 : Only (fun _ => False) w w5 := o4.then HO5.out (fun i hi e => by omega)
    have o6 : Only (fun _ => False) w w6 := o5.then HO6.out (fun i hi e => by omega)
    have o9 : Only (fun _ => False) w w9 := (o6.trans HO8.out).trans HO9.out
    exact HDO.out _ _ ⟨o9.then HO10.out (fun i hi e => by have := HH1.out; omega), by simp_all⟩
end Go.Proofs.YtjehnejgojgahaaGreatDoor

/- T18 -/
namespace Go.Proofs.YtjehnejgojgahaaGreatDoor
open Go.RowKit
set_option linter.unusedVariables false
set_option linter.unusedSimpArgs false

def bad3 (l : Bytes) : Bool := pBad l [nVer, nId, nTime, nExt, nSig] || badG (pV l) nId 4 || (bytesB (pV l) nId).isNone || !decide (((bytesB (pV l) nId).getD []).length = 32) || badG (pV l) nTime 3 || badG (pV l) nSig 4 || (bytesB (pV l) nSig).isNone || !markB ((bytesB (pV l) nSig).getD [])
def badSct (l : Bytes) : Bool := bad3 l || badG (pV l) nVer 3 || decide (numL l nVer ≠ 0) || badG (pV l) nExt 4 || (bytesB (pV l) nExt).isNone || decide (0 < (bsL l nExt).length)
def sctL (l : Bytes) : List Value := sctC (digB (bsL l nId)) (numL l nTime) (sigB (bsL l nSig))
def SctTake (l : Bytes) (w : World) (e : Ending) (w' : World) : Prop :=
  Only (fun _ => False) w w' ∧ e = .returned (.tuple #[.agg (if badSct l = true then zc28 else sctL l).toArray, .int .i64 (if badSct l = true then 5 else 0)])
theorem sctL_len (l : Bytes) : (sctL l).length = 97 := sctC_len (digB_length _) (sigB_length _)
theorem sctL_one (l : Bytes) : (sctL l).all (·.oneCell') = true := sctC_one _ _ _
theorem sctL_built (l : Bytes) : Tryz.prog.built 28 [(0, .agg (u8s (digB (bsL l nId))).toArray), (1, .int .u64 (numL l nTime)), (2, .agg (u8s (sigB (bsL l nSig))).toArray)] = some (sctL l).toArray := built28 (digB_length _) (sigB_length _)
set_option maxRecDepth 100000 in
set_option maxHeartbeats 6400000 in
theorem takeSct_any {A : Option Addr} {c : Nat} {l : Bytes} {w : World} (hI : Inp w A l) (hcap : l.length ≤ c) :
    Calls Tryz.prog 5 #[.slice A l.length c] w (SctTake l w) := by
  have HI := Lib.hid hI
  have HC := Lib.hid hcap
  obtain ⟨bb, hbb⟩ : ∃ bb, bb = badSct l := ⟨_, rfl⟩
  have HBB := Lib.hid hbb
  have HDO := Lib.hid (show ∀ e w', (Only (fun _ => False) w w' ∧ e = .returned (.tuple #[.agg (if bb = true then zc28 else sctL l).toArray, .int .i64 (if bb = true then 5 else 0)])) → SctTake l w e w' from fun e w' h => by unfold SctTake; rw [← hbb]; exact h)
  have HQL := Lib.hid (show (if bb = true then zc28 else sctL l).length = 97 from by split; exact zc28_len; exact sctL_len l)
  have HQ1 := Lib.hid (show (if bb = true then zc28 else sctL l).all (·.oneCell') = true from by split; exact zc28_one; exact sctL_one l)
  clear hI hcap hbb
  go_enter Tryz.func5, Tryz.ntmps5
  go_upto_region 3 with (first
    | (refine wpList_alloc_blk rfl 28 2 rfl rfl zero28 ?_; intro w1 hb1 ho1 hs1; have HR1 := Lib.hid hb1; have HO1 := Lib.hid ho1; have HS1 := Lib.hid hs1; clear hb1 ho1 hs1; generalize hH1 : w.heap.size = Hr at HR1 HS1 ⊢; have HH1 := Lib.hid hH1; clear hH1)
    | (go_at_call 26; refine (mp_sct (HI.out.keep HO1.out) HC.out).mono ?_; rintro e w2 ⟨ho2, g, rfl, hg, ht2⟩; have HO2 := Lib.hid (((Only.refl _ w1).alloc _).trans ho2); have HT2 := Lib.hid ht2; have HG := Lib.hid (show w1.heap.size ≤ g by have := hg; simp at this; omega); clear ho2 hg ht2)
    | (go_at_call 29; refine (tsig_nSig (fun b hb => hb) HT4.out).mono ?_; rintro e w5 ⟨ho5, ht5, rfl⟩; rw [show (pBad l [nVer, nId, nTime, nExt, nSig] || badG (pV l) nId 4 || (bytesB (pV l) nId).isNone || !decide (((bytesB (pV l) nId).getD []).length = 32) || badG (pV l) nTime 3 || badG (pV l) nSig 4 || (bytesB (pV l) nSig).isNone || !markB ((bytesB (pV l) nSig).getD [])) = bad3 l from rfl] at ht5; have HO5 := Lib.hid ho5; have HT5 := Lib.hid ht5; clear ho5 ht5)
    | (go_at_call 28; refine (tnum_nTime (fun b hb => hb) HT3.out).mono ?_; rintro e w4 ⟨ho4, ht4, rfl⟩; have HO4 := Lib.hid ho4; have HT4 := Lib.hid ht4; clear ho4 ht4)
    | (go_at_call 27; refine (thash_nId (fun b hb => hb) HT2.out).mono ?_; rintro e w3 ⟨ho3, ht3, rfl⟩; have HO3 := Lib.hid ho3; have HT3 := Lib.hid ht3; clear ho3 ht3)
    | (refine wpList_buildP rfl 28 _ rfl (sctL_built l) (by simp [Act.eval, numL, bsL]) ?_)
    | (refine wpList_alloc_blk rfl 28 5 rfl rfl zero28 ?_; intro w7 hb7 ho7 hs7; have HB7 := Lib.hid hb7; have HO7 := Lib.hid ho7; clear hb7 ho7 hs7; generalize hH7 : w5.heap.size = Ht at HB7 ⊢; have HH7 := Lib.hid hH7; clear hH7)
    | (refine wpList_store_blk (cs := sctL l) rfl 28 (.tmp 5) (.tmp 15) rfl rfl rfl rfl HB7.out (zc28_len.trans (sctL_len l).symm) (info28s (sctL_len l)) (sctL_one l) ?_; intro w8 hb8 ho8; have HB8 := Lib.hid hb8; have HO8 := Lib.hid ((HO7.out.then ho8 (G := fun _ => False) (fun i hi e => by have := HH7.out; omega))); clear hb8 ho8))
  have HT8 := Lib.hid (HT5.out.keep HO8.out)
  have hnr : ¬ (Hr = g) := fun e => by have := HS1.out; have := HG.out; omega
  have HNG := Lib.hid hnr
  have HLG := Lib.hid HT5.out.cell5.2.2
  have hnt : ¬ (Ht = g) := fun e => by have := HH7.out; have := HLG.out; omega
  have HNT := Lib.hid hnt
  clear hnr hnt
  have s1 := HO1.out.size
  have hg := HG.out
  have o2 : Only (fun _ => False) w w2 := HO1.out.trans HO2.out
  have o3 : Only (fun _ => False) w w3 := o2.then HO3.out (fun i hi e => by omega)
  have o4 : Only (fun _ => False) w w4 := o3.then HO4.out (fun i hi e => by omega)
  have o5 : Only (fun _ => False) w w5 := o4.then HO5.out (fun i hi e => by omega)
  have o8 : Only (fun _ => False) w w8 := o5.trans HO8.out
  have HO8w := Lib.hid o8
  have hgw : w.heap.size ≤ g := by omega
  have HGW := Lib.hid hgw
  have hr8 : Blk w8 Hr zc28 28 := ((((HR1.out.only HO2.out id).only HO3.out HNG.out).only HO4.out HNG.out).only HO5.out HNG.out).only HO8.out id
  have HR8 := Lib.hid hr8
  clear s1 hg o2 o3 o4 o5 o8 hgw hr8
  have hf2 := field79_2
  by_cases hv : numL l nVer = 0
  · obtain ⟨m, hm⟩ : ∃ m, m = (bsL l nExt).length := ⟨_, rfl⟩
    have HMM := Lib.hid hm
    obtain ⟨b9, hb9⟩ : ∃ b, b = (bad3 l || badG (pV l) nVer 3 || badG (pV l) nExt 4 || (bytesB (pV l) nExt).isNone) := ⟨_, rfl⟩
    have HB9 := Lib.hid hb9
    clear hb9
    have HV0 := Lib.hid hv
    by_cases hx : 0 < m
    · have qx : decide ((0 : Int) < (m : Int)) = true := by simp; omega
      have qx2 : decide (0 < m) = true := by simp; omega
      have hxz : (0 : Int) < (m : Int) := by omega
      have htr : true = bb := by rw [HBB.out]; unfold badSct; rw [← hm, decide_eq_true hx]; simp
      clear hv hm
      subst htr
      go_wp2_with (first
        | (go_at_call 30; refine (tbytes_nExt (fun b hb => hb) HT9.out).mono ?_; rintro e w10 ⟨ho10, ht10, A10, c10, rfl, hf10⟩; rw [show ((bytesB (pV l) nExt).getD []).length = _ from HMM.out.symm]; rw [show (bad3 l || badG (pV l) nVer 3 || badG (pV l) nExt 4 || (bytesB (pV l) nExt).isNone) = _ from HB9.out.symm] at ht10; have HO10 := Lib.hid ho10; obtain ⟨hc5, hz5, hg5⟩ := ht10.cell5; have HT10 := Lib.hid ht10; clear ho10 ht10 hf10 hg5)
        | (go_at_call 28; refine (tnum_nVer (fun b hb => hb) HT8.out).mono ?_; rintro e w9 ⟨ho9, ht9, rfl⟩; rw [show ((getB (pV l) nVer).getD JV0).num = numL l nVer from rfl]; rw [HV0.out]; have HO9 := Lib.hid ho9; have HT9 := Lib.hid ht9; clear ho9 ht9)
        | (refine wpList_load_blk (cs := sctL l) rfl 28 (.tmp 5) rfl rfl (((HB8.out.only HO9.out HNT.out).only HO10.out HNT.out).far (fun e => HNT.out (by simpa using e)) _) agg28 (info28s (sctL_len l)) ?_)
        | (go_at_call 31; refine (told_sct (HT10.out.putb _ (fun b hb => hb)) (sctL_len l) (sctL_one l)).mono ?_; rintro e w11 ⟨ho11, rfl⟩; have HO11 := Lib.hid ho11; clear ho11)
        | (refine wpList_store_blk (cs := zc28) rfl 28 (.tmp 2) (.tmp 37) rfl rfl rfl rfl (((((HR8.out.only HO9.out HNG.out).only HO10.out HNG.out).far (fun e => HNG.out (by simpa using e)) _)).only HO11.out id) (zc28_len.trans zc28_len.symm) (info28s zc28_len) zc28_one ?_; intro w12 hb12 ho12; have HB12 := Lib.hid hb12; have HO12 := Lib.hid ho12; clear hb12 ho12))
      refine bodyPost_ret (ret_cell_tmp rfl rfl HB12.out agg28 (info28s zc28_len)) rfl ?_
      have hg := HGW.out
      have o9 : Only (fun _ => False) w w9 := HO8w.out.then HO9.out (fun i hi e => by omega)
      have o10 : Only (fun _ => False) w w10 := o9.then HO10.out (fun i hi e => by omega)
      exact HDO.out _ _ ⟨((o10.setCell (fun e => by simp at e; omega) _).trans HO11.out).then HO12.out (fun i hi e => by have := HH1.out; omega), rfl⟩
    · obtain rfl : m = 0 := by omega
      have htr : b9 = bb := by rw [HBB.out, HB9.out]; unfold badSct; rw [← hm, hv]; simp
      clear hv hm hx
      subst htr
      cases b9 with
      | false =>
        go_wp2_with (first
          | (go_at_call 30; refine (tbytes_nExt (fun b hb => hb) HT9.out).mono ?_; rintro e w10 ⟨ho10, ht10, A10, c10, rfl, hf10⟩; rw [show ((bytesB (pV l) nExt).getD []).length = _ from HMM.out.symm]; rw [show (bad3 l || badG (pV l) nVer 3 || badG (pV l) nExt 4 || (bytesB (pV l) nExt).isNone) = _ from HB9.out.symm] at ht10; have HO10 := Lib.hid ho10; obtain ⟨hc5, hz5, hg5⟩ := ht10.cell5; have HT10 := Lib.hid ht10; clear ho10 ht10 hf10 hg5)
          | (go_at_call 28; refine (tnum_nVer (fun b hb => hb) HT8.out).mono ?_; rintro e w9 ⟨ho9, ht9, rfl⟩; rw [show ((getB (pV l) nVer).getD JV0).num = numL l nVer from rfl]; rw [HV0.out]; have HO9 := Lib.hid ho9; have HT9 := Lib.hid ht9; clear ho9 ht9)
          | (refine wpList_load_blk (cs := sctL l) rfl 28 (.tmp 5) rfl rfl (((HB8.out.only HO9.out HNT.out).only HO10.out HNT.out).far (fun e => HNT.out (by simpa using e)) _) agg28 (info28s (sctL_len l)) ?_)
          | (go_at_call 31; refine (told_sct (HT10.out.putb _ (fun b hb => hb)) (sctL_len l) (sctL_one l)).mono ?_; rintro e w11 ⟨ho11, rfl⟩; have HO11 := Lib.hid ho11; clear ho11)
          | (refine wpList_store_blk (cs := sctL l) rfl 28 (.tmp 2) (.tmp 37) rfl rfl rfl rfl (((((HR8.out.only HO9.out HNG.out).only HO10.out HNG.out).far (fun e => HNG.out (by simpa using e)) _)).only HO11.out id) (zc28_len.trans (sctL_len l).symm) (info28s (sctL_len l)) (sctL_one l) ?_; intro w12 hb12 ho12; have HB12 := Lib.hid hb12; have HO12 := Lib.hid ho12; clear hb12 ho12))
        refine bodyPost_ret (ret_cell_tmp rfl rfl HB12.out agg28 (info28s (sctL_len l))) rfl ?_
        have hg := HGW.out
        have o9 : Only (fun _ => False) w w9 := HO8w.out.then HO9.out (fun i hi e => by omega)
        have o10 : Only (fun _ => False) w w10 := o9.then HO10.out (fun i hi e => by omega)
        exact HDO.out _ _ ⟨((o10.setCell (fun e => by simp at e; omega) _).trans HO11.out).then HO12.out (fun i hi e => by have := HH1.out; omega), rfl⟩
      | true =>
        go_wp2_with (first
          | (go_at_call 30; refine (tbytes_nExt (fun b hb => hb) HT9.out).mono ?_; rintro e w10 ⟨ho10, ht10, A10, c10, rfl, hf10⟩; rw [show ((bytesB (pV l) nExt).getD []).length = _ from HMM.out.symm]; rw [show (bad3 l || badG (pV l) nVer 3 || badG (pV l) nExt 4 || (bytesB (pV l) nExt).isNone) = _ from HB9.out.symm] at ht10; have HO10 := Lib.hid ho10; obtain ⟨hc5, hz5, hg5⟩ := ht10.cell5; have HT10 := Lib.hid ht10; clear ho10 ht10 hf10 hg5)
          | (go_at_call 28; refine (tnum_nVer (fun b hb => hb) HT8.out).mono ?_; rintro e w9 ⟨ho9, ht9, rfl⟩; rw [show ((getB (pV l) nVer).getD JV0).num = numL l nVer from rfl]; rw [HV0.out]; have HO9 := Lib.hid ho9; have HT9 := Lib.hid ht9; clear ho9 ht9)
          | (refine wpList_load_blk (cs := sctL l) rfl 28 (.tmp 5) rfl rfl (((HB8.out.only HO9.out HNT.out).only HO10.out HNT.out).far (fun e => HNT.out (by simpa using e)) _) agg28 (info28s (sctL_len l)) ?_)
          | (go_at_call 31; refine (told_sct (HT10.out.putb _ (fun b hb => hb)) (sctL_len l) (sctL_one l)).mono ?_; rintro e w11 ⟨ho11, rfl⟩; have HO11 := Lib.hid ho11; clear ho11)
          | (refine wpList_store_blk (cs := zc28) rfl 28 (.tmp 2) (.tmp 37) rfl rfl rfl rfl (((((HR8.out.only HO9.out HNG.out).only HO10.out HNG.out).far (fun e => HNG.out (by simpa using e)) _)).only HO11.out id) (zc28_len.trans zc28_len.symm) (info28s zc28_len) zc28_one ?_; intro w12 hb12 ho12; have HB12 := Lib.hid hb12; have HO12 := Lib.hid ho12; clear hb12 ho12))
        refine bodyPost_ret (ret_cell_tmp rfl rfl HB12.out agg28 (info28s zc28_len)) rfl ?_
        have hg := HGW.out
        have o9 : Only (fun _ => False) w w9 := HO8w.out.then HO9.out (fun i hi e => by omega)
        have o10 : Only (fun _ => False) w w10 := o9.then HO10.out (fun i hi e => by omega)
        exact HDO.out _ _ ⟨((o10.setCell (fun e => by simp at e; omega) _).trans HO11.out).then HO12.out (fun i hi e => by have := HH1.out; omega), rfl⟩
  · have qv : ((numL l nVer : Int) != 0) = true := by simp; omega
    obtain ⟨m, hm⟩ : ∃ m, m = numL l nVer := ⟨_, rfl⟩
    rw [← hm] at qv
    have HV0 := Lib.hid hm.symm
    have htr : true = bb := by rw [HBB.out]; unfold badSct; rw [decide_eq_true hv]; simp
    clear hv hm
    subst htr
    go_wp2_with (first
      | (go_at_call 28; refine (tnum_nVer (fun b hb => hb) HT8.out).mono ?_; rintro e w9 ⟨ho9, ht9, rfl⟩; rw [show ((getB (pV l) nVer).getD JV0).num = numL l nVer from rfl]; rw [HV0.out]; have HO9 := Lib.hid ho9; have HT9 := Lib.hid ht9; obtain ⟨hc5, hz5, hg5⟩ := ht9.cell5; clear hg5; clear ho9 ht9)
      | (refine wpList_load_blk (cs := sctL l) rfl 28 (.tmp 5) rfl rfl ((HB8.out.only HO9.out HNT.out).far (fun e => HNT.out (by simpa using e)) _) agg28 (info28s (sctL_len l)) ?_)
      | (go_at_call 31; refine (told_sct (HT9.out.putb _ (fun b hb => hb)) (sctL_len l) (sctL_one l)).mono ?_; rintro e w11 ⟨ho11, rfl⟩; have HO11 := Lib.hid ho11; clear ho11)
      | (refine wpList_store_blk (cs := zc28) rfl 28 (.tmp 2) (.tmp 37) rfl rfl rfl rfl ((((HR8.out.only HO9.out HNG.out).far (fun e => HNG.out (by simpa using e)) _)).only HO11.out id) (zc28_len.trans zc28_len.symm) (info28s zc28_len) zc28_one ?_; intro w12 hb12 ho12; have HB12 := Lib.hid hb12; have HO12 := Lib.hid ho12; clear hb12 ho12))
    refine bodyPost_ret (ret_cell_tmp rfl rfl HB12.out agg28 (info28s zc28_len)) rfl ?_
    have hg := HGW.out
    have o9 : Only (fun _ => False) w w9 := HO8w.out.then HO9.out (fun i hi e => by omega)
    have o10 := o9
    exact HDO.out _ _ ⟨((o10.setCell (fun e => by simp at e; omega) _).trans HO11.out).then HO12.out (fun i hi e => by have := HH1.out; omega), rfl⟩
end Go.Proofs.YtjehnejgojgahaaGreatDoor

/- W0 -/
namespace Go.Proofs.YtjehnejgojgahaaGreatDoor
open Go.RowKit
set_option linter.unusedVariables false
set_option linter.unusedSimpArgs false

/-- What writing behind a row of bytes from block B on leaves. -/
structure WB (B : Nat) (w w' : World) : Prop where
  only : Only (B ≤ ·) w w'
  kept : Lib.OthersKept 5 none w w'
theorem WB.refl (B : Nat) (w : World) : WB B w w := ⟨Only.refl _ _, Lib.OthersKept.refl _ _ _⟩
theorem WB.trans {B : Nat} {a b c : World} (h : WB B a b) (k : WB B b c) : WB B a c := ⟨h.only.trans k.only, h.kept.trans k.kept⟩
theorem WB.grown {B : Nat} {w w' : World} {v : Value} {l : Bytes} (ho : OwnB w B v l) (hg : w.grownBy w' v.ownBlock) : WB B w w' := by
  refine ⟨(Only.ofGrown hg).mono (fun i hi e => (ho.lt i e).1), ?_⟩
  intro k o hk _ hno
  have hlt := (Array.getElem?_eq_some_iff.1 hk).1
  refine (hg.block k hlt ?_).trans hk
  intro e
  rcases ho.2 with ⟨hv, _⟩ | ⟨g, cap, cur, hv, hb, hgg, _⟩
  · rw [hv] at e; cases e
  · rw [hv] at e
    cases e
    rw [hk] at hgg
    cases hgg
    exact hno _ _ rfl
theorem WB.alloc {B : Nat} {w w' : World} (h : WB B w w') (o : Obj) : WB B w (w'.alloc o) :=
  ⟨h.only.alloc o, fun k ob hk hb hno => by
    have := h.kept k ob hk hb hno
    exact (Below.heap_alloc _ _ _ (Array.getElem?_eq_some_iff.1 this).1).trans this⟩
theorem WB.blk {B : Nat} {w w' : World} {g : Nat} {cs : List Value} {T : TypeId} (h : WB B w w') (hb : Blk w g cs T) (hT : T ≠ 5) : Blk w' g cs T :=
  h.kept g _ hb (by simp) (fun c fz e => by cases e; exact hT rfl)
theorem WB.of_false {B : Nat} {w w' : World} (h : Only (fun _ => False) w w') : WB B w w' :=
  ⟨h.mono (fun _ _ x => x.elim), fun k o hk _ _ => (h.block k (Array.getElem?_eq_some_iff.1 hk).1 id).trans hk⟩
def PlainT (t : Bytes) : Prop := ∀ x ∈ t, 32 ≤ x.toNat ∧ x ≠ 34 ∧ x ≠ 92
theorem info5e : (Tryz.prog.info? 5).map (fun i => (i.zero, i.size, i.bytes)) = some (some (.int .u8 0), 1, 1) := by kernel_rfl
/-- append(v, y), one byte; where the row lies afterwards. -/
theorem wpList_append_y {ops : Array Oper} {rest : List Oper} {o : Oper} {a : Act} {w : World} {Q : Exit → Act → World → Prop} (hgd : o.guard = none) (s x : Operand) (ho : o.op = .call { callee := .builtin .append, args := #[s, x], argTypes := #[22, 22] })
    {base : Nat} {v : Value} {l : Bytes} (hs : a.eval s = v) (hown : OwnB w base v l) {g c : Nat} {z : Int} (hx : a.eval x = .slice (some ⟨g, 0, none⟩) 1 c)
    {y : UInt8} (hz : z = y.toNat) (hnew : w.cell? ⟨g, 0, none⟩ = some (.int .u8 z)) (hlen : l.length + 1 ≤ 2 ^ 40) (hbase : base ≤ w.heap.size)
    (h : ∀ gg cap w', OwnB w' base (.slice (some ⟨gg, 0, none⟩) (l ++ [y]).length cap) (l ++ [y]) → w.grownBy w' v.ownBlock → (v.ownBlock = some gg ∨ gg = w.heap.size) → wpList Tryz.prog ops Q rest (a.put o.dst (.slice (some ⟨gg, 0, none⟩) (l ++ [y]).length cap)) w') : wpList Tryz.prog ops Q (o :: rest) a w := by
  obtain ⟨i0, hi, hz0, hz1, hz2⟩ := info_parts info5
  refine wpList_append_lies w hgd s x 22 ho base 5 i0 (.int .u8 0) 1 1 under22 hi hz0 hz1 hz2 rfl (by decide) v l.length (cellsB l) hs hown ⟨g, 0, none⟩ 1 c [.int .u8 z] hx rfl ?_ ?_ (by decide) (by unfold maxLen; omega) (by omega) hbase _ rfl ?_
  · intro j u hj
    cases j with
    | zero => simp at hj; subst hj; simpa [Addr.add] using hnew
    | succ j => simp at hj
  · intro u hu; simp at hu; subst hu; rfl
  · intro gg cap w' h1 h2 h3 _
    have e : (l ++ [y]).length = l.length + 1 := by simp
    have h' := h gg cap w'
    rw [e] at h'
    refine h' ?_ h2 h3
    subst hz
    unfold OwnB
    rw [e]
    have e2 : cellsB (l ++ [y]) = cellsB l ++ [.int .u8 y.toNat] := by unfold cellsB; simp
    rw [e2]
    exact h1
/-- []byte(s). -/
theorem wpList_bytes_of {ops : Array Oper} {rest : List Oper} {o : Oper} {a : Act} {w : World} {Q : Exit → Act → World → Prop} (hgd : o.guard = none) (x : Operand) (ho : o.op = .convert 9 22 x) {t : Bytes} (hx : a.eval x = .string ⟨t.toArray⟩)
    (h : ∀ cap w', BytesAt w' (some ⟨w.heap.size, 0, none⟩) t → Only (fun _ => False) w w' → w'.heap.size = w.heap.size + 1 → wpList Tryz.prog ops Q rest (a.put o.dst (.slice (some ⟨w.heap.size, 0, none⟩) t.length cap)) w') : wpList Tryz.prog ops Q (o :: rest) a w := by
  refine wpList_plain hgd fun K hK => ?_
  have hr := run_bytes_of_string (P := Tryz.prog) w 9 22 5 ⟨t.toArray⟩ under9 under22 under5
  unfold Oper.wp execOp
  simp only [ho, Sem.run_bind, hx, hr, Result.andThen_ok]
  refine hK _ _ ?_
  have hsz : (⟨t.toArray⟩ : ByteArray).size = t.length := by show t.toArray.size = _; simp
  rw [hsz]
  refine h _ _ ?_ (((Only.refl _ w).drew).alloc _) (by rw [World.size_alloc]; rfl)
  intro i y hy
  refine ⟨w.heap.size, 0, rfl, ?_⟩
  have hb : (w.drew.alloc (.cells (bytesRow ⟨t.toArray⟩ (grownCap w t.length 0 5)) 5 ((bytesRow ⟨t.toArray⟩ (grownCap w t.length 0 5)).size, (bytesRow ⟨t.toArray⟩ (grownCap w t.length 0 5)).size + 1))).heap[w.heap.size]? = some (.cells (bytesRow ⟨t.toArray⟩ (grownCap w t.length 0 5)) 5 ((bytesRow ⟨t.toArray⟩ (grownCap w t.length 0 5)).size, (bytesRow ⟨t.toArray⟩ (grownCap w t.length 0 5)).size + 1)) := World.alloc_heap_new w.drew _
  unfold World.cell?
  simp only [hb]
  have hi := (List.getElem?_eq_some_iff.1 hy).1
  unfold bytesRow
  have hy2 := (List.getElem?_eq_some_iff.1 hy).2
  simp [Array.getElem?_append, hi, hy2]
structure JWMid (B Hs : Nat) (w : World) (L t : Bytes) (rv : Value) (wx : World) : Prop where
  own : ∃ A c, rv = .slice A L.length c ∧ OwnB wx B rv L
  ne : rv.ownBlock ≠ some Hs
  src : BytesAt wx (some ⟨Hs, 0, none⟩) t
  wb : WB B w wx
  lt : Hs < wx.heap.size
theorem JWMid.snoc {B Hs gg cap : Nat} {w wx wy : World} {L t : Bytes} {rv : Value} {y : UInt8} {o : Obj} (h : JWMid B Hs w L t rv wx) (ho : OwnB wy B (.slice (some ⟨gg, 0, none⟩) (L ++ [y]).length cap) (L ++ [y])) (hg : (wx.alloc o).grownBy wy rv.ownBlock) (hor : rv.ownBlock = some gg ∨ gg = (wx.alloc o).heap.size) :
    JWMid B Hs w (L ++ [y]) t (.slice (some ⟨gg, 0, none⟩) (L ++ [y]).length cap) wy := by
  obtain ⟨A, c, e, hown⟩ := h.own
  refine ⟨⟨_, _, rfl, ho⟩, ?_, ?_, (h.wb.alloc o).trans (WB.grown (hown.alloc o) hg), ?_⟩
  · intro e2
    have e9 : gg = Hs := Option.some.inj e2
    subst e9
    rcases hor with e3 | e3
    · exact h.ne e3
    · have h9 := h.lt
      have h8 : (wx.alloc o).heap.size = wx.heap.size + 1 := World.size_alloc _ _
      omega
  · exact (h.src.only ((Only.refl (fun _ => False) wx).alloc o) (fun _ _ _ => id)).only (Only.ofGrown hg) (fun b o2 e2 e3 => by cases e2; exact h.ne e3)
  · have h1 := hg.size
    have h2 := h.lt
    have h3 : (wx.alloc o).heap.size = wx.heap.size + 1 := World.size_alloc _ _
    omega
/-- The same; the row's length a name of its own. -/
theorem wpList_append_z {ops : Array Oper} {rest : List Oper} {o : Oper} {a : Act} {w : World} {Q : Exit → Act → World → Prop} (hgd : o.guard = none) (s x : Operand) (ho : o.op = .call { callee := .builtin .append, args := #[s, x], argTypes := #[22, 22] })
    {base : Nat} {v : Value} {l : Bytes} (hs : a.eval s = v) (hown : OwnB w base v l) {g c : Nat} {z : Int} (hx : a.eval x = .slice (some ⟨g, 0, none⟩) 1 c)
    {y : UInt8} (hz : z = y.toNat) (hnew : w.cell? ⟨g, 0, none⟩ = some (.int .u8 z)) (hlen : l.length + 1 ≤ 2 ^ 40) (hbase : base ≤ w.heap.size)
    (h : ∀ gg n cap w', OwnB w' base (.slice (some ⟨gg, 0, none⟩) n cap) (l ++ [y]) → w.grownBy w' v.ownBlock → (v.ownBlock = some gg ∨ gg = w.heap.size) → wpList Tryz.prog ops Q rest (a.put o.dst (.slice (some ⟨gg, 0, none⟩) n cap)) w') : wpList Tryz.prog ops Q (o :: rest) a w :=
  wpList_append_y hgd s x ho hs hown hx hz hnew hlen hbase (fun gg cap w' h1 h2 h3 => h gg _ cap w' h1 h2 h3)
def JWordAt (B : Nat) (T : Bytes) (w : World) (e : Ending) (w' : World) : Prop := ∃ A n c, e = .returned (.slice A n c) ∧ OwnB w' B (.slice A n c) T ∧ WB B w w'
set_option maxRecDepth 100000 in
set_option maxHeartbeats 3200000 in
theorem jword_any {B : Nat} {A : Option Addr} {n c : Nat} {l t : Bytes} {w : World} (hO : OwnB w B (.slice A n c) l) (hB : B ≤ w.heap.size) (hp : PlainT t) (hlen : l.length + t.length ≤ 1000000000000) :
    Calls Tryz.prog 123 #[.slice A n c, .string ⟨t.toArray⟩] w (JWordAt B (l ++ 34 :: (t ++ [34])) w) := by
  obtain rfl := hO.bytes.1
  have HO := Lib.hid hO
  have HB := Lib.hid hB
  have HP := Lib.hid hp
  have HL := Lib.hid hlen
  clear hO hB hp hlen
  go_enter Tryz.func123, Tryz.ntmps123
  go_upto_region 3 with (first
    | (refine wpList_append_y rfl (.tmp 7) (.tmp 8) rfl rfl (HO.out.alloc _) rfl (y := 34) rfl (new_cells w [.int .u8 34] 5 rfl) (by have := HL.out; omega) (by have := HB.out; simp; omega) ?_; intro gg cap w1 hown1 hgr1 hor1; have HOWN1 := Lib.hid hown1; have HW1 := Lib.hid (((WB.refl B w).alloc _).trans (WB.grown (HO.out.alloc _) hgr1)); clear hown1 hgr1 hor1)
    | (refine wpList_bytes_of rfl (.tmp 10) rfl (t := t) rfl ?_; intro cap2 w2 hb2 ho2 hs2; have hm2 : JWMid B w1.heap.size w (l ++ [34]) t (.slice (some ⟨gg, 0, none⟩) (l ++ [34]).length cap) w2 := ⟨⟨_, _, rfl, HOWN1.out.only ho2 (fun _ _ => id)⟩, (fun e => by have e9 : gg = w1.heap.size := Option.some.inj e; have h9 : gg < w1.heap.size := (HOWN1.out.lt gg rfl).2; omega), hb2, HW1.out.trans (WB.of_false ho2), by omega⟩; have HM2 := Lib.hid hm2; clear hb2 ho2 hs2 hm2; generalize w1.heap.size = Hs at HM2 ⊢))
  have htl : (t.length : Int) ≤ 1000000000000 := by have := HL.out; omega
  go_loopw [13, 0] (fun s13 s0 wr => ∃ j : Nat, j ≤ t.length ∧ s13 = .int .i64 (j : Int) ∧ JWMid B Hs w (l ++ 34 :: t.take j) t s0 wr) (fun i _ _ => t.length - (intOf i).toNat)
  case atStart => exact ⟨0, by omega, rfl, by have := HM2.out; simpa using this⟩
  case round =>
    obtain ⟨j, hj, rfl, hm⟩ := hrel
    have HM := Lib.hid hm
    clear hm
    obtain ⟨A0, c0, e0, hown⟩ := HM.out.own
    subst e0
    have HOWN := Lib.hid hown
    clear hown
    rcases Nat.lt_or_ge j t.length with hlt | hge
    · obtain ⟨x, hx⟩ : ∃ x, t[j]? = some x := ⟨t[j], List.getElem?_eq_getElem hlt⟩
      have q : decide ((j : Int) < (t.length : Int)) = true := by simp; omega
      have hjz : (j : Int) < (t.length : Int) := by omega
      have hcx := HM.out.src.lies j x hx
      rw [Nat.zero_add] at hcx
      obtain ⟨p1, p2, p3⟩ := HP.out x (List.mem_of_getElem? hx)
      have qx1 : decide ((x.toNat : Int) < 32) = false := by simp; omega
      have qx2 : ((x.toNat : Int) == 34) = false := by
        have : x.toNat ≠ 34 := fun e => p2 (UInt8.toNat_inj.1 e)
        simp; omega
      have qx3 : ((x.toNat : Int) == 92) = false := by
        have : x.toNat ≠ 92 := fun e => p3 (UInt8.toNat_inj.1 e)
        simp; omega
      have HTK := Lib.hid (take_snoc hx)
      have HLT := Lib.hid hlt
      clear hx p1 p2 p3 hlt
      go_wp2_with (refine wpList_append_y rfl (.tmp 17) (.tmp 19) rfl rfl (HOWN.out.alloc _) rfl (y := x) rfl (new_cells _ [.int .u8 x.toNat] 5 rfl) (by have := HL.out; simp; omega) (by have := HM.out.wb.only.size; have := HB.out; simp; omega) ?_; intro gg3 cap3 w3 hown3 hgr3 hor3; have HM3 := Lib.hid (HM.out.snoc hown3 hgr3 hor3); clear hown3 hgr3 hor3)
      go_roundw
      case rel =>
        refine ⟨j + 1, by have := HLT.out; omega, by push_cast; rfl, ?_⟩
        have h := HM3.out
        rw [HTK.out]
        have hmin : min j t.length = j := by have := HLT.out; omega
        simpa [List.append_assoc, hmin] using h
      case measure => have := HLT.out; simp [intOf]; omega
    · have q : decide ((j : Int) < (t.length : Int)) = false := by simp; omega
      obtain rfl : j = t.length := by omega
      go_wp2_with (refine wpList_append_y rfl (.tmp 45) (.tmp 46) rfl rfl (HOWN.out.alloc _) rfl (y := 34) rfl (new_cells _ [.int .u8 34] 5 rfl) (by have := HL.out; simp; omega) (by have := HM.out.wb.only.size; have := HB.out; simp; omega) ?_; intro gg3 cap3 w3 hown3 hgr3 hor3; have HM3 := Lib.hid (HM.out.snoc hown3 hgr3 hor3); have HO3 := Lib.hid hown3; clear hown3 hgr3 hor3)
      go_ret
      have e : (l ++ 34 :: t.take t.length) ++ [34] = l ++ 34 :: (t ++ [34]) := by rw [List.take_length]; simp
      have h3 := HO3.out
      rw [e] at h3
      refine ⟨_, _, _, ?_, h3, HM3.out.wb⟩
      simp
end Go.Proofs.YtjehnejgojgahaaGreatDoor

/- W1 -/
namespace Go.Proofs.YtjehnejgojgahaaGreatDoor
open Go.RowKit
set_option linter.unusedVariables false
set_option linter.unusedSimpArgs false

/-- Texts, a comma between. -/
def joinP (ts : List Bytes) : Bytes := (ts.zipIdx.map fun x => (if x.2 = 0 then [] else [44]) ++ x.1).flatten
theorem joinP_nil : joinP [] = [] := rfl
theorem joinP_snoc (ts : List Bytes) (t : Bytes) : joinP (ts ++ [t]) = joinP ts ++ ((if ts.length = 0 then [] else [44]) ++ t) := by
  unfold joinP
  rw [List.zipIdx_append, List.map_append, List.flatten_append]
  simp
def quoteP (k : Bytes) : Bytes := 34 :: (k ++ [34])
def memP (k t : Bytes) : Bytes := quoteP k ++ 58 :: t
/-- A value whose texts are plain; how deep it is at most; its text. -/
inductive GW : Nat → JV → Bytes → Prop
  | num {m n : Nat} : n < 18446744073709551616 → GW m (.mk 3 [] n [] []) (Lib.decDigits n)
  | str {m : Nat} {s : Bytes} : PlainT s → (∀ x ∈ s, x.toNat < 128) → GW m (.mk 4 s 0 [] []) (quoteP s)
  | arr {m : Nat} {l : List JV} {ts : List Bytes} : l.length ≤ 3000000000 → ts.length = l.length → (∀ (i : Nat) (v : JV) (t : Bytes), l[i]? = some v → ts[i]? = some t → GW m v t) → GW (m + 1) (.mk 5 [] 0 l []) (91 :: (joinP ts ++ [93]))
  | obj {m : Nat} {l : List JV} {ks ts : List Bytes} : l.length ≤ 3000000000 → ts.length = l.length → ks.length = l.length → ks.Nodup → (∀ k ∈ ks, PlainT k ∧ ∀ x ∈ k, x.toNat < 128) → (∀ (i : Nat) (v : JV) (t : Bytes), l[i]? = some v → ts[i]? = some t → GW m v t) →
      GW (m + 1) (.mk 6 [] 0 l ks) (123 :: (joinP (List.zipWith memP ks ts) ++ [125]))
theorem appendUint_any {B : Nat} {A : Option Addr} {nn c u : Nat} {l : Bytes} {w : World} (hO : OwnB w B (.slice A nn c) l) (hB : B ≤ w.heap.size) (hu : u < 18446744073709551616) (hG : Gl w) (hl : l.length ≤ 1000000000000) :
    Calls Tryz.prog 122 #[.slice A nn c, .int .u64 u, .int .i64 10] w (JWordAt B (l ++ Lib.decDigits u) w) := by
  obtain rfl := hO.bytes.1
  have hc : Calls Tryz.prog 145 #[.slice A l.length c, .int .u64 u, .int .i64 10] w (JWordAt B (l ++ Lib.decDigits u) w) := by
    have fin : ∀ e w', (∃ v', e = Ending.returned v' ∧ w'.ownsRow B 5 1 v' (l.length + (Lib.decDigits u).length) (cellsB l ++ Lib.byteCells (Lib.decDigits u)) ∧ Below B w w' ∧ Lib.OthersKept 5 none w w') → JWordAt B (l ++ Lib.decDigits u) w e w' := by
      rintro e w' ⟨v', rfl, ho, hb, hk⟩
      have ho2 : OwnB w' B v' (l ++ Lib.decDigits u) := by
        unfold OwnB
        rw [List.length_append]
        have e2 : cellsB (l ++ Lib.decDigits u) = cellsB l ++ Lib.byteCells (Lib.decDigits u) := by unfold cellsB Lib.byteCells; simp
        rw [e2]; exact ho
      obtain ⟨A', c', rfl⟩ := ho2.form
      exact ⟨A', _, c', rfl, ho2, ⟨⟨hb.os, hb.tape, hb.output, hb.size, fun k hk hn => hb.block k (by omega)⟩, hk⟩⟩
    by_cases h : u < 100
    · exact (Tryz.internal_strconv_AppendUint_10_small B l.length u h _ _ w hO hB (by omega)).mono fin
    · exact (Tryz.internal_strconv_AppendUint_10_big B l.length u (by omega) hu _ _ w hO hB (by omega) hG.pow).mono fin
  have HC := Lib.hid hc
  clear hc hO hB hu hG hl
  go_enter Tryz.func122, Tryz.ntmps122
  go_wp2_with (go_at_call 145; refine HC.out.mono ?_; rintro e w1 ⟨A1, n1, c1, rfl, ho1, hw1⟩; have HO1 := Lib.hid ho1; have HW1 := Lib.hid hw1; clear ho1 hw1)
  go_ret
  exact ⟨A1, n1, c1, rfl, HO1.out, HW1.out⟩
/-- What a value's cells are, without its list and keys. -/
theorem JIs.parts {X : Nat → Prop} {w : World} {k n : Nat} {s : Bytes} {l : List JV} {ks : List Bytes} {cs : List Value} (h : JIs X w (.mk k s n l ks) cs) : ∃ A c B d, cs = cells5 k s n (.slice A l.length c) (.slice B ks.length d) ∧
    (∀ i v, l[i]? = some v → ∃ A2 c2 B2 d2, JIs X w v (cells5 v.kind v.str v.num (.slice A2 v.list.length c2) (.slice B2 v.keys.length d2)) ∧ LieAt X w A 5 i (cells5 v.kind v.str v.num (.slice A2 v.list.length c2) (.slice B2 v.keys.length d2))) ∧
    (∀ i t, ks[i]? = some t → LieAt X w B 1 i [txt t]) := by
  have hh := h
  obtain ⟨A, c, B, d, rfl⟩ := h.form
  refine ⟨A, c, B, d, rfl, fun i v hv => JIs.elem hh hv, ?_⟩
  generalize hC : cells5 (JV.mk k s n l ks).kind (JV.mk k s n l ks).str (JV.mk k s n l ks).num (.slice A (JV.mk k s n l ks).list.length c) (.slice B (JV.mk k s n l ks).keys.length d) = C at hh
  cases hh with
  | @mk k' s' n' l' ks' A' B' c' d' cs hl h5 hc hk =>
    unfold cells5 at hC
    simp only [List.cons.injEq, Value.slice.injEq, and_true] at hC
    obtain ⟨_, _, _, _, rfl, _, _⟩ := hC
    exact hk
structure WIn (X : Nat → Prop) (B : Nat) (w : World) (l : Bytes) (A : Option Addr) (n c : Nat) : Prop where
  low : ∀ b, X b → b < B
  gl : Gl w
  b8 : 8 ≤ B
  own : OwnB w B (.slice A n c) l
  base : B ≤ w.heap.size
set_option maxRecDepth 100000 in
set_option maxHeartbeats 3200000 in
theorem write_num {X : Nat → Prop} {B nn n : Nat} {A A1 B1 : Option Addr} {c c1 d1 : Nat} {l : Bytes} {w : World} (hI : WIn X B w l A nn c) (hu : n < 18446744073709551616) (hlen : l.length + (Lib.decDigits n).length ≤ 1000000000000) :
    Calls Tryz.prog 99 #[.agg #[.int .i64 3, .string ⟨#[]⟩, .int .u64 n, .slice A1 0 c1, .slice B1 0 d1]  , .slice A nn c] w (JWordAt B (l ++ Lib.decDigits n) w) := by
  have HI := Lib.hid hI
  have HL := Lib.hid hlen
  have HU := Lib.hid hu
  clear hI hlen hu
  go_enter Tryz.func99, Tryz.ntmps99
  go_wp2_with (go_at_call 122; refine (appendUint_any (HI.out.own.alloc _) (by have := HI.out.base; simp; omega) HU.out (HI.out.gl.alloc _) (by have := HL.out; omega)).mono ?_; rintro e w1 ⟨A2, n2, c2, rfl, ho1, hw1⟩; have HO1 := Lib.hid ho1; have HW1 := Lib.hid hw1; clear ho1 hw1)
  go_ret
  exact ⟨A2, n2, c2, rfl, HO1.out, ((WB.refl B w).alloc _).trans HW1.out⟩
set_option maxRecDepth 100000 in
set_option maxHeartbeats 3200000 in
theorem write_str {X : Nat → Prop} {B nn : Nat} {A A1 B1 : Option Addr} {c c1 d1 : Nat} {l s : Bytes} {w : World} (hI : WIn X B w l A nn c) (hp : PlainT s) (hlen : l.length + s.length ≤ 1000000000000) :
    Calls Tryz.prog 99 #[.agg #[.int .i64 4, .string ⟨s.toArray⟩, .int .u64 0, .slice A1 0 c1, .slice B1 0 d1], .slice A nn c] w (JWordAt B (l ++ quoteP s) w) := by
  have HI := Lib.hid hI
  have HL := Lib.hid hlen
  have HP := Lib.hid hp
  clear hI hlen hp
  go_enter Tryz.func99, Tryz.ntmps99
  go_wp2_with (go_at_call 123; refine (jword_any (HI.out.own.alloc _) (by have := HI.out.base; simp; omega) HP.out HL.out).mono ?_; rintro e w1 ⟨A2, n2, c2, rfl, ho1, hw1⟩; have HO1 := Lib.hid ho1; have HW1 := Lib.hid hw1; clear ho1 hw1)
  go_ret
  exact ⟨A2, n2, c2, rfl, HO1.out, ((WB.refl B w).alloc _).trans HW1.out⟩
end Go.Proofs.YtjehnejgojgahaaGreatDoor

/- W2 -/
namespace Go.Proofs.YtjehnejgojgahaaGreatDoor
open Go.RowKit
set_option linter.unusedVariables false
set_option linter.unusedSimpArgs false

def WrOK (v : JV) (t : Bytes) : Prop := ∀ (X : Nat → Prop) (B n c : Nat) (A : Option Addr) (L : Bytes) (w : World) (cs : List Value), WIn X B w L A n c → JIs X w v cs → L.length + t.length ≤ 1000000000000 →
  Calls Tryz.prog 99 #[.agg cs.toArray, .slice A n c] w (JWordAt B (L ++ t) w)
theorem joinP_append (a b : List Bytes) : ∃ x, joinP (a ++ b) = joinP a ++ x := by
  unfold joinP
  rw [List.zipIdx_append, List.map_append, List.flatten_append]
  exact ⟨_, rfl⟩
theorem joinP_take_le (ts : List Bytes) (j : Nat) : (joinP (ts.take j)).length ≤ (joinP ts).length := by
  obtain ⟨x, hx⟩ := joinP_append (ts.take j) (ts.drop j)
  rw [List.take_append_drop] at hx
  rw [hx, List.length_append]
  omega
structure WMid (B Hb : Nat) (cs : List Value) (w : World) (L : Bytes) (rv : Value) (wx : World) : Prop where
  own : ∃ A n c, rv = .slice A n c ∧ OwnB wx B rv L
  wb : WB B w wx
  box : Blk wx Hb cs 79
theorem WMid.snoc {B Hb gg n cap : Nat} {cs : List Value} {w wx wz wy : World} {L : Bytes} {rv : Value} {y : UInt8} (h : WMid B Hb cs w L rv wx) (hz : Only (fun _ => False) wx wz) (ho : OwnB wy B (.slice (some ⟨gg, 0, none⟩) n cap) (L ++ [y])) (hg : wz.grownBy wy rv.ownBlock) :
    WMid B Hb cs w (L ++ [y]) (.slice (some ⟨gg, 0, none⟩) n cap) wy := by
  obtain ⟨A, n0, c, e, hown⟩ := h.own
  have hw : WB B wx wy := (WB.of_false hz).trans (WB.grown (hown.only hz (fun _ _ => id)) hg)
  exact ⟨⟨_, _, _, rfl, ho⟩, h.wb.trans hw, hw.blk h.box (by decide)⟩
theorem WMid.still {B Hb : Nat} {cs : List Value} {w wx wz : World} {L : Bytes} {rv : Value} (h : WMid B Hb cs w L rv wx) (hz : Only (fun _ => False) wx wz) : WMid B Hb cs w L rv wz := by
  obtain ⟨A, n0, c, e, hown⟩ := h.own
  exact ⟨⟨A, n0, c, e, hown.only hz (fun _ _ => id)⟩, h.wb.trans (WB.of_false hz), h.box.only hz id⟩
theorem WMid.next {B Hb : Nat} {cs : List Value} {w wx wy : World} {L T : Bytes} {A : Option Addr} {n c : Nat} {rv : Value} (h : WMid B Hb cs w L rv wx) (ho : OwnB wy B (.slice A n c) T) (hw : WB B wx wy) : WMid B Hb cs w T (.slice A n c) wy :=
  ⟨⟨A, n, c, rfl, ho⟩, h.wb.trans hw, hw.blk h.box (by decide)⟩

set_option maxRecDepth 100000 in
set_option maxHeartbeats 1600000 in
theorem write_arr {l : List JV} {ts : List Bytes} (hn : ts.length = l.length) (hih : ∀ (i : Nat) (v : JV) (t : Bytes), l[i]? = some v → ts[i]? = some t → WrOK v t) (hl3 : l.length ≤ 3000000000) : WrOK (.mk 5 [] 0 l []) (91 :: (joinP (ts) ++ [93])) := by
  intro X B n c A L w cs hI hJ hlen
  obtain ⟨A1, c1, B1, d1, rfl, hls, hks⟩ := hJ.parts
  have HI := Lib.hid hI
  have HLS := Lib.hid hls
  have HKS := Lib.hid hks
  have HTOT := Lib.hid hlen
  have HLOW := Lib.hid hI.low
  have HB8 := Lib.hid hI.b8
  have HIHA := Lib.hid hih
  have HBB := Lib.hid hI.base
  have hl3z : (l.length : Int) ≤ 3000000000 := by omega
  skip
  skip
  clear hI hJ hlen hls hks hih 
  unfold cells5 txt
  try simp only [List.length_nil]
  go_enter Tryz.func99, Tryz.ntmps99
  go_wp2_with (refine stop_append (t := 22) rfl ?_)
  refine ⟨?_⟩
  refine wpList_append_z rfl (.tmp 35) (.tmp 38) rfl rfl ((HI.out.own.alloc _).alloc _) rfl (l := L) (y := 91) rfl (by have h9 := new_cells (w.alloc (.cells #[.int .i64 5, .string ⟨#[]⟩, .int .u64 0, .slice A1 l.length c1, .slice B1 0 d1] 79)) [.int .u8 91] 5 (j := 0) rfl; rw [World.size_alloc] at h9; exact h9) (by have h0 := HTOT.out; simp at h0; omega) (by have := HBB.out; simp; omega) ?_
  intro gg ng cap w1 hown1 hgr1 hor1
  have hw1 := (((WB.refl B w).alloc _).alloc _).trans (WB.grown ((HI.out.own.alloc _).alloc _) hgr1)
  have hbx := (WB.trans (WB.alloc (WB.refl B _) _) (WB.grown ((HI.out.own.alloc _).alloc _) hgr1)).blk (Blk.new w [.int .i64 5, .string ⟨#[]⟩, .int .u64 0, .slice A1 l.length c1, .slice B1 0 d1] 79) (by decide)
  have HW1 := Lib.hid hw1
  have HBX := Lib.hid hbx
  have HOWN1 := Lib.hid hown1
  have hx3 := hbx.cell 3 rfl
  have hx0 := hbx.cell 0 rfl
  clear hown1 hgr1 hor1 hw1 hbx
  go_upto_region 15 with fail
  generalize w.heap.size = Hb at HBX hx3 hx0 ⊢
  go_loopw [43, 1] (fun s43 s1 wr => ∃ j : Nat, j ≤ l.length ∧ s43 = .int .i64 (j : Int) ∧ WMid B Hb [.int .i64 5, .string ⟨#[]⟩, .int .u64 0, .slice A1 l.length c1, .slice B1 0 d1] w1 (L ++ 91 :: joinP ((ts).take j)) s1 wr) (fun i _ _ => l.length - (intOf i).toNat)
  case atStart => exact ⟨0, by omega, rfl, ⟨⟨some ⟨gg, 0, none⟩, ng, cap, rfl, by simpa [joinP_nil] using HOWN1.out⟩, WB.refl _ _, HBX.out⟩⟩
  case round =>
    obtain ⟨j, hj, rfl, hm⟩ := hrel
    have HM := Lib.hid hm
    obtain ⟨A0, n0, c0, e0, hown⟩ := hm.own
    subst e0
    have HOWN := Lib.hid hown
    have hk0 := hm.box.cell 0 rfl
    clear hown hm
    rcases Nat.lt_or_ge j l.length with hlt | hge
    · obtain ⟨x, hx⟩ : ∃ x, l[j]? = some x := ⟨l[j], List.getElem?_eq_getElem hlt⟩
      obtain ⟨tx, htx⟩ : ∃ tx, ts[j]? = some tx := ⟨ts[j]'(by omega), List.getElem?_eq_getElem (by omega)⟩
      have q : decide ((j : Int) < (l.length : Int)) = true := by simp; omega
      have hjz : (j : Int) < (l.length : Int) := by omega
      have h1w := HW1.out.only
      have hGL : ∀ wy, WB B w1 wy → Gl wy := fun wy hw => (HI.out.gl.only h1w (fun b hb => by have := HB8.out; show ¬ B ≤ b; omega)).only hw.only (fun b hb => by have := HB8.out; show ¬ B ≤ b; omega)
      have HGL := Lib.hid hGL
      have HBS := Lib.hid (show ∀ wy, WB B w1 wy → B ≤ wy.heap.size from fun wy hw => by have h1 := hw.only.size; have h2 := h1w.size; have h3 := HBB.out; omega)
      obtain ⟨A2, c2, B2, d2, hjx, hlx⟩ := HLS.out j x hx
      obtain ⟨bA, oA, rfl, hXA, hcA⟩ := hlx
      have hall : ∀ wy, WB B w1 wy → Only (B ≤ ·) w wy := fun wy hw => h1w.trans hw.only
      have HJK := Lib.hid (show ∀ wy, WB B w1 wy → JIs X wy x (cells5 x.kind x.str x.num (.slice A2 x.list.length c2) (.slice B2 x.keys.length d2)) from fun wy hw => hjx.only (hall wy hw) (fun b hb hy => ⟨by have := HLOW.out b hy; show ¬ B ≤ b; omega, hy⟩))
      have HRG := Lib.hid (show wr.rangeAt bA (oA + j * 5) (cells5 x.kind x.str x.num (.slice A2 x.list.length c2) (.slice B2 x.keys.length d2)) from fun i y hy => by
        have := (hall wr HM.out.wb).cell (hcA i y hy) (by have := HLOW.out bA hXA; show ¬ B ≤ _; simp; omega)
        rw [Nat.add_assoc, Nat.mul_comm j 5]; exact this)
      have HIH := Lib.hid (HIHA.out j x tx hx htx)
      have hit : ts[j]? = some tx := htx
      have HST := Lib.hid (show L ++ 91 :: joinP ((ts).take (j + 1)) = L ++ 91 :: (joinP ((ts).take j) ++ ((if ((ts).take j).length = 0 then [] else [44]) ++ tx)) by rw [take_snoc hit, joinP_snoc])
      have HBD := Lib.hid (show (L ++ 91 :: (joinP ((ts).take j) ++ ((if ((ts).take j).length = 0 then [] else [44]) ++ tx))).length + 1 ≤ 1000000000000 by
        rw [← HST.out]
        have h1 := joinP_take_le (ts) (j + 1)
        have h2 := HTOT.out
        simp only [List.length_append, List.length_cons, List.length_nil] at h2 ⊢
        omega)
      have hjn : ((ts).take j).length = j := by rw [List.length_take]; (try simp only [List.length_zipWith]); omega
      rw [hjn] at HST HBD
      have HLT := Lib.hid hlt
      clear hx htx hjx hcA hXA hall hGL h1w hlt hit hjn
      rcases Nat.eq_zero_or_pos j with hj0 | hj0
      · obtain rfl : j = 0 := by omega
        skip
        have HRG0 := Lib.hid (show wr.rangeAt bA oA (cells5 x.kind x.str x.num (.slice A2 x.list.length c2) (.slice B2 x.keys.length d2)) from by have h := HRG.out; simpa using h)
        have HLEN2 := Lib.hid (show ((L ++ 91 :: joinP ((ts).take 0))).length + tx.length ≤ 1000000000000 by have h1 := HBD.out; simp at h1 ⊢; omega)
        have HLEN := Lib.hid (show (L ++ 91 :: joinP ((ts).take 0)).length + 1 ≤ 2 ^ 40 by have h1 := HBD.out; simp at h1 ⊢; omega)
        go_wp2_with (first
            | (refine load79 rfl (.tmp 46) rfl rfl HRG0.out rfl ?_)
            | (refine wpList_store_blk (cs := cells5 x.kind x.str x.num (.slice A2 x.list.length c2) (.slice B2 x.keys.length d2)) rfl 79 (.tmp 7) (.tmp 47) rfl rfl rfl rfl (Blk.new wr [.int .i64 0, .string ⟨#[]⟩, .int .u64 0, .slice none 0 0, .slice none 0 0] 79) rfl info79s rfl ?_; intro w4 hb4 ho4; have o4 : Only (fun _ => False) wr w4 := ((Only.refl _ wr).alloc _).then ho4 (fun i hi e => by omega); have HB4 := Lib.hid hb4; have HO4 := Lib.hid o4; have hm4 := HM.out.still o4; have HM4 := Lib.hid hm4; have hk4 := hm4.box.cell 0 rfl; have hk44 := hm4.box.cell 4 rfl; clear hb4 ho4 o4 hm4)
            | (refine wpList_load_blk (cs := cells5 x.kind x.str x.num (.slice A2 x.list.length c2) (.slice B2 x.keys.length d2)) rfl 79 (.tmp 7) rfl rfl HB4.out agg79 info79s ?_)
            | (go_at_call 99; refine (HIH.out X B _ _ _ _ _ _ ⟨HLOW.out, HGL.out w4 HM4.out.wb, HB8.out, (HOWN.out.only HO4.out (fun _ _ => id)), HBS.out w4 HM4.out.wb⟩ (HJK.out w4 HM4.out.wb) (HLEN2.out)).mono ?_; rintro e w6 ⟨A6, n6, c6, rfl, ho6, hw6⟩; have HM6 := Lib.hid (HM4.out.next ho6 hw6); clear ho6 hw6))


        go_roundw
        case rel =>
          refine ⟨0 + 1, by have := HLT.out; omega, by push_cast; rfl, ?_⟩
          have h := HM6.out
          have e : L ++ 91 :: joinP ((ts).take (0 + 1)) = _ := HST.out
          rw [e]
          skip
          simpa [List.append_assoc, memP, quoteP, joinP_nil] using h
        case measure => have := HLT.out; simp [intOf]; omega
      · have qj : decide ((0 : Int) < (j : Int)) = true := by simp; omega
        skip
        have qj2 : (0 : Int) < (j : Int) := by omega
        have HLEN2 := Lib.hid (show (((L ++ 91 :: joinP ((ts).take j)) ++ [44])).length + tx.length ≤ 1000000000000 by have h1 := HBD.out; simp at h1 ⊢; omega)
        have HLEN := Lib.hid (show (L ++ 91 :: joinP ((ts).take j)).length + 1 ≤ 2 ^ 40 by have h1 := HBD.out; simp at h1 ⊢; omega)
        go_wp2_with (first
            | (refine load79 rfl (.tmp 46) rfl rfl HRG.out rfl ?_)
            | (refine wpList_store_blk (cs := cells5 x.kind x.str x.num (.slice A2 x.list.length c2) (.slice B2 x.keys.length d2)) rfl 79 (.tmp 7) (.tmp 47) rfl rfl rfl rfl (Blk.new wr [.int .i64 0, .string ⟨#[]⟩, .int .u64 0, .slice none 0 0, .slice none 0 0] 79) rfl info79s rfl ?_; intro w4 hb4 ho4; have o4 : Only (fun _ => False) wr w4 := ((Only.refl _ wr).alloc _).then ho4 (fun i hi e => by omega); have HB4 := Lib.hid hb4; have HO4 := Lib.hid o4; have hm4 := HM.out.still o4; have HM4 := Lib.hid hm4; have hk4 := hm4.box.cell 0 rfl; have hk44 := hm4.box.cell 4 rfl; clear hb4 ho4 o4 hm4)
            | (refine stop_append (t := 22) rfl ?_))
        refine ⟨?_⟩
        refine wpList_append_z rfl (.tmp 50) (.tmp 51) rfl rfl ((HOWN.out.only HO4.out (fun _ _ => id)).alloc _) rfl (y := 44) rfl (new_cells _ [.int .u8 44] 5 rfl) HLEN.out (by have h1 := HM.out.wb.only.size; have h2 := HO4.out.size; have h3 := HBS.out wr HM.out.wb; simp; omega) ?_
        intro gg5 n5 cap5 w5 hown5 hgr5 hor5
        have hm5 := HM.out.snoc (HO4.out.alloc _) hown5 hgr5
        have HM5 := Lib.hid hm5
        have HOWN5 := Lib.hid hown5
        have hk5 := hm5.box.cell 0 rfl
        have hk54 := hm5.box.cell 4 rfl
        have HB5 := Lib.hid ((WB.trans (WB.alloc (WB.refl B w4) _) (WB.grown ((HOWN.out.only HO4.out (fun _ _ => id)).alloc _) hgr5)).blk HB4.out (by decide))
        clear hown5 hgr5 hor5 hm5
        go_wp2_with (first
            | (refine wpList_load_blk (cs := cells5 x.kind x.str x.num (.slice A2 x.list.length c2) (.slice B2 x.keys.length d2)) rfl 79 (.tmp 7) rfl rfl HB5.out agg79 info79s ?_)
            | (go_at_call 99; refine (HIH.out X B _ _ _ _ _ _ ⟨HLOW.out, HGL.out w5 HM5.out.wb, HB8.out, HOWN5.out, HBS.out w5 HM5.out.wb⟩ (HJK.out w5 HM5.out.wb) (HLEN2.out)).mono ?_; rintro e w6 ⟨A6, n6, c6, rfl, ho6, hw6⟩; have HM6 := Lib.hid (HM5.out.next ho6 hw6); clear ho6 hw6))
        go_roundw
        case rel =>
          refine ⟨j + 1, by have := HLT.out; omega, by push_cast; rfl, ?_⟩
          have h := HM6.out
          have e : L ++ 91 :: joinP ((ts).take (j + 1)) = _ := HST.out
          rw [e]
          have hjn0 : ¬ j = 0 := by omega
          simpa [List.append_assoc, memP, quoteP, joinP_nil, hjn0] using h
        case measure => have := HLT.out; simp [intOf]; omega
    · have q : decide ((j : Int) < (l.length : Int)) = false := by simp; omega
      obtain rfl : j = l.length := by omega
      have hfull : (ts).take l.length = ts := List.take_of_length_le (by omega)
      have HFU := Lib.hid hfull
      clear hfull
      go_wp2_with (refine stop_append (t := 22) rfl ?_)
      refine ⟨?_⟩
      refine wpList_append_z rfl (.tmp 69) (.tmp 72) rfl rfl (HOWN.out.alloc _) rfl (y := 93) rfl (new_cells _ [.int .u8 93] 5 rfl) (by have h0 := HTOT.out; rw [HFU.out]; simp at h0 ⊢; omega) (by have h1 := HM.out.wb.only.size; have h2 := HW1.out.only.size; have h3 := HBB.out; simp; omega) ?_
      intro gg3 n3 cap3 w3 hown3 hgr3 hor3
      have hm3 := HM.out.snoc ((Only.refl _ wr).alloc _) hown3 hgr3
      have HM3 := Lib.hid hm3
      have HO3 := Lib.hid hown3
      clear hown3 hgr3 hor3 hm3
      go_wp2
      go_ret
      have h3 := HO3.out
      rw [HFU.out, List.append_assoc, List.cons_append] at h3
      exact ⟨_, _, _, rfl, h3, HW1.out.trans HM3.out.wb⟩

set_option maxRecDepth 100000 in
set_option maxHeartbeats 1600000 in
theorem write_obj {l : List JV} {ks ts : List Bytes} (hn : ts.length = l.length) (hkn : ks.length = l.length) (hpk : ∀ k ∈ ks, PlainT k ∧ ∀ x ∈ k, x.toNat < 128) (hih : ∀ (i : Nat) (v : JV) (t : Bytes), l[i]? = some v → ts[i]? = some t → WrOK v t) (hl3 : l.length ≤ 3000000000) : WrOK (.mk 6 [] 0 l ks) (123 :: (joinP (List.zipWith memP ks ts) ++ [125])) := by
  intro X B n c A L w cs hI hJ hlen
  obtain ⟨A1, c1, B1, d1, rfl, hls, hks⟩ := hJ.parts
  have HI := Lib.hid hI
  have HLS := Lib.hid hls
  have HKS := Lib.hid hks
  have HTOT := Lib.hid hlen
  have HLOW := Lib.hid hI.low
  have HB8 := Lib.hid hI.b8
  have HIHA := Lib.hid hih
  have HBB := Lib.hid hI.base
  have hl3z : (l.length : Int) ≤ 3000000000 := by omega
  have HPK := Lib.hid hpk
  have HKN := Lib.hid hkn
  clear hI hJ hlen hls hks hih hpk hkn
  unfold cells5 txt
  try simp only [List.length_nil]
  go_enter Tryz.func99, Tryz.ntmps99
  go_wp2_with (refine stop_append (t := 22) rfl ?_)
  refine ⟨?_⟩
  refine wpList_append_z rfl (.tmp 35) (.tmp 38) rfl rfl ((HI.out.own.alloc _).alloc _) rfl (l := L) (y := 123) rfl (by have h9 := new_cells (w.alloc (.cells #[.int .i64 6, .string ⟨#[]⟩, .int .u64 0, .slice A1 l.length c1, .slice B1 ks.length d1] 79)) [.int .u8 123] 5 (j := 0) rfl; rw [World.size_alloc] at h9; exact h9) (by have h0 := HTOT.out; simp at h0; omega) (by have := HBB.out; simp; omega) ?_
  intro gg ng cap w1 hown1 hgr1 hor1
  have hw1 := (((WB.refl B w).alloc _).alloc _).trans (WB.grown ((HI.out.own.alloc _).alloc _) hgr1)
  have hbx := (WB.trans (WB.alloc (WB.refl B _) _) (WB.grown ((HI.out.own.alloc _).alloc _) hgr1)).blk (Blk.new w [.int .i64 6, .string ⟨#[]⟩, .int .u64 0, .slice A1 l.length c1, .slice B1 ks.length d1] 79) (by decide)
  have HW1 := Lib.hid hw1
  have HBX := Lib.hid hbx
  have HOWN1 := Lib.hid hown1
  have hx3 := hbx.cell 3 rfl
  have hx0 := hbx.cell 0 rfl
  clear hown1 hgr1 hor1 hw1 hbx
  go_upto_region 15 with fail
  generalize w.heap.size = Hb at HBX hx3 hx0 ⊢
  go_loopw [43, 1] (fun s43 s1 wr => ∃ j : Nat, j ≤ l.length ∧ s43 = .int .i64 (j : Int) ∧ WMid B Hb [.int .i64 6, .string ⟨#[]⟩, .int .u64 0, .slice A1 l.length c1, .slice B1 ks.length d1] w1 (L ++ 123 :: joinP ((List.zipWith memP ks ts).take j)) s1 wr) (fun i _ _ => l.length - (intOf i).toNat)
  case atStart => exact ⟨0, by omega, rfl, ⟨⟨some ⟨gg, 0, none⟩, ng, cap, rfl, by simpa [joinP_nil] using HOWN1.out⟩, WB.refl _ _, HBX.out⟩⟩
  case round =>
    obtain ⟨j, hj, rfl, hm⟩ := hrel
    have HM := Lib.hid hm
    obtain ⟨A0, n0, c0, e0, hown⟩ := hm.own
    subst e0
    have HOWN := Lib.hid hown
    have hk0 := hm.box.cell 0 rfl
    clear hown hm
    rcases Nat.lt_or_ge j l.length with hlt | hge
    · obtain ⟨x, hx⟩ : ∃ x, l[j]? = some x := ⟨l[j], List.getElem?_eq_getElem hlt⟩
      obtain ⟨tx, htx⟩ : ∃ tx, ts[j]? = some tx := ⟨ts[j]'(by omega), List.getElem?_eq_getElem (by omega)⟩
      have q : decide ((j : Int) < (l.length : Int)) = true := by simp; omega
      have hjz : (j : Int) < (l.length : Int) := by omega
      have h1w := HW1.out.only
      have hGL : ∀ wy, WB B w1 wy → Gl wy := fun wy hw => (HI.out.gl.only h1w (fun b hb => by have := HB8.out; show ¬ B ≤ b; omega)).only hw.only (fun b hb => by have := HB8.out; show ¬ B ≤ b; omega)
      have HGL := Lib.hid hGL
      have HBS := Lib.hid (show ∀ wy, WB B w1 wy → B ≤ wy.heap.size from fun wy hw => by have h1 := hw.only.size; have h2 := h1w.size; have h3 := HBB.out; omega)
      obtain ⟨A2, c2, B2, d2, hjx, hlx⟩ := HLS.out j x hx
      obtain ⟨bA, oA, rfl, hXA, hcA⟩ := hlx
      have hall : ∀ wy, WB B w1 wy → Only (B ≤ ·) w wy := fun wy hw => h1w.trans hw.only
      have HJK := Lib.hid (show ∀ wy, WB B w1 wy → JIs X wy x (cells5 x.kind x.str x.num (.slice A2 x.list.length c2) (.slice B2 x.keys.length d2)) from fun wy hw => hjx.only (hall wy hw) (fun b hb hy => ⟨by have := HLOW.out b hy; show ¬ B ≤ b; omega, hy⟩))
      have HRG := Lib.hid (show wr.rangeAt bA (oA + j * 5) (cells5 x.kind x.str x.num (.slice A2 x.list.length c2) (.slice B2 x.keys.length d2)) from fun i y hy => by
        have := (hall wr HM.out.wb).cell (hcA i y hy) (by have := HLOW.out bA hXA; show ¬ B ≤ _; simp; omega)
        rw [Nat.add_assoc, Nat.mul_comm j 5]; exact this)
      have HIH := Lib.hid (HIHA.out j x tx hx htx)
      obtain ⟨kx, hkx⟩ : ∃ kx, ks[j]? = some kx := ⟨ks[j]'(by have := HKN.out; omega), List.getElem?_eq_getElem (by have := HKN.out; omega)⟩
      obtain ⟨bK, oK, rfl, hXK, hcK⟩ := HKS.out j kx hkx
      have hjkz : (j : Int) < (ks.length : Int) := by have := HKN.out; omega
      have hjkn : j < ks.length := by have := HKN.out; omega
      have HKC := Lib.hid (show ∀ wy, WB B w1 wy → wy.cell? ⟨bK, oK + j, none⟩ = some (.string ⟨kx.toArray⟩) from fun wy hw => by
        have h := hcK 0 _ rfl
        have h2 := hw.only.cell (h1w.cell h (by have := HLOW.out bK hXK; show ¬ B ≤ _; simp; omega)) (by have := HLOW.out bK hXK; show ¬ B ≤ _; simp; omega)
        simpa [txt] using h2)
      have HPL := Lib.hid (HPK.out kx (List.mem_of_getElem? hkx)).1
      have hit : (List.zipWith memP ks ts)[j]? = some (memP kx tx) := by rw [List.getElem?_zipWith, hkx, htx]
      have HST := Lib.hid (show L ++ 123 :: joinP ((List.zipWith memP ks ts).take (j + 1)) = L ++ 123 :: (joinP ((List.zipWith memP ks ts).take j) ++ ((if ((List.zipWith memP ks ts).take j).length = 0 then [] else [44]) ++ memP kx tx)) by rw [take_snoc hit, joinP_snoc])
      have HBD := Lib.hid (show (L ++ 123 :: (joinP ((List.zipWith memP ks ts).take j) ++ ((if ((List.zipWith memP ks ts).take j).length = 0 then [] else [44]) ++ memP kx tx))).length + 1 ≤ 1000000000000 by
        rw [← HST.out]
        have h1 := joinP_take_le (List.zipWith memP ks ts) (j + 1)
        have h2 := HTOT.out
        simp only [List.length_append, List.length_cons, List.length_nil] at h2 ⊢
        omega)
      have hjn : ((List.zipWith memP ks ts).take j).length = j := by rw [List.length_take]; (try simp only [List.length_zipWith]); have := HKN.out; omega
      rw [hjn] at HST HBD
      have HLT := Lib.hid hlt
      clear hx htx hjx hcA hXA hall hGL h1w hlt hit hjn
      rcases Nat.eq_zero_or_pos j with hj0 | hj0
      · obtain rfl : j = 0 := by omega
        replace HKC := Lib.hid (show ∀ wy, WB B w1 wy → wy.cell? ⟨bK, oK, none⟩ = some (.string ⟨kx.toArray⟩) from fun wy hw => by have h := HKC.out wy hw; simpa using h)
        have HRG0 := Lib.hid (show wr.rangeAt bA oA (cells5 x.kind x.str x.num (.slice A2 x.list.length c2) (.slice B2 x.keys.length d2)) from by have h := HRG.out; simpa using h)
        have HLEN3 := Lib.hid (show ((L ++ 123 :: joinP ((List.zipWith memP ks ts).take 0))).length + kx.length ≤ 1000000000000 by have h1 := HBD.out; simp [memP, quoteP] at h1 ⊢; omega)
        have HLEN4 := Lib.hid (show ((L ++ 123 :: joinP ((List.zipWith memP ks ts).take 0)) ++ 34 :: (kx ++ [34])).length + 1 ≤ 2 ^ 40 by have h1 := HBD.out; simp [memP, quoteP] at h1 ⊢; omega)
        have HLEN2 := Lib.hid (show (((L ++ 123 :: joinP ((List.zipWith memP ks ts).take 0)) ++ 34 :: (kx ++ [34])) ++ [58]).length + tx.length ≤ 1000000000000 by have h1 := HBD.out; simp [memP, quoteP] at h1 ⊢; omega)
        have HLEN := Lib.hid (show (L ++ 123 :: joinP ((List.zipWith memP ks ts).take 0)).length + 1 ≤ 2 ^ 40 by have h1 := HBD.out; simp at h1 ⊢; omega)
        go_wp2_with (first
            | (refine load79 rfl (.tmp 46) rfl rfl HRG0.out rfl ?_)
            | (refine wpList_store_blk (cs := cells5 x.kind x.str x.num (.slice A2 x.list.length c2) (.slice B2 x.keys.length d2)) rfl 79 (.tmp 7) (.tmp 47) rfl rfl rfl rfl (Blk.new wr [.int .i64 0, .string ⟨#[]⟩, .int .u64 0, .slice none 0 0, .slice none 0 0] 79) rfl info79s rfl ?_; intro w4 hb4 ho4; have o4 : Only (fun _ => False) wr w4 := ((Only.refl _ wr).alloc _).then ho4 (fun i hi e => by omega); have HB4 := Lib.hid hb4; have HO4 := Lib.hid o4; have hm4 := HM.out.still o4; have HM4 := Lib.hid hm4; have hk4 := hm4.box.cell 0 rfl; have hk44 := hm4.box.cell 4 rfl; have hkc4 := HKC.out w4 hm4.wb; clear hb4 ho4 o4 hm4)
            | (go_at_call 123; refine (jword_any (HOWN.out.only HO4.out (fun _ _ => id)) (HBS.out w4 HM4.out.wb) HPL.out HLEN3.out).mono ?_; rintro e w7 ⟨A7, n7, c7, rfl, ho7, hw7⟩; have HM7 := Lib.hid (HM4.out.next ho7 hw7); have HO7 := Lib.hid ho7; have HB7 := Lib.hid (hw7.blk HB4.out (by decide)); clear ho7 hw7)
            | (refine stop_append (t := 22) rfl ?_))
        refine ⟨?_⟩
        refine wpList_append_z rfl (.tmp 62) (.tmp 63) rfl rfl (HO7.out.alloc _) rfl (y := 58) rfl (new_cells _ [.int .u8 58] 5 rfl) HLEN4.out (by have h1 := HBS.out w7 HM7.out.wb; simp; omega) ?_
        intro gg8 n8 cap8 w8 hown8 hgr8 hor8
        have hm8 := HM7.out.snoc ((Only.refl _ w7).alloc _) hown8 hgr8
        have HM8 := Lib.hid hm8
        have HO8 := Lib.hid hown8
        have HB8x := Lib.hid ((WB.trans (WB.alloc (WB.refl B w7) _) (WB.grown (HO7.out.alloc _) hgr8)).blk HB7.out (by decide))
        clear hown8 hgr8 hor8 hm8
        go_wp2_with (first
            | (refine wpList_load_blk (cs := cells5 x.kind x.str x.num (.slice A2 x.list.length c2) (.slice B2 x.keys.length d2)) rfl 79 (.tmp 7) rfl rfl HB8x.out agg79 info79s ?_)
            | (go_at_call 99; refine (HIH.out X B _ _ _ _ _ _ ⟨HLOW.out, HGL.out w8 HM8.out.wb, HB8.out, HO8.out, HBS.out w8 HM8.out.wb⟩ (HJK.out w8 HM8.out.wb) (HLEN2.out)).mono ?_; rintro e w6 ⟨A6, n6, c6, rfl, ho6, hw6⟩; have HM6 := Lib.hid (HM8.out.next ho6 hw6); clear ho6 hw6))


        go_roundw
        case rel =>
          refine ⟨0 + 1, by have := HLT.out; omega, by push_cast; rfl, ?_⟩
          have h := HM6.out
          have e : L ++ 123 :: joinP ((List.zipWith memP ks ts).take (0 + 1)) = _ := HST.out
          rw [e]
          skip
          simpa [List.append_assoc, memP, quoteP, joinP_nil] using h
        case measure => have := HLT.out; simp [intOf]; omega
      · have qj : decide ((0 : Int) < (j : Int)) = true := by simp; omega
        skip
        have qj2 : (0 : Int) < (j : Int) := by omega
        have HLEN3 := Lib.hid (show (((L ++ 123 :: joinP ((List.zipWith memP ks ts).take j)) ++ [44])).length + kx.length ≤ 1000000000000 by have h1 := HBD.out; simp [memP, quoteP] at h1 ⊢; omega)
        have HLEN4 := Lib.hid (show (((L ++ 123 :: joinP ((List.zipWith memP ks ts).take j)) ++ [44]) ++ 34 :: (kx ++ [34])).length + 1 ≤ 2 ^ 40 by have h1 := HBD.out; simp [memP, quoteP] at h1 ⊢; omega)
        have HLEN2 := Lib.hid (show ((((L ++ 123 :: joinP ((List.zipWith memP ks ts).take j)) ++ [44]) ++ 34 :: (kx ++ [34])) ++ [58]).length + tx.length ≤ 1000000000000 by have h1 := HBD.out; simp [memP, quoteP] at h1 ⊢; omega)
        have HLEN := Lib.hid (show (L ++ 123 :: joinP ((List.zipWith memP ks ts).take j)).length + 1 ≤ 2 ^ 40 by have h1 := HBD.out; simp at h1 ⊢; omega)
        go_wp2_with (first
            | (refine load79 rfl (.tmp 46) rfl rfl HRG.out rfl ?_)
            | (refine wpList_store_blk (cs := cells5 x.kind x.str x.num (.slice A2 x.list.length c2) (.slice B2 x.keys.length d2)) rfl 79 (.tmp 7) (.tmp 47) rfl rfl rfl rfl (Blk.new wr [.int .i64 0, .string ⟨#[]⟩, .int .u64 0, .slice none 0 0, .slice none 0 0] 79) rfl info79s rfl ?_; intro w4 hb4 ho4; have o4 : Only (fun _ => False) wr w4 := ((Only.refl _ wr).alloc _).then ho4 (fun i hi e => by omega); have HB4 := Lib.hid hb4; have HO4 := Lib.hid o4; have hm4 := HM.out.still o4; have HM4 := Lib.hid hm4; have hk4 := hm4.box.cell 0 rfl; have hk44 := hm4.box.cell 4 rfl; have hkc4 := HKC.out w4 hm4.wb; clear hb4 ho4 o4 hm4)
            | (refine stop_append (t := 22) rfl ?_))
        refine ⟨?_⟩
        refine wpList_append_z rfl (.tmp 50) (.tmp 51) rfl rfl ((HOWN.out.only HO4.out (fun _ _ => id)).alloc _) rfl (y := 44) rfl (new_cells _ [.int .u8 44] 5 rfl) HLEN.out (by have h1 := HM.out.wb.only.size; have h2 := HO4.out.size; have h3 := HBS.out wr HM.out.wb; simp; omega) ?_
        intro gg5 n5 cap5 w5 hown5 hgr5 hor5
        have hm5 := HM.out.snoc (HO4.out.alloc _) hown5 hgr5
        have HM5 := Lib.hid hm5
        have HOWN5 := Lib.hid hown5
        have hk5 := hm5.box.cell 0 rfl
        have hk54 := hm5.box.cell 4 rfl
        have hkc5 := HKC.out w5 hm5.wb
        have HB5 := Lib.hid ((WB.trans (WB.alloc (WB.refl B w4) _) (WB.grown ((HOWN.out.only HO4.out (fun _ _ => id)).alloc _) hgr5)).blk HB4.out (by decide))
        clear hown5 hgr5 hor5 hm5
        go_wp2_with (first
            | (go_at_call 123; refine (jword_any HOWN5.out (HBS.out w5 HM5.out.wb) HPL.out HLEN3.out).mono ?_; rintro e w7 ⟨A7, n7, c7, rfl, ho7, hw7⟩; have HM7 := Lib.hid (HM5.out.next ho7 hw7); have HO7 := Lib.hid ho7; have HB7 := Lib.hid (hw7.blk HB5.out (by decide)); clear ho7 hw7)
            | (refine stop_append (t := 22) rfl ?_))
        refine ⟨?_⟩
        refine wpList_append_z rfl (.tmp 62) (.tmp 63) rfl rfl (HO7.out.alloc _) rfl (y := 58) rfl (new_cells _ [.int .u8 58] 5 rfl) HLEN4.out (by have h1 := HBS.out w7 HM7.out.wb; simp; omega) ?_
        intro gg8 n8 cap8 w8 hown8 hgr8 hor8
        have hm8 := HM7.out.snoc ((Only.refl _ w7).alloc _) hown8 hgr8
        have HM8 := Lib.hid hm8
        have HO8 := Lib.hid hown8
        have HB8x := Lib.hid ((WB.trans (WB.alloc (WB.refl B w7) _) (WB.grown (HO7.out.alloc _) hgr8)).blk HB7.out (by decide))
        clear hown8 hgr8 hor8 hm8
        go_wp2_with (first
            | (refine wpList_load_blk (cs := cells5 x.kind x.str x.num (.slice A2 x.list.length c2) (.slice B2 x.keys.length d2)) rfl 79 (.tmp 7) rfl rfl HB8x.out agg79 info79s ?_)
            | (go_at_call 99; refine (HIH.out X B _ _ _ _ _ _ ⟨HLOW.out, HGL.out w8 HM8.out.wb, HB8.out, HO8.out, HBS.out w8 HM8.out.wb⟩ (HJK.out w8 HM8.out.wb) (HLEN2.out)).mono ?_; rintro e w6 ⟨A6, n6, c6, rfl, ho6, hw6⟩; have HM6 := Lib.hid (HM8.out.next ho6 hw6); clear ho6 hw6))
        go_roundw
        case rel =>
          refine ⟨j + 1, by have := HLT.out; omega, by push_cast; rfl, ?_⟩
          have h := HM6.out
          have e : L ++ 123 :: joinP ((List.zipWith memP ks ts).take (j + 1)) = _ := HST.out
          rw [e]
          have hjn0 : ¬ j = 0 := by omega
          simpa [List.append_assoc, memP, quoteP, joinP_nil, hjn0] using h
        case measure => have := HLT.out; simp [intOf]; omega
    · have q : decide ((j : Int) < (l.length : Int)) = false := by simp; omega
      obtain rfl : j = l.length := by omega
      have hfull : (List.zipWith memP ks ts).take l.length = List.zipWith memP ks ts := List.take_of_length_le (by rw [List.length_zipWith]; have := HKN.out; omega)
      have HFU := Lib.hid hfull
      clear hfull
      go_wp2_with (refine stop_append (t := 22) rfl ?_)
      refine ⟨?_⟩
      refine wpList_append_z rfl (.tmp 69) (.tmp 72) rfl rfl (HOWN.out.alloc _) rfl (y := 125) rfl (new_cells _ [.int .u8 125] 5 rfl) (by have h0 := HTOT.out; rw [HFU.out]; simp at h0 ⊢; omega) (by have h1 := HM.out.wb.only.size; have h2 := HW1.out.only.size; have h3 := HBB.out; simp; omega) ?_
      intro gg3 n3 cap3 w3 hown3 hgr3 hor3
      have hm3 := HM.out.snoc ((Only.refl _ wr).alloc _) hown3 hgr3
      have HM3 := Lib.hid hm3
      have HO3 := Lib.hid hown3
      clear hown3 hgr3 hor3 hm3
      go_wp2
      go_ret
      have h3 := HO3.out
      rw [HFU.out, List.append_assoc, List.cons_append] at h3
      exact ⟨_, _, _, rfl, h3, HW1.out.trans HM3.out.wb⟩

theorem write_any {m : Nat} {v : JV} {t : Bytes} (h : GW m v t) : WrOK v t := by
  induction h with
  | num hu =>
    intro X B n c A L w cs hI hJ hlen
    obtain ⟨A1, c1, B1, d1, rfl, _, _⟩ := hJ.parts
    exact write_num hI hu (by simpa using hlen)
  | str hp ha =>
    intro X B n c A L w cs hI hJ hlen
    obtain ⟨A1, c1, B1, d1, rfl, _, _⟩ := hJ.parts
    exact write_str hI hp (by simp [quoteP] at hlen; omega)
  | arr hl hn hg ih => exact write_arr hn (fun i v t hv ht => ih i v t hv ht) hl
  | obj hl hn hk hd hp hg ih => exact write_obj hn hk hp (fun i v t hv ht => ih i v t hv ht) hl
end Go.Proofs.YtjehnejgojgahaaGreatDoor

/- W3 -/
namespace Go.Proofs.YtjehnejgojgahaaGreatDoor
open Go.RowKit
set_option linter.unusedVariables false
set_option linter.unusedSimpArgs false

def BoolAt (q : Bool) (w : World) (e : Ending) (w' : World) : Prop := Only (fun _ => False) w w' ∧ e = .returned (.bool q)
def MayS (v : JV) (m : Nat) : Prop := ∀ (X : Nat → Prop) (w : World) (cs : List Value) (d : Nat), m ≤ d → d ≤ 1000 → JIs X w v cs → Gl w → Calls Tryz.prog 121 #[.agg cs.toArray, .int .i64 d] w (BoolAt true w)
set_option maxRecDepth 100000 in
set_option maxHeartbeats 1600000 in
theorem may_closure {X : Nat → Prop} {v : JV} {m d Hd : Nat} {A B : Option Addr} {c e : Nat} {w : World} (h : MayS v m) (hm : m + 1 ≤ d) (hd : d ≤ 1000) (hj : JIs X w v (cells5 v.kind v.str v.num (.slice A v.list.length c) (.slice B v.keys.length e))) (hc : w.cell? ⟨Hd, 0, none⟩ = some (.int .i64 d)) (hG : Gl w) :
    Calls Tryz.prog 144 #[.agg (cells5 v.kind v.str v.num (.slice A v.list.length c) (.slice B v.keys.length e)).toArray, .pointer (some ⟨Hd, 0, none⟩)] w (BoolAt false w) := by
  have HG := Lib.hid hG
  clear hG
  have HJ := Lib.hid hj
  have HM := Lib.hid hm
  have HD := Lib.hid hd
  obtain ⟨k, rfl⟩ : ∃ k, d = k + 1 := ⟨d - 1, by omega⟩
  have hsub : (((k + 1 : Nat) : Int)) - 1 = (k : Int) := by omega
  have hkz : (k : Int) ≤ 1000 := by omega
  have hlt := cell_lt hc
  have hc1 : (w.alloc (.cells (cells5 v.kind v.str v.num (.slice A v.list.length c) (.slice B v.keys.length e)).toArray 79)).cell? ⟨Hd, 0, none⟩ = some (.int .i64 ((k + 1 : Nat) : Int)) := ((Only.refl (fun _ => False) w).alloc _).cell hc id
  clear hj hm hd hc
  go_enter Tryz.func144, Tryz.ntmps144
  go_wp2_with (first
    | (refine wpList_load_blk (cs := cells5 v.kind v.str v.num (.slice A v.list.length c) (.slice B v.keys.length e)) rfl 79 (.tmp 2) rfl rfl (Blk.new w _ 79) agg79 info79s ?_)
    | (go_at_call 121; refine (h X _ _ k (by have := HM.out; omega) (by have := HD.out; omega) (HJ.out.keep ((Only.refl _ w).alloc _)) (HG.out.alloc _)).mono ?_; rintro e2 w2 ⟨ho2, rfl⟩; have HO2 := Lib.hid ho2; clear ho2))
  go_ret
  exact ⟨((Only.refl _ w).alloc _).trans HO2.out, rfl⟩
set_option maxRecDepth 100000 in
set_option maxHeartbeats 1600000 in
theorem may_index {X : Nat → Prop} {l : List JV} {m d Hd c : Nat} {A : Option Addr} {w : World} (h : ∀ x ∈ l, MayS x m) (hm : m + 1 ≤ d ∨ l = []) (hd : d ≤ 1000) (hl : l.length ≤ 3000000000)
    (hls : ∀ i v, l[i]? = some v → ∃ A2 c2 B2 d2, JIs X w v (cells5 v.kind v.str v.num (.slice A2 v.list.length c2) (.slice B2 v.keys.length d2)) ∧ LieAt X w A 5 i (cells5 v.kind v.str v.num (.slice A2 v.list.length c2) (.slice B2 v.keys.length d2))) (hc : w.cell? ⟨Hd, 0, none⟩ = some (.int .i64 d)) (hG : Gl w) :
    Calls Tryz.prog 165 #[.slice A l.length c, .func (.func 144) #[] #[.pointer (some ⟨Hd, 0, none⟩)]] w (fun e w' => Only (fun _ => False) w w' ∧ e = .returned (.int .i64 (-1))) := by
  have HG := Lib.hid hG
  clear hG
  have HH := Lib.hid h
  have HM := Lib.hid hm
  have HD := Lib.hid hd
  have HLS := Lib.hid hls
  have HC := Lib.hid hc
  have hlz : (l.length : Int) ≤ 3000000000 := by omega
  clear h hm hd hl hls hc
  go_enter Tryz.func165, Tryz.ntmps165
  go_wp2
  go_loopw [8] (fun s8 wr => ∃ j : Nat, j ≤ l.length ∧ s8 = .int .i64 (j : Int) ∧ Only (fun _ => False) w wr) (fun i _ => l.length - (intOf i).toNat)
  case atStart => exact ⟨0, by omega, rfl, Only.refl _ _⟩
  case round =>
    obtain ⟨j, hj, rfl, ho⟩ := hrel
    have HO := Lib.hid ho
    clear ho
    rcases Nat.lt_or_ge j l.length with hlt | hge
    · obtain ⟨x, hx⟩ : ∃ x, l[j]? = some x := ⟨l[j], List.getElem?_eq_getElem hlt⟩
      have q : decide ((j : Int) < (l.length : Int)) = true := by simp; omega
      have hjz : (j : Int) < (l.length : Int) := by omega
      obtain ⟨A2, c2, B2, d2, hjx, hlx⟩ := HLS.out j x hx
      obtain ⟨bA, oA, rfl, hXA, hcA⟩ := hlx
      have HRG := Lib.hid (show wr.rangeAt bA (oA + j * 5) (cells5 x.kind x.str x.num (.slice A2 x.list.length c2) (.slice B2 x.keys.length d2)) from fun i y hy => by
        have := HO.out.cell (hcA i y hy) id
        rw [Nat.add_assoc, Nat.mul_comm j 5]; exact this)
      have HMX := Lib.hid (HH.out x (List.mem_of_getElem? hx))
      have HJX := Lib.hid (hjx.keep HO.out)
      have hm' : m + 1 ≤ d := by
        rcases HM.out with h1 | h1
        · exact h1
        · rw [h1] at hx; simp at hx
      have HM' := Lib.hid hm'
      have HLT := Lib.hid hlt
      clear hx hjx hcA hXA hlt hm'
      go_wp2_with (first
        | (refine load79 rfl (.tmp 14) rfl rfl HRG.out rfl ?_)
        | (go_at_call 144; refine (may_closure HMX.out HM'.out HD.out HJX.out (HO.out.cell HC.out id) (HG.out.only HO.out (fun _ _ => id))).mono ?_; rintro e2 w2 ⟨ho2, rfl⟩; have HO2 := Lib.hid ho2; clear ho2))
      go_roundw
      case rel => exact ⟨j + 1, by have := HLT.out; omega, by push_cast; rfl, HO.out.trans HO2.out⟩
      case measure => have := HLT.out; simp [intOf]; omega
    · have q : decide ((j : Int) < (l.length : Int)) = false := by simp; omega
      go_wp2
      go_ret
      exact ⟨HO.out, rfl⟩
set_option maxRecDepth 100000 in
set_option maxHeartbeats 1600000 in
theorem may_contains {X : Nat → Prop} {l : List JV} {m d Hd c : Nat} {A : Option Addr} {w : World} (h : ∀ x ∈ l, MayS x m) (hm : m + 1 ≤ d ∨ l = []) (hd : d ≤ 1000) (hl : l.length ≤ 3000000000)
    (hls : ∀ i v, l[i]? = some v → ∃ A2 c2 B2 d2, JIs X w v (cells5 v.kind v.str v.num (.slice A2 v.list.length c2) (.slice B2 v.keys.length d2)) ∧ LieAt X w A 5 i (cells5 v.kind v.str v.num (.slice A2 v.list.length c2) (.slice B2 v.keys.length d2))) (hc : w.cell? ⟨Hd, 0, none⟩ = some (.int .i64 d)) (hG : Gl w) :
    Calls Tryz.prog 143 #[.slice A l.length c, .func (.func 144) #[] #[.pointer (some ⟨Hd, 0, none⟩)]] w (BoolAt false w) := by
  have hi := may_index (c := c) h hm hd hl hls hc hG
  have HI := Lib.hid hi
  clear h hm hd hl hls hc hi hG
  go_enter Tryz.func143, Tryz.ntmps143
  go_wp2_with (go_at_call 165; refine HI.out.mono ?_; rintro e2 w2 ⟨ho2, rfl⟩; have HO2 := Lib.hid ho2; clear ho2)
  go_ret
  exact ⟨HO2.out, rfl⟩
end Go.Proofs.YtjehnejgojgahaaGreatDoor

/- W4 -/
namespace Go.Proofs.YtjehnejgojgahaaGreatDoor
open Go.RowKit
set_option linter.unusedVariables false
set_option linter.unusedSimpArgs false

theorem validD_ascii {t : Bytes} (h : ∀ x ∈ t, x.toNat < 128) : Lib.validD t = true := by
  have h1 := Lib.valid_skip ⟨t.toArray⟩ t.length (fun b hb => h b (by have := List.mem_of_mem_take hb; simpa using this))
  have e : ((⟨t.toArray⟩ : ByteArray).extract t.length (⟨t.toArray⟩ : ByteArray).size).data.toList = [] := by
    rw [Lib.ext_list]; simp
  rw [e, show Lib.validD [] = true from rfl] at h1
  have h2 : (⟨t.toArray⟩ : ByteArray).data.toList = t := by simp
  rw [h2] at h1
  exact h1.symm
theorem valid_asc {t : Bytes} {w : World} (h : ∀ x ∈ t, x.toNat < 128) (hl : t.length ≤ 1000000000000) (hG : Gl w) : Calls Tryz.prog 142 #[.string ⟨t.toArray⟩] w (BoolAt true w) := by
  refine (Tryz.utf8_ValidString ⟨t.toArray⟩ w (by show t.toArray.size ≤ _; simp; omega) hG.utf).mono ?_
  rintro e w' ⟨rfl, hb⟩
  refine ⟨Only.ofBelow hb, ?_⟩
  have : Lib.validD (⟨t.toArray⟩ : ByteArray).data.toList = true := validD_ascii (by simpa using h)
  rw [this]
set_option maxRecDepth 100000 in
set_option maxHeartbeats 3200000 in
theorem may_num {n : Nat} : MayS (.mk 3 [] n [] []) 0 := by
  intro X w cs d hmd hd hJ hG
  obtain ⟨A1, c1, B1, d1, rfl, hls, _⟩ := hJ.parts
  have HLS := Lib.hid hls
  have HG := Lib.hid hG
  have HD := Lib.hid hd
  have HMD := Lib.hid hmd
  have hdz : (d : Int) ≤ 1000 := by omega
  clear hJ hls hG hd hmd
  unfold cells5 txt
  try simp only [List.length_nil]
  go_enter Tryz.func121, Tryz.ntmps121
  have hmm := @run_makeMap Tryz.prog
  go_upto_region 10 with (go_at_call 142; refine (valid_asc (t := []) (by simp) (by simp) ((HG.out.alloc _).alloc _)).mono ?_; rintro e w2 ⟨ho2, rfl⟩; have HO2 := Lib.hid (((((Only.refl _ w).alloc _).alloc _).trans ho2)); have hb0 := (((Blk.new w [.int .i64 3, .string ⟨#[]⟩, .int .u64 n, .slice A1 0 c1, .slice B1 0 d1] 79).alloc (Obj.cells #[.int .i64 d] 3)).only ho2 id); have hd0 := (Blk.new (w.alloc (Obj.cells #[.int .i64 3, .string ⟨#[]⟩, .int .u64 n, .slice A1 0 c1, .slice B1 0 d1] 79)) [.int .i64 d] 3).only ho2 id; rw [World.size_alloc] at hd0; have HB0 := Lib.hid hb0; have HD0 := Lib.hid hd0; have kd0 := hd0.cell 0 rfl; have k0 := hb0.cell 0 rfl; have k3 := hb0.cell 3 rfl; have k4 := hb0.cell 4 rfl; have k3m := (hb0.alloc (Obj.map #[] 0)).cell 3 rfl; have k4m := (hb0.alloc (Obj.map #[] 0)).cell 4 rfl; clear ho2 hb0 hd0)
  have hmz := @World.ownsMap_made Unit w2 Tryz.prog 9 (plainElem Tryz.prog 3)
  have o3 : Only (fun _ => False) w (w2.alloc (.map #[] 0)) := HO2.out.alloc _
  have hb3 : Blk (w2.alloc (.map #[] 0)) w.heap.size [.int .i64 3, .string ⟨#[]⟩, .int .u64 n, .slice A1 0 c1, .slice B1 0 d1] 79 := HB0.out.alloc _
  have hd3 := (HD0.out.alloc (.map #[] 0)).cell 0 rfl
  generalize w2.alloc (.map #[] 0) = w3 at o3 hb3 hd3 hmz ⊢
  have HO3 := Lib.hid o3
  have HB3 := Lib.hid hb3
  have HD3 := Lib.hid hd3
  clear o3 hb3 hd3 hmz hmm k3m k4m
  go_loopw [90] (fun s90 wr => s90 = .int .i64 0 ∧ wr = w3) (fun _ _ => 0)
  case atStart => exact ⟨rfl, rfl⟩
  case round =>
    obtain ⟨rfl, rfl⟩ := hrel
    have k3 := HB3.out.cell 3 rfl
    have hct := may_contains (X := X) (l := ([] : List JV)) (m := 0) (A := A1) (c := c1) (fun x hx => by simp at hx) (.inr rfl) HD.out (by simp) (fun i v hv => by simp at hv) HD3.out (HG.out.only HO3.out (fun _ _ => id))
    have HCT := Lib.hid hct
    clear hct
    go_wp2_with (go_at_call 143; refine HCT.out.mono ?_; rintro e w4 ⟨ho4, rfl⟩; have HO4 := Lib.hid ho4; clear ho4)
    go_ret
    exact ⟨HO3.out.trans HO4.out, rfl⟩
set_option maxRecDepth 100000 in
set_option maxHeartbeats 3200000 in
theorem may_str {s : Bytes} (ha : ∀ x ∈ s, x.toNat < 128) (hl : s.length ≤ 1000000000000) : MayS (.mk 4 s 0 [] []) 0 := by
  intro X w cs d hmd hd hJ hG
  obtain ⟨A1, c1, B1, d1, rfl, hls, _⟩ := hJ.parts
  have HLS := Lib.hid hls
  have HG := Lib.hid hG
  have HD := Lib.hid hd
  have HMD := Lib.hid hmd
  have hdz : (d : Int) ≤ 1000 := by omega
  have HA := Lib.hid ha
  have HLN := Lib.hid hl
  clear ha hl
  clear hJ hls hG hd hmd
  unfold cells5 txt
  try simp only [List.length_nil]
  go_enter Tryz.func121, Tryz.ntmps121
  have hmm := @run_makeMap Tryz.prog
  go_upto_region 10 with (go_at_call 142; refine (valid_asc (t := s) HA.out (by exact HLN.out) ((HG.out.alloc _).alloc _)).mono ?_; rintro e w2 ⟨ho2, rfl⟩; have HO2 := Lib.hid (((((Only.refl _ w).alloc _).alloc _).trans ho2)); have hb0 := (((Blk.new w [.int .i64 4, .string ⟨s.toArray⟩, .int .u64 0, .slice A1 0 c1, .slice B1 0 d1] 79).alloc (Obj.cells #[.int .i64 d] 3)).only ho2 id); have hd0 := (Blk.new (w.alloc (Obj.cells #[.int .i64 4, .string ⟨s.toArray⟩, .int .u64 0, .slice A1 0 c1, .slice B1 0 d1] 79)) [.int .i64 d] 3).only ho2 id; rw [World.size_alloc] at hd0; have HB0 := Lib.hid hb0; have HD0 := Lib.hid hd0; have kd0 := hd0.cell 0 rfl; have k0 := hb0.cell 0 rfl; have k3 := hb0.cell 3 rfl; have k4 := hb0.cell 4 rfl; have k3m := (hb0.alloc (Obj.map #[] 0)).cell 3 rfl; have k4m := (hb0.alloc (Obj.map #[] 0)).cell 4 rfl; clear ho2 hb0 hd0)
  have hmz := @World.ownsMap_made Unit w2 Tryz.prog 9 (plainElem Tryz.prog 3)
  have o3 : Only (fun _ => False) w (w2.alloc (.map #[] 0)) := HO2.out.alloc _
  have hb3 : Blk (w2.alloc (.map #[] 0)) w.heap.size [.int .i64 4, .string ⟨s.toArray⟩, .int .u64 0, .slice A1 0 c1, .slice B1 0 d1] 79 := HB0.out.alloc _
  have hd3 := (HD0.out.alloc (.map #[] 0)).cell 0 rfl
  generalize w2.alloc (.map #[] 0) = w3 at o3 hb3 hd3 hmz ⊢
  have HO3 := Lib.hid o3
  have HB3 := Lib.hid hb3
  have HD3 := Lib.hid hd3
  clear o3 hb3 hd3 hmz hmm k3m k4m
  go_loopw [90] (fun s90 wr => s90 = .int .i64 0 ∧ wr = w3) (fun _ _ => 0)
  case atStart => exact ⟨rfl, rfl⟩
  case round =>
    obtain ⟨rfl, rfl⟩ := hrel
    have k3 := HB3.out.cell 3 rfl
    have hct := may_contains (X := X) (l := ([] : List JV)) (m := 0) (A := A1) (c := c1) (fun x hx => by simp at hx) (.inr rfl) HD.out (by simp) (fun i v hv => by simp at hv) HD3.out (HG.out.only HO3.out (fun _ _ => id))
    have HCT := Lib.hid hct
    clear hct
    go_wp2_with (go_at_call 143; refine HCT.out.mono ?_; rintro e w4 ⟨ho4, rfl⟩; have HO4 := Lib.hid ho4; clear ho4)
    go_ret
    exact ⟨HO3.out.trans HO4.out, rfl⟩
set_option maxRecDepth 100000 in
set_option maxHeartbeats 3200000 in
theorem may_arr {l : List JV} {m : Nat} (h : ∀ x ∈ l, MayS x m) (hl : l.length ≤ 3000000000) : MayS (.mk 5 [] 0 l []) (m + 1) := by
  intro X w cs d hmd hd hJ hG
  obtain ⟨A1, c1, B1, d1, rfl, hls, _⟩ := hJ.parts
  have HLS := Lib.hid hls
  have HG := Lib.hid hG
  have HD := Lib.hid hd
  have HMD := Lib.hid hmd
  have hdz : (d : Int) ≤ 1000 := by omega
  have HH := Lib.hid h
  have HLL := Lib.hid hl
  have hd0 : ((d : Int) == 0) = false := by simp; omega
  have hd01 : ¬ (d : Int) = 0 := by omega
  have hlz : (l.length : Int) ≤ 3000000000 := by omega
  clear h hl
  clear hJ hls hG hd hmd
  unfold cells5 txt
  try simp only [List.length_nil]
  go_enter Tryz.func121, Tryz.ntmps121
  have hmm := @run_makeMap Tryz.prog
  go_upto_region 10 with (go_at_call 142; refine (valid_asc (t := []) (by simp) (by simp) ((HG.out.alloc _).alloc _)).mono ?_; rintro e w2 ⟨ho2, rfl⟩; have HO2 := Lib.hid (((((Only.refl _ w).alloc _).alloc _).trans ho2)); have hb0 := (((Blk.new w [.int .i64 5, .string ⟨#[]⟩, .int .u64 0, .slice A1 l.length c1, .slice B1 0 d1] 79).alloc (Obj.cells #[.int .i64 d] 3)).only ho2 id); have hd0 := (Blk.new (w.alloc (Obj.cells #[.int .i64 5, .string ⟨#[]⟩, .int .u64 0, .slice A1 l.length c1, .slice B1 0 d1] 79)) [.int .i64 d] 3).only ho2 id; rw [World.size_alloc] at hd0; have HB0 := Lib.hid hb0; have HD0 := Lib.hid hd0; have kd0 := hd0.cell 0 rfl; have k0 := hb0.cell 0 rfl; have k3 := hb0.cell 3 rfl; have k4 := hb0.cell 4 rfl; have k3m := (hb0.alloc (Obj.map #[] 0)).cell 3 rfl; have k4m := (hb0.alloc (Obj.map #[] 0)).cell 4 rfl; clear ho2 hb0 hd0)
  have hmz := @World.ownsMap_made Unit w2 Tryz.prog 9 (plainElem Tryz.prog 3)
  have o3 : Only (fun _ => False) w (w2.alloc (.map #[] 0)) := HO2.out.alloc _
  have hb3 : Blk (w2.alloc (.map #[] 0)) w.heap.size [.int .i64 5, .string ⟨#[]⟩, .int .u64 0, .slice A1 l.length c1, .slice B1 0 d1] 79 := HB0.out.alloc _
  have hd3 := (HD0.out.alloc (.map #[] 0)).cell 0 rfl
  generalize w2.alloc (.map #[] 0) = w3 at o3 hb3 hd3 hmz ⊢
  have HO3 := Lib.hid o3
  have HB3 := Lib.hid hb3
  have HD3 := Lib.hid hd3
  clear o3 hb3 hd3 hmz hmm k3m k4m
  go_loopw [90] (fun s90 wr => s90 = .int .i64 0 ∧ wr = w3) (fun _ _ => 0)
  case atStart => exact ⟨rfl, rfl⟩
  case round =>
    obtain ⟨rfl, rfl⟩ := hrel
    have k3 := HB3.out.cell 3 rfl
    go_wp2_with (go_at_call 143; refine (may_contains (l := l) HH.out (.inl HMD.out) HD.out (by exact HLL.out) (fun i v hv => (by obtain ⟨A2, c2, B2, d2, h1, h2⟩ := HLS.out i v hv; exact ⟨A2, c2, B2, d2, h1.keep HO3.out, h2.only (by simp [cells5]) HO3.out (fun b hb hx => ⟨id, hx⟩)⟩)) HD3.out (HG.out.only HO3.out (fun _ _ => id))).mono ?_; rintro e w4 ⟨ho4, rfl⟩; have HO4 := Lib.hid ho4; clear ho4)
    go_ret
    exact ⟨HO3.out.trans HO4.out, rfl⟩
end Go.Proofs.YtjehnejgojgahaaGreatDoor

/- W5 -/
namespace Go.Proofs.YtjehnejgojgahaaGreatDoor
open Go.RowKit
set_option linter.unusedVariables false
set_option linter.unusedSimpArgs false

theorem only_grown {w w' : World} (ho : Only (fun _ => False) w w') : w.grownBy w' none := ⟨ho.os, ho.tape, ho.output, ho.size, fun k hk _ => ho.block k hk id⟩
theorem under244 : Tryz.prog.underlying 244 = some (.map 9 3) := by kernel_rfl
theorem keyed9 : Maps.Keyed Tryz.prog 9 := Maps.string_keyed under9
/-- What the map holds behind some keys. -/
def seenD (ks : List Bytes) : DataW Unit := ks.foldl (fun D k => D.put (.string k) (.lit (.int .i64 1))) (.map [])
theorem seenD_snoc (ks : List Bytes) (k : Bytes) : seenD (ks ++ [k]) = (seenD ks).put (.string k) (.lit (.int .i64 1)) := by unfold seenD; rw [List.foldl_append]; rfl
theorem fold_not {k : Bytes} (z : DataW Unit) : ∀ (ks : List Bytes) (D : DataW Unit), k ∉ ks → (ks.foldl (fun D k => D.put (.string k) (.lit (.int .i64 1))) D).atKey (.string k) z = D.atKey (.string k) z
  | [], D, _ => rfl
  | a :: ks, D, h => by
    rw [List.foldl_cons, fold_not z ks _ (fun hm => h (List.mem_cons_of_mem _ hm)), Maps.atKey_put_other]
    intro e
    have : k = a := by injection e
    exact h (by rw [this]; simp)
theorem seenD_not {k : Bytes} {ks : List Bytes} (h : k ∉ ks) (z : DataW Unit) : (seenD ks).atKey (.string k) z = z := fold_not z ks _ h
theorem nodup_take {ks : List Bytes} (h : ks.Nodup) {j : Nat} {k : Bytes} (hk : ks[j]? = some k) : k ∉ ks.take j := by
  intro hm
  obtain ⟨i, hi⟩ := List.getElem?_of_mem hm
  rw [List.getElem?_take] at hi
  split at hi
  · rename_i hij
    obtain ⟨p1, q1⟩ := List.getElem?_eq_some_iff.1 hk
    obtain ⟨p2, q2⟩ := List.getElem?_eq_some_iff.1 hi
    exact List.pairwise_iff_getElem.1 h i j p2 p1 hij (q2.trans q1.symm)
  · cases hi
structure MMid (Hm : Nat) (w : World) (ks : List Bytes) (wr : World) : Prop where
  map : wr.ownsMap Tryz.prog 9 (plainElem (H := Unit) Tryz.prog 3) Hm ks.length (seenD ks)
  only : Only (fun i => i = Hm) w wr
set_option maxRecDepth 100000 in
set_option maxHeartbeats 6400000 in
theorem may_obj {l : List JV} {ks : List Bytes} {m : Nat} (h : ∀ x ∈ l, MayS x m) (hl : l.length ≤ 3000000000) (hkn : ks.length = l.length) (hnd : ks.Nodup) (hpk : ∀ k ∈ ks, (∀ x ∈ k, x.toNat < 128) ∧ k.length ≤ 1000000000000) : MayS (.mk 6 [] 0 l ks) (m + 1) := by
  intro X w cs d hmd hd hJ hG
  obtain ⟨A1, c1, B1, d1, rfl, hls, hks⟩ := hJ.parts
  have HLS := Lib.hid hls
  have HKS := Lib.hid hks
  have HG := Lib.hid hG
  have HD := Lib.hid hd
  have HMD := Lib.hid hmd
  have HND := Lib.hid hnd
  have HPK := Lib.hid hpk
  have HKN := Lib.hid hkn
  have hdz : (d : Int) ≤ 1000 := by omega
  have HH := Lib.hid h
  have HLL := Lib.hid hl
  have hd0 : ((d : Int) == 0) = false := by simp; omega
  have hd01 : ¬ (d : Int) = 0 := by omega
  have hlz : (l.length : Int) ≤ 3000000000 := by omega
  have hkz : (ks.length : Int) ≤ 3000000000 := by omega
  have hkl : ((ks.length : Int) != (l.length : Int)) = false := by simp; omega
  clear hJ hls hks hG hd hmd hnd hpk hkn h hl
  unfold cells5 txt
  try simp only [List.length_nil]
  go_enter Tryz.func121, Tryz.ntmps121
  have hmm := @run_makeMap Tryz.prog
  go_upto_region 10 with (go_at_call 142; refine (valid_asc (t := []) (by simp) (by simp) ((HG.out.alloc _).alloc _)).mono ?_; rintro e w2 ⟨ho2, rfl⟩; have HO2 := Lib.hid (((((Only.refl _ w).alloc _).alloc _).trans ho2)); have hb0 := (((Blk.new w [.int .i64 6, .string ⟨#[]⟩, .int .u64 0, .slice A1 l.length c1, .slice B1 ks.length d1] 79).alloc (Obj.cells #[.int .i64 d] 3)).only ho2 id); have hd9 := (Blk.new (w.alloc (Obj.cells #[.int .i64 6, .string ⟨#[]⟩, .int .u64 0, .slice A1 l.length c1, .slice B1 ks.length d1] 79)) [.int .i64 d] 3).only ho2 id; rw [World.size_alloc] at hd9; have HB0 := Lib.hid hb0; have HD0 := Lib.hid hd9; have kd0 := hd9.cell 0 rfl; have k0 := hb0.cell 0 rfl; have k3 := hb0.cell 3 rfl; have k4 := hb0.cell 4 rfl; have k3m := (hb0.alloc (Obj.map #[] 0)).cell 3 rfl; have k4m := (hb0.alloc (Obj.map #[] 0)).cell 4 rfl; clear ho2 hb0 hd9)
  have hmz := @World.ownsMap_made Unit w2 Tryz.prog 9 (plainElem Tryz.prog 3)
  have o3 : Only (fun _ => False) w (w2.alloc (.map #[] 0)) := HO2.out.alloc _
  have hb3 : Blk (w2.alloc (.map #[] 0)) w.heap.size [.int .i64 6, .string ⟨#[]⟩, .int .u64 0, .slice A1 l.length c1, .slice B1 ks.length d1] 79 := HB0.out.alloc _
  have hd3 := HD0.out.alloc (.map #[] 0)
  have hlow : w.heap.size + 1 < w2.heap.size := HD0.out.lt
  have HLOW := Lib.hid hlow
  generalize w2.alloc (.map #[] 0) = w3 at o3 hb3 hd3 hmz k3m k4m ⊢
  generalize w2.heap.size = Hm at hmz HLOW ⊢
  have HO3 := Lib.hid o3
  have HB3 := Lib.hid hb3
  have HD3 := Lib.hid hd3
  have HMZ := Lib.hid hmz
  clear o3 hb3 hd3 hmz hmm k3m k4m hlow k0 k3 k4 kd0
  go_loopw [90] (fun s90 wr => ∃ j : Nat, j ≤ ks.length ∧ s90 = .int .i64 (j : Int) ∧ MMid Hm w3 (ks.take j) wr) (fun i _ => ks.length - (intOf i).toNat)
  case atStart => exact ⟨0, by omega, rfl, ⟨HMZ.out, Only.refl _ _⟩⟩
  case round =>
    obtain ⟨j, hj, rfl, hm⟩ := hrel
    have HM := Lib.hid hm
    clear hm
    rcases Nat.lt_or_ge j ks.length with hlt | hge
    · obtain ⟨x, hx⟩ : ∃ x, ks[j]? = some x := ⟨ks[j], List.getElem?_eq_getElem hlt⟩
      have q : decide ((j : Int) < (ks.length : Int)) = true := by simp; omega
      have hjz : (j : Int) < (ks.length : Int) := by omega
      obtain ⟨bK, oK, rfl, hXK, hcK⟩ := HKS.out j x hx
      have hcx : wr.cell? ⟨bK, oK + j, none⟩ = some (.string ⟨x.toArray⟩) := by
        have h1 := hcK 0 _ rfl
        have hb := cell_lt h1
        have h2 := HM.out.only.cell (HO3.out.cell h1 id) (by have := HLOW.out; simp at hb ⊢; omega)
        simpa [txt] using h2
      have hpx := HPK.out x (List.mem_of_getElem? hx)
      have hkey : keyOf Tryz.prog 9 (.string ⟨x.toArray⟩) = some (.string x) := by
        have := WideMaps.keyOf_string_mk (P := Tryz.prog) (k := 9) under9 (s := ⟨x.toArray⟩) (by show x.toArray.size ≤ _; have := hpx.2; unfold maxLen; simp; omega)
        simpa using this
      obtain ⟨cc, hrun, hat, _⟩ := HM.out.map.lookup_int keyed9 under244 under3 (zero3 _) hkey
      rw [seenD_not (nodup_take HND.out hx)] at hat
      have hcc : cc = 0 := by injection hat with h1; injection h1 with h2 h3; exact h3.symm
      subst hcc
      have HPX := Lib.hid hpx
      have HKEY := Lib.hid hkey
      have HTS := Lib.hid (take_snoc hx)
      have HLT := Lib.hid hlt
      have HGW := Lib.hid (show Gl wr from (HG.out.only HO3.out (fun _ _ => id)).only HM.out.only (fun b hb e => by have h8 := HG.out.size; have := HLOW.out; omega))
      have HKL := Lib.hid (show (ks.take j).length = j by rw [List.length_take]; omega)
      clear hx hcK hXK hpx hkey hat hlt
      go_wp2_with (go_at_call 142; refine (valid_asc (t := x) HPX.out.1 (by have := HPX.out.2; omega) HGW.out).mono ?_; rintro e w5 ⟨ho5, rfl⟩; have hm5 := HM.out.map.kept (only_grown ho5) (by simp); obtain ⟨w6, hrun6, hown6, hgr6⟩ := hm5.update keyed9 under244 (by rw [HKL.out]; unfold maxLen; omega) HKEY.out (plainElem_int under3 (a := 1) (by decide)); have HOWN6 := Lib.hid hown6; have HGR6 := Lib.hid hgr6; have HO5 := Lib.hid ho5; clear ho5 hm5 hown6 hgr6)
      go_roundw
      case rel =>
        refine ⟨j + 1, by have := HLT.out; omega, by push_cast; rfl, ?_, ?_⟩
        · rw [HTS.out, seenD_snoc, List.length_append]
          exact HOWN6.out
        · exact (HM.out.only.trans (HO5.out.mono (fun _ _ h => h.elim))).then (Only.ofGrown HGR6.out) (fun i hi h => by simpa using h.symm)
      case measure => have := HLT.out; simp [intOf]; omega
    · have q : decide ((j : Int) < (ks.length : Int)) = false := by simp; omega
      obtain rfl : j = ks.length := by omega
      have hbr := HB3.out.only HM.out.only (by have := HLOW.out; show ¬ (_ = _); omega)
      have hdr := HD3.out.only HM.out.only (by have := HLOW.out; show ¬ (_ = _); omega)
      have k3 := hbr.cell 3 rfl
      have HDR := Lib.hid (hdr.cell 0 rfl)
      have howr : Only (fun _ => False) w wr := HO3.out.then HM.out.only (fun i hi e => by have := HLOW.out; omega)
      have hct := may_contains (X := X) (l := l) (A := A1) (c := c1) HH.out (.inl HMD.out) HD.out HLL.out (fun i v hv => by obtain ⟨A2, c2, B2, d2, h1, h2⟩ := HLS.out i v hv; exact ⟨A2, c2, B2, d2, h1.keep howr, h2.only (by simp [cells5]) howr (fun b hb hx => ⟨id, hx⟩)⟩) HDR.out (HG.out.only howr (fun _ _ => id))
      have HCT := Lib.hid hct
      have HOW := Lib.hid howr
      clear hct hbr hdr howr
      go_wp2_with (go_at_call 143; refine HCT.out.mono ?_; rintro e w4 ⟨ho4, rfl⟩; have HO4 := Lib.hid ho4; clear ho4)
      go_ret
      exact ⟨HOW.out.trans HO4.out, rfl⟩
end Go.Proofs.YtjehnejgojgahaaGreatDoor

/- W6 -/
namespace Go.Proofs.YtjehnejgojgahaaGreatDoor
open Go.RowKit
set_option linter.unusedVariables false
set_option linter.unusedSimpArgs false

theorem joinP_part {ts : List Bytes} {i : Nat} {t : Bytes} (h : ts[i]? = some t) : t.length ≤ (joinP ts).length := by
  have h1 : (joinP (ts.take (i + 1))).length ≤ (joinP ts).length := joinP_take_le ts (i + 1)
  rw [take_snoc h, joinP_snoc] at h1
  simp only [List.length_append] at h1
  omega
theorem may_any {m : Nat} {v : JV} {t : Bytes} (h : GW m v t) : t.length ≤ 1000000000000 → MayS v m := by
  have up : ∀ {v : JV} {a b : Nat}, a ≤ b → MayS v a → MayS v b := fun hab h X w cs d hd h1 hj hG => h X w cs d (Nat.le_trans hab hd) h1 hj hG
  induction h with
  | num hu => intro _; exact up (Nat.zero_le _) may_num
  | str hp ha => intro hl; exact up (Nat.zero_le _) (may_str ha (by simp [quoteP] at hl; omega))
  | @arr m l ts hl hn hg ih =>
    intro hlen
    refine may_arr (fun x hx => ?_) hl
    obtain ⟨i, hi⟩ := List.getElem?_of_mem hx
    have h1 := (List.getElem?_eq_some_iff.1 hi).1
    obtain ⟨t, ht⟩ : ∃ t, ts[i]? = some t := ⟨ts[i]'(by omega), List.getElem?_eq_getElem _⟩
    have := joinP_part ht
    exact ih i x t hi ht (by simp at hlen; omega)
  | @obj m l ks ts hl hn hk hd hp hg ih =>
    intro hlen
    have hm : ∀ (i : Nat) (k t : Bytes), ks[i]? = some k → ts[i]? = some t → k.length + t.length ≤ 1000000000000 := by
      intro i k t h1 h2
      have h3 : (List.zipWith memP ks ts)[i]? = some (memP k t) := by rw [List.getElem?_zipWith, h1, h2]
      have := joinP_part h3
      simp [memP, quoteP] at this
      simp at hlen
      omega
    refine may_obj (fun x hx => ?_) hl hk hd (fun k hk2 => ⟨(hp k hk2).2, ?_⟩)
    · obtain ⟨i, hi⟩ := List.getElem?_of_mem hx
      have h1 := (List.getElem?_eq_some_iff.1 hi).1
      obtain ⟨t, ht⟩ : ∃ t, ts[i]? = some t := ⟨ts[i]'(by omega), List.getElem?_eq_getElem _⟩
      obtain ⟨k, hk3⟩ : ∃ k, ks[i]? = some k := ⟨ks[i]'(by omega), List.getElem?_eq_getElem _⟩
      exact ih i x t hi ht (by have := hm i k t hk3 ht; omega)
    · obtain ⟨i, hi⟩ := List.getElem?_of_mem hk2
      have h1 := (List.getElem?_eq_some_iff.1 hi).1
      obtain ⟨t, ht⟩ : ∃ t, ts[i]? = some t := ⟨ts[i]'(by omega), List.getElem?_eq_getElem _⟩
      have := hm i k t hi ht
      omega
set_option maxRecDepth 100000 in
set_option maxHeartbeats 1600000 in
theorem may98 {X : Nat → Prop} {v : JV} {w : World} {cs : List Value} (h : MayS v 8) (hj : JIs X w v cs) (hG : Gl w) : Calls Tryz.prog 98 #[.agg cs.toArray] w (BoolAt true w) := by
  have HJ := Lib.hid hj
  have HG := Lib.hid hG
  obtain ⟨A, c, B, d, rfl⟩ := hj.form
  have HC := Lib.hid (h X (w.alloc (.cells (cells5 v.kind v.str v.num (.slice A v.list.length c) (.slice B v.keys.length d)).toArray 79)) _ 8 (Nat.le_refl _) (by decide) (hj.keep ((Only.refl _ w).alloc _)) (hG.alloc _))
  clear hj hG h
  unfold cells5 txt at *
  go_enter Tryz.func98, Tryz.ntmps98
  go_wp2_with (go_at_call 121; refine HC.out.mono ?_; rintro e w2 ⟨ho2, rfl⟩; have HO2 := Lib.hid (((Only.refl _ w).alloc _).trans ho2); clear ho2)
  go_ret
  exact ⟨HO2.out, rfl⟩
/-- The text of a value, or none if it is too long. -/
def outT (t : Bytes) : Bytes := if t.length ≤ 1048576 then t else []
def JTextAt (B : Nat) (t : Bytes) (w : World) (e : Ending) (w' : World) : Prop :=
  WB B w w' ∧ ∃ A c, e = .returned (.tuple #[.slice A (outT t).length c, .int .i64 (if t.length ≤ 1048576 then 0 else 3)]) ∧ OwnB w' B (.slice A (outT t).length c) (outT t)
set_option maxRecDepth 100000 in
set_option maxHeartbeats 1600000 in
theorem jtext_any {X : Nat → Prop} {B : Nat} {v : JV} {t : Bytes} {w : World} {cs : List Value} (hg : GW 8 v t) (hlen : t.length ≤ 1000000000000) (hj : JIs X w v cs) (hG : Gl w) (hB : B ≤ w.heap.size) (hb8 : 8 ≤ B) (hX : ∀ b, X b → b < B) :
    Calls Tryz.prog 78 #[.agg cs.toArray] w (JTextAt B t w) := by
  have HJ := Lib.hid hj
  have HG := Lib.hid hG
  have HB := Lib.hid hB
  have HM := Lib.hid (may_any hg hlen)
  have HW := Lib.hid (write_any hg)
  have HL := Lib.hid hlen
  have H8 := Lib.hid hb8
  have HX := Lib.hid hX
  obtain ⟨A, c, B1, d, rfl⟩ := hj.form
  obtain ⟨n, hn⟩ : ∃ n, n = t.length := ⟨_, rfl⟩
  have HN := Lib.hid hn
  have hw1 : Only (fun _ => False) w (w.alloc (.cells (cells5 v.kind v.str v.num (.slice A v.list.length c) (.slice B1 v.keys.length d)).toArray 79)) := (Only.refl _ w).alloc _
  have HC := Lib.hid (may98 (X := X) HM.out (hj.keep hw1) (hG.alloc _))
  have HWW := Lib.hid hw1
  by_cases hle : n ≤ 1048576
  · have q : decide ((1048576 : Int) < (n : Int)) = false := by simp; omega
    have hz : (n : Int) ≤ 1048576 := by omega
    have HDO := Lib.hid (show ∀ w' A c, WB B w w' → OwnB w' B (.slice A n c) t → JTextAt B t w (.returned (.tuple #[.slice A n c, .int .i64 0])) w' from fun w' A c h1 h2 => by
      subst hn
      refine ⟨h1, A, c, ?_, ?_⟩
      · unfold outT; rw [if_pos hle, if_pos hle]
      · unfold outT; rw [if_pos hle]; exact h2)
    clear hj hG hg hlen hn hle hw1 hB hb8 hX
    unfold cells5 txt at *
    go_enter Tryz.func78, Tryz.ntmps78
    go_wp2_with (first
      | (go_at_call 98; refine HC.out.mono ?_; rintro e w2 ⟨ho2, rfl⟩; have HO2 := Lib.hid (HWW.out.trans ho2); have hb2 := (Blk.new w [.int .i64 v.kind, .string ⟨v.str.toArray⟩, .int .u64 v.num, .slice A v.list.length c, .slice B1 v.keys.length d] 79).only ho2 id; have k0 := hb2.cell 0 rfl; have k1 := hb2.cell 1 rfl; have k2 := hb2.cell 2 rfl; have k3 := hb2.cell 3 rfl; have k4 := hb2.cell 4 rfl; clear ho2 hb2)
      | (go_at_call 99; refine (HW.out X B 0 0 none [] w2 _ ⟨HX.out, HG.out.only HO2.out (fun _ _ => id), H8.out, OwnB.nil _ _, Nat.le_trans HB.out HO2.out.size⟩ (HJ.out.keep HO2.out) (by simpa using HL.out)).mono ?_; rintro e w3 ⟨A3, n3, c3, rfl, ho3, hw3⟩; rw [List.nil_append] at ho3; obtain rfl := ho3.bytes.1; rw [← HN.out] at ho3 ⊢; have HO3 := Lib.hid ho3; have HW3 := Lib.hid hw3; clear ho3 hw3))
    go_ret2
    exact HDO.out _ _ _ ((WB.of_false HO2.out).trans HW3.out) HO3.out
  · have q : decide ((1048576 : Int) < (n : Int)) = true := by simp; omega
    have hz : (1048576 : Int) < (n : Int) := by omega
    have HDO := Lib.hid (show ∀ w', WB B w w' → JTextAt B t w (.returned (.tuple #[.slice none 0 0, .int .i64 3])) w' from fun w' h1 => by
      subst hn
      refine ⟨h1, none, 0, ?_, ?_⟩
      · unfold outT; rw [if_neg hle, if_neg hle]; rfl
      · unfold outT; rw [if_neg hle]; exact OwnB.nil _ _)
    clear hj hG hg hlen hn hle hw1 hB hb8 hX
    unfold cells5 txt at *
    go_enter Tryz.func78, Tryz.ntmps78
    go_wp2_with (first
      | (go_at_call 98; refine HC.out.mono ?_; rintro e w2 ⟨ho2, rfl⟩; have HO2 := Lib.hid (HWW.out.trans ho2); have hb2 := (Blk.new w [.int .i64 v.kind, .string ⟨v.str.toArray⟩, .int .u64 v.num, .slice A v.list.length c, .slice B1 v.keys.length d] 79).only ho2 id; have k0 := hb2.cell 0 rfl; have k1 := hb2.cell 1 rfl; have k2 := hb2.cell 2 rfl; have k3 := hb2.cell 3 rfl; have k4 := hb2.cell 4 rfl; clear ho2 hb2)
      | (go_at_call 99; refine (HW.out X B 0 0 none [] w2 _ ⟨HX.out, HG.out.only HO2.out (fun _ _ => id), H8.out, OwnB.nil _ _, Nat.le_trans HB.out HO2.out.size⟩ (HJ.out.keep HO2.out) (by simpa using HL.out)).mono ?_; rintro e w3 ⟨A3, n3, c3, rfl, ho3, hw3⟩; rw [List.nil_append] at ho3; obtain rfl := ho3.bytes.1; rw [← HN.out] at ho3 ⊢; have HO3 := Lib.hid ho3; have HW3 := Lib.hid hw3; clear ho3 hw3))
    go_ret2
    exact HDO.out _ ((WB.of_false HO2.out).trans HW3.out)
def MTextAt (B : Nat) (t : Bytes) (w : World) (e : Ending) (w' : World) : Prop :=
  WB B w w' ∧ ∃ A c, e = .returned (.slice A (outT t).length c) ∧ OwnB w' B (.slice A (outT t).length c) (outT t)
set_option maxRecDepth 100000 in
set_option maxHeartbeats 1600000 in
theorem mtext_any {X : Nat → Prop} {B : Nat} {v : JV} {t : Bytes} {w : World} {cs : List Value} (hg : GW 8 v t) (hlen : t.length ≤ 1000000000000) (hj : JIs X w v cs) (hG : Gl w) (hB : B ≤ w.heap.size) (hb8 : 8 ≤ B) (hX : ∀ b, X b → b < B) :
    Calls Tryz.prog 52 #[.agg cs.toArray] w (MTextAt B t w) := by
  obtain ⟨A, c, B1, d, rfl⟩ := hj.form
  have hw1 : Only (fun _ => False) w (w.alloc (.cells (cells5 v.kind v.str v.num (.slice A v.list.length c) (.slice B1 v.keys.length d)).toArray 79)) := (Only.refl _ w).alloc _
  have HC := Lib.hid (jtext_any hg hlen (hj.keep hw1) (hG.alloc _) (Nat.le_trans hB hw1.size) hb8 hX)
  have HWW := Lib.hid hw1
  clear hj hG hB hb8 hX hw1
  by_cases hle : t.length ≤ 1048576
  · have HDO := Lib.hid (show ∀ w' A c, WB B w w' → OwnB w' B (.slice A (outT t).length c) (outT t) → MTextAt B t w (.returned (.slice A (outT t).length c)) w' from fun w' A c h1 h2 => ⟨h1, A, c, rfl, h2⟩)
    have HE := Lib.hid (show (if t.length ≤ 1048576 then (0 : Int) else 3) = 0 from if_pos hle)
    clear hg hlen hle
    unfold cells5 txt at *
    go_enter Tryz.func52, Tryz.ntmps52
    go_wp2_with (go_at_call 78; refine HC.out.mono ?_; rintro e w2 ⟨hw2, A2, c2, rfl, ho2⟩; rw [HE.out]; have HW2 := Lib.hid hw2; have HO2 := Lib.hid ho2; clear hw2 ho2)
    go_ret
    exact HDO.out _ _ _ ((WB.of_false HWW.out).trans HW2.out) HO2.out
  · have HDO := Lib.hid (show ∀ w', WB B w w' → MTextAt B t w (.returned (.slice none 0 0)) w' from fun w' h1 => ⟨h1, none, 0, by unfold outT; rw [if_neg hle]; rfl, by unfold outT; rw [if_neg hle]; exact OwnB.nil _ _⟩)
    have HE := Lib.hid (show (if t.length ≤ 1048576 then (0 : Int) else 3) = 3 from if_neg hle)
    clear hg hlen hle
    unfold cells5 txt at *
    go_enter Tryz.func52, Tryz.ntmps52
    go_wp2_with (go_at_call 78; refine HC.out.mono ?_; rintro e w2 ⟨hw2, A2, c2, rfl, ho2⟩; rw [HE.out]; have HW2 := Lib.hid hw2; clear hw2 ho2)
    go_ret
    exact HDO.out _ ((WB.of_false HWW.out).trans HW2.out)
end Go.Proofs.YtjehnejgojgahaaGreatDoor

/- Y0 -/
namespace Go.Proofs.YtjehnejgojgahaaGreatDoor
open Go.RowKit
set_option linter.unusedVariables false
set_option linter.unusedSimpArgs false

/-- A call makes this value, from block H on. -/
def VOut (H : Nat) (v : JV) (w : World) (e : Ending) (w' : World) : Prop :=
  Only (fun _ => False) w w' ∧ ∃ cs, e = .returned (.agg cs.toArray) ∧ JIs (fun b => H ≤ b) w' v cs
theorem VOut.mono {H H' : Nat} {v : JV} {w : World} {e : Ending} {w' : World} (h : VOut H v w e w') (hH : H' ≤ H) : VOut H' v w e w' := by
  obtain ⟨h1, cs, h2, h3⟩ := h
  exact ⟨h1, cs, h2, h3.mono (fun b _ hb => Nat.le_trans hH hb)⟩
def numV (n : Nat) : JV := .mk 3 [] n [] []
def wordV (l : Bytes) : JV := .mk 4 (put64 l) 0 [] []
set_option maxRecDepth 100000 in
set_option maxHeartbeats 1600000 in
theorem numV_any {n : Nat} {w : World} : Calls Tryz.prog 54 #[.int .u64 n] w (VOut w.heap.size (numV n) w) := by
  go_enter Tryz.func54, Tryz.ntmps54
  go_wp2_with (refine wpList_store_blk (cs := [.int .i64 3, .string ⟨#[]⟩, .int .u64 n, .slice none 0 0, .slice none 0 0]) rfl 79 (.tmp 2) (.tmp 4) rfl rfl rfl rfl (Blk.new w [.int .i64 0, .string ⟨#[]⟩, .int .u64 0, .slice none 0 0, .slice none 0 0] 79) rfl info79s rfl ?_; intro w2 hb2 ho2; have HB2 := Lib.hid hb2; have HO2 := Lib.hid ho2; clear hb2 ho2)
  refine bodyPost_ret (ret_cell rfl rfl HB2.out agg79 info79s) rfl ?_
  exact ⟨((Only.refl _ w).alloc _).then HO2.out (fun i hi e => by omega), _, rfl, JIs.plain _ _ 3 [] n none none 0 0⟩
set_option maxRecDepth 100000 in
set_option maxHeartbeats 1600000 in
theorem wordV_any {A : Option Addr} {c : Nat} {l : Bytes} {w : World} (hB : BytesAt w A l) (hcap : l.length ≤ c) (hl : l.length ≤ 1000000000) : Calls Tryz.prog 56 #[.slice A l.length c] w (VOut w.heap.size (wordV l) w) := by
  have HC := Lib.hid (put_any (w := w.alloc (.cells #[.int .i64 0, .string ⟨#[]⟩, .int .u64 0, .slice none 0 0, .slice none 0 0] 79)) (hB.only ((Only.refl (fun _ => False) w).alloc _) (fun _ _ _ => id)) hcap hl)
  clear hB hcap hl
  go_enter Tryz.func56, Tryz.ntmps56
  go_wp2_with (first
    | (go_at_call 79; refine HC.out.mono ?_; rintro e w1 ⟨ho1, rfl⟩; unfold txt; have HO1 := Lib.hid (((Only.refl _ w).alloc _).trans ho1); have HB1 := Lib.hid ((Blk.new w [.int .i64 0, .string ⟨#[]⟩, .int .u64 0, .slice none 0 0, .slice none 0 0] 79).only ho1 id); clear ho1)
    | (refine wpList_store_blk (cs := [.int .i64 4, .string ⟨(put64 l).toArray⟩, .int .u64 0, .slice none 0 0, .slice none 0 0]) rfl 79 (.tmp 2) (.tmp 5) rfl rfl rfl rfl HB1.out rfl info79s rfl ?_; intro w2 hb2 ho2; have HB2 := Lib.hid hb2; have HO2 := Lib.hid ho2; clear hb2 ho2))
  refine bodyPost_ret (ret_cell rfl rfl HB2.out agg79 info79s) rfl ?_
  exact ⟨HO1.out.then HO2.out (fun i hi e => by omega), _, rfl, JIs.plain _ _ 4 (put64 l) 0 none none 0 0⟩
theorem blk_bytes {w : World} {g : Nat} {l : Bytes} {T : TypeId} (h : Blk w g (u8s l) T) : BytesAt w (some ⟨g, 0, none⟩) l := by
  intro i x hx
  refine ⟨g, 0, rfl, ?_⟩
  rw [Nat.zero_add]
  refine h.cell i ?_
  unfold u8s
  rw [List.getElem?_map, hx]; rfl
theorem wordV32 {A : Option Addr} {l : Bytes} {w : World} (hB : BytesAt w A l) (hl : l.length = 32) : Calls Tryz.prog 56 #[.slice A 32 32] w (VOut w.heap.size (wordV l) w) := by
  have := wordV_any (c := 32) hB (by omega) (by omega)
  rw [hl] at this
  exact this
set_option maxRecDepth 100000 in
set_option maxHeartbeats 1600000 in
theorem hashV_any {d : Bytes} {w : World} (hd : d.length = 32) : Calls Tryz.prog 55 #[.agg (u8s d).toArray] w (VOut w.heap.size (wordV d) w) := by
  have HD := Lib.hid hd
  clear hd
  go_enter Tryz.func55, Tryz.ntmps55
  go_wp2_with (first
    | (refine wpList_box_blk rfl 24 1 (.tmp 0) rfl rfl rfl ?_; intro w1 hb1 ho1 hs1; have HB1 := Lib.hid hb1; have HO1 := Lib.hid ho1; have HS1 := Lib.hid hs1; have HA1 := Lib.hid (blk_bytes (hb1.alloc (.cells #[.int .i64 0, .string ⟨#[]⟩, .int .u64 0, .slice none 0 0, .slice none 0 0] 79))); clear hb1 ho1 hs1)
    | (go_at_call 56; refine (wordV32 HA1.out HD.out).mono ?_; rintro e w2 ⟨ho2, cs, rfl, hj2⟩; obtain ⟨A2, c2, B2, d2, rfl⟩ := hj2.form; have HO2 := Lib.hid ho2; have HJ2 := Lib.hid hj2; have HB2 := Lib.hid ((Blk.new w1 [.int .i64 0, .string ⟨#[]⟩, .int .u64 0, .slice none 0 0, .slice none 0 0] 79).only ho2 id); clear ho2 hj2)
    | (refine wpList_store_blk (cs := cells5 (wordV d).kind (wordV d).str (wordV d).num (.slice A2 (wordV d).list.length c2) (.slice B2 (wordV d).keys.length d2)) rfl 79 (.tmp 2) (.tmp 4) rfl rfl rfl rfl HB2.out rfl info79s rfl ?_; intro w3 hb3 ho3; have HB3 := Lib.hid hb3; have HO3 := Lib.hid ho3; clear hb3 ho3))
  refine bodyPost_ret (ret_cell rfl rfl HB3.out agg79 info79s) rfl ?_
  have o2 : Only (fun _ => False) w w2 := (HO1.out.alloc _).trans HO2.out
  refine ⟨o2.then HO3.out (fun i hi e => by have := HS1.out; omega), _, rfl, ?_⟩
  exact JIs.plain _ _ 4 (put64 d) 0 _ _ _ _
end Go.Proofs.YtjehnejgojgahaaGreatDoor

/- Z0 -/
namespace Go.Proofs.YtjehnejgojgahaaGreatDoor
set_option linter.unusedVariables false
set_option linter.unusedSimpArgs false

theorem dig10 {k : Nat} (h : k < 10) : isDig (UInt8.ofNat (48 + k)) = true ∧ (UInt8.ofNat (48 + k)).toNat = 48 + k := by
  have e : (UInt8.ofNat (48 + k)).toNat = 48 + k := by rw [UInt8.toNat_ofNat']; omega
  refine ⟨?_, e⟩
  unfold isDig
  rw [e]
  exact decide_eq_true (by omega)
theorem decD_dig (u : Nat) : ∀ x ∈ Lib.decDigits u, isDig x = true := by
  induction u using Nat.strongRecOn with
  | _ u ih =>
    intro x hx
    rw [Lib.decDigits] at hx
    split at hx
    · rename_i h
      rw [List.mem_singleton.1 hx]; exact (dig10 h).1
    · rcases List.mem_append.1 hx with hx | hx
      · exact ih (u / 10) (by omega) x hx
      · rw [List.mem_singleton.1 hx]; exact (dig10 (by omega)).1
theorem decD_dv (u : Nat) : dv (Lib.decDigits u) = u := by
  induction u using Nat.strongRecOn with
  | _ u ih =>
    rw [Lib.decDigits]
    split
    · rename_i h
      have := (dig10 h).2
      show 10 * 0 + ((UInt8.ofNat (48 + u)).toNat - 48) = u
      omega
    · have := (dig10 (show u % 10 < 10 by omega)).2
      rw [dv_snoc, ih (u / 10) (by omega)]
      omega
theorem decD_head (u : Nat) (h : u ≠ 0) : ∃ c r, Lib.decDigits u = c :: r ∧ c ≠ 48 := by
  induction u using Nat.strongRecOn with
  | _ u ih =>
    rw [Lib.decDigits]
    split
    · rename_i hu
      refine ⟨_, [], rfl, fun e => ?_⟩
      have := (dig10 hu).2
      rw [e] at this
      have h48 : (48 : UInt8).toNat = 48 := rfl
      omega
    · obtain ⟨c, r, e, hc⟩ := ih (u / 10) (by omega) (by omega)
      rw [e]
      exact ⟨c, _, rfl, hc⟩
theorem decD_ok (u : Nat) (h : u < 18446744073709551616) : numOk (Lib.decDigits u) = true := by
  have hd : decide (big ≤ dv (Lib.decDigits u)) = false := by rw [decD_dv]; unfold big; exact decide_eq_false (by omega)
  by_cases h0 : u = 0
  · subst h0
    rw [show Lib.decDigits 0 = [48] from Lib.decDigits_one (by decide)]; decide
  · obtain ⟨c, r, e, hc⟩ := decD_head u h0
    unfold numOk
    rw [hd, e]
    simp [hc]
theorem decD_ne (u : Nat) : ∃ c r, Lib.decDigits u = c :: r ∧ isDig c = true := by
  by_cases h0 : u = 0
  · subst h0
    exact ⟨48, [], Lib.decDigits_one (by decide), by decide⟩
  · obtain ⟨c, r, e, _⟩ := decD_head u h0
    exact ⟨c, r, e, decD_dig u c (by rw [e]; simp)⟩
theorem decD_len (k : Nat) : ∀ u, u < 10 ^ (k + 1) → (Lib.decDigits u).length ≤ k + 1 := by
  induction k with
  | zero => intro u h; rw [Lib.decDigits_one (by omega)]; simp
  | succ k ih =>
    intro u h
    rw [Lib.decDigits]
    split
    · simp
    · have := ih (u / 10) (by rw [Nat.pow_succ] at h; omega)
      simp; omega

theorem strB_plain : ∀ (s acc q : Bytes), PlainT s → strB ((s ++ 34 :: q).length + 1) acc (s ++ 34 :: q) = some (acc ++ s, q)
  | [], acc, q, _ => by rw [List.append_nil]; exact strB_end acc q
  | x :: s, acc, q, h => by
    have hx := h x (by simp)
    rw [List.cons_append, ← strB_next acc x (s ++ 34 :: q) (by omega) hx.2.1 hx.2.2, strB_plain s (acc ++ [x]) q (fun y hy => h y (by simp [hy]))]
    simp
theorem strOf_plain {s q : Bytes} (h : PlainT s) (ha : ∀ x ∈ s, x.toNat < 128) : strOf (34 :: (s ++ 34 :: q)) = some (s, q) := by
  unfold strOf
  have e : mustB [34] (34 :: (s ++ 34 :: q)) = some (s ++ 34 :: q) := by simp [mustB]
  rw [e]
  simp only []
  rw [strB_plain s [] q h]
  simp only [List.nil_append]
  rw [if_pos (validD_ascii ha)]
theorem quoteP_app (s q : Bytes) : quoteP s ++ q = 34 :: (s ++ 34 :: q) := by simp [quoteP]

def startB (c : UInt8) : Prop := isBlank c = false ∧ c ≠ 93 ∧ c ≠ 125
instance (c : UInt8) : Decidable (startB c) := by unfold startB; infer_instance
theorem dig_start {c : UInt8} (h : isDig c = true) : startB c := by
  simp only [isDig, decide_eq_true_eq] at h
  have ne : ∀ k : UInt8, (57 < k.toNat ∨ k.toNat < 48) → c ≠ k := fun k hk e => by subst e; omega
  refine ⟨?_, ne _ (by decide), ne _ (by decide)⟩
  unfold isBlank
  simp [ne 32 (by decide), ne 9 (by decide), ne 10 (by decide), ne 13 (by decide)]
theorem gw_head {m : Nat} {v : JV} {t : Bytes} (h : GW m v t) : ∃ c r, t = c :: r ∧ startB c := by
  cases h with
  | num hn => 
    obtain ⟨c, r, e, hc⟩ := decD_ne (‹Nat›)
    exact ⟨c, r, e, dig_start hc⟩
  | str => exact ⟨34, _, rfl, by decide⟩
  | arr => exact ⟨91, _, rfl, by decide⟩
  | obj => exact ⟨123, _, rfl, by decide⟩
theorem skipB_start {c : UInt8} {r : Bytes} (h : isBlank c = false) : skipB (c :: r) = c :: r := by rw [skipB, if_neg (by simp [h])]

def tailP (ts : List Bytes) : Bytes := (ts.map (44 :: ·)).flatten
theorem tailP_cons (t : Bytes) (ts : List Bytes) (q : Bytes) : tailP (t :: ts) ++ q = 44 :: (t ++ (tailP ts ++ q)) := by simp [tailP]
theorem tail_zip : ∀ (ts : List Bytes) (k : Nat), 0 < k → ((ts.zipIdx k).map fun x => (if x.2 = 0 then ([] : Bytes) else [44]) ++ x.1).flatten = tailP ts
  | [], k, h => rfl
  | t :: ts, k, h => by
    rw [List.zipIdx_cons, List.map_cons, List.flatten_cons, tail_zip ts (k + 1) (by omega)]
    simp only []
    rw [if_neg (by omega)]
    unfold tailP
    simp
theorem joinP_cons (t : Bytes) (ts : List Bytes) : joinP (t :: ts) = t ++ tailP ts := by
  unfold joinP
  rw [List.zipIdx_cons, List.map_cons, List.flatten_cons, tail_zip ts 1 (by omega)]
  simp

def RD (m : Nat) (v : JV) (t : Bytes) : Prop := ∀ q : Bytes, (∀ x, q.head? = some x → isDig x = false) → VD m (t ++ q) = some (v, q)
theorem nodig {c : UInt8} {r : Bytes} (h : isDig c = false) : ∀ x, (c :: r).head? = some x → isDig x = false := by
  intro x hx
  simp at hx
  rw [← hx]; exact h
theorem read_list {m : Nat} : ∀ (vs : List JV) (ts : List Bytes) (v : JV) (t : Bytes) (acc : List JV) (q : Bytes), vs.length = ts.length → RD m v t →
    (∀ (i : Nat) (v : JV) (t : Bytes), vs[i]? = some v → ts[i]? = some t → RD m v t) → LD m 5 93 acc [] (t ++ (tailP ts ++ 93 :: q)) = some (.mk 5 [] 0 (acc ++ v :: vs) [], q)
  | [], [], v, t, acc, q, _, hv, _ => by
    rw [LD_list, show tailP [] ++ 93 :: q = 93 :: q from rfl, hv _ (nodig (by decide))]
    simp only [Option.bind_some, afterD]
    rw [skipB_start (by decide), if_pos (by simp)]
    simp
  | v2 :: vs, t2 :: ts, v, t, acc, q, hl, hv, hall => by
    rw [LD_list, tailP_cons, hv _ (nodig (by decide))]
    simp only [Option.bind_some, afterD]
    rw [skipB_start (by decide), if_neg (by simp), must44]
    simp only []
    rw [read_list vs ts v2 t2 (acc ++ [v]) q (by simpa using hl) (hall 0 _ _ rfl rfl) (fun i v t h1 h2 => hall (i + 1) v t (by simpa using h1) (by simpa using h2))]
    simp
  | [], _ :: _, _, _, _, _, hl, _, _ => by simp at hl
  | _ :: _, [], _, _, _, _, hl, _, _ => by simp at hl
theorem keyD_mem {ks : List Bytes} {k t q : Bytes} (hp : PlainT k) (ha : ∀ x ∈ k, x.toNat < 128) (hk : k ∉ ks) : keyD ks (memP k t ++ q) = some (k, t ++ q) := by
  have e : memP k t ++ q = 34 :: (k ++ 34 :: (58 :: (t ++ q))) := by simp [memP, quoteP]
  have hb : keyB (memP k t ++ q) = some (k, t ++ q) := by
    rw [e]
    unfold keyB
    rw [skipB_start (by decide), strOf_plain hp ha]
    simp only []
    rw [skipB_start (by decide)]
    simp [mustB]
  rw [keyD_some hb, if_neg hk]
theorem read_obj {m : Nat} : ∀ (vs : List JV) (ts kz : List Bytes) (v : JV) (t k : Bytes) (acc : List JV) (ks : List Bytes) (q : Bytes), vs.length = ts.length → kz.length = ts.length → RD m v t →
    (∀ x ∈ k :: kz, PlainT x ∧ ∀ y ∈ x, y.toNat < 128) → (ks ++ k :: kz).Nodup → (∀ (i : Nat) (v : JV) (t : Bytes), vs[i]? = some v → ts[i]? = some t → RD m v t) →
    LD m 6 125 acc ks (memP k t ++ (tailP (List.zipWith memP kz ts) ++ 125 :: q)) = some (.mk 6 [] 0 (acc ++ v :: vs) (ks ++ k :: kz), q)
  | [], [], [], v, t, k, acc, ks, q, _, _, hv, hp, hn, _ => by
    have hk : k ∉ ks := fun h => by
      rw [List.nodup_append] at hn
      exact hn.2.2 k h k (by simp) rfl
    rw [LD_obj, keyD_mem (hp k (by simp)).1 (hp k (by simp)).2 hk]
    simp only []
    rw [show tailP (List.zipWith memP [] []) ++ 125 :: q = 125 :: q from rfl, hv _ (nodig (by decide))]
    simp only [Option.bind_some, afterD]
    rw [skipB_start (by decide), if_pos (by simp)]
    simp
  | v2 :: vs, t2 :: ts, k2 :: kz, v, t, k, acc, ks, q, hl, hl2, hv, hp, hn, hall => by
    have hk : k ∉ ks := fun h => by
      rw [List.nodup_append] at hn
      exact hn.2.2 k h k (by simp) rfl
    rw [LD_obj, keyD_mem (hp k (by simp)).1 (hp k (by simp)).2 hk]
    simp only []
    rw [List.zipWith_cons_cons, tailP_cons, hv _ (nodig (by decide))]
    simp only [Option.bind_some, afterD]
    rw [skipB_start (by decide), if_neg (by simp), must44]
    simp only []
    rw [read_obj vs ts kz v2 t2 k2 (acc ++ [v]) (ks ++ [k]) q (by simpa using hl) (by simpa using hl2) (hall 0 _ _ rfl rfl) (fun x hx => hp x (by simp at hx ⊢; exact .inr hx)) (by simpa using hn) (fun i v t h1 h2 => hall (i + 1) v t (by simpa using h1) (by simpa using h2))]
    simp
  | [], _ :: _, _, _, _, _, _, _, _, hl, _, _, _, _, _ => by simp at hl
  | _ :: _, [], _, _, _, _, _, _, _, hl, _, _, _, _, _ => by simp at hl
  | _, [], _ :: _, _, _, _, _, _, _, _, hl, _, _, _, _ => by simp at hl
  | _, _ :: _, [], _, _, _, _, _, _, _, hl, _, _, _, _ => by simp at hl
theorem gw_read {m : Nat} {v : JV} {t : Bytes} (h : GW m v t) : RD m v t := by
  induction h with
  | @num m n hn =>
    intro q hq
    obtain ⟨c, r, e, hc⟩ := decD_ne n
    have e2 : Lib.decDigits n ++ q = c :: (r ++ q) := by rw [e]; rfl
    rw [VD_num (c := c) (t := r ++ q) (by rw [e2]; exact skipB_start (dig_start hc).1) hc, ← e2, numB_of _ _ (decD_dig n) hq, if_pos (decD_ok n hn), decD_dv]
    rfl
  | @str m s hp ha =>
    intro q _
    rw [quoteP_app, VD_str (t := s ++ 34 :: q) (skipB_start (by decide)), strOf_plain hp ha]
    rfl
  | @arr m l ts h1 h2 h3 ih =>
    intro q _
    have e : 91 :: (joinP ts ++ [93]) ++ q = 91 :: (joinP ts ++ 93 :: q) := by simp
    rw [e, VD_open (c := 91) (kind := 5) (e := 93) (t := joinP ts ++ 93 :: q) (skipB_start (by decide)) (.inl ⟨rfl, rfl, rfl⟩)]
    simp only []
    match l, ts, h2, h3, ih with
    | [], [], _, _, _ =>
      rw [show joinP [] ++ 93 :: q = 93 :: q from rfl, skipB_start (by decide), if_pos (by simp)]
      rfl
    | v0 :: l, t0 :: ts, h2, h3, ih =>
      obtain ⟨c, r, e0, hc⟩ := gw_head (h3 0 _ _ rfl rfl)
      have e3 : joinP (t0 :: ts) ++ 93 :: q = t0 ++ (tailP ts ++ 93 :: q) := by rw [joinP_cons]; simp
      have e4 : skipB (t0 ++ (tailP ts ++ 93 :: q)) = t0 ++ (tailP ts ++ 93 :: q) := by rw [e0, List.cons_append]; exact skipB_start hc.1
      rw [e3, e4, if_neg (by rw [e0]; simp; exact hc.2.1), read_list l ts v0 t0 [] q (by simpa using h2.symm) (ih 0 _ _ rfl rfl) (fun i v t k1 k2 => ih (i + 1) v t (by simpa using k1) (by simpa using k2))]
      rfl
  | @obj m l ks ts h1 h2 h3 h4 h5 h6 ih =>
    intro q _
    have e : 123 :: (joinP (List.zipWith memP ks ts) ++ [125]) ++ q = 123 :: (joinP (List.zipWith memP ks ts) ++ 125 :: q) := by simp
    rw [e, VD_open (c := 123) (kind := 6) (e := 125) (t := joinP (List.zipWith memP ks ts) ++ 125 :: q) (skipB_start (by decide)) (.inr ⟨rfl, rfl, rfl⟩)]
    simp only []
    match l, ts, ks, h2, h3, h4, h5, h6, ih with
    | [], [], [], _, _, _, _, _, _ =>
      rw [show joinP (List.zipWith memP [] []) ++ 125 :: q = 125 :: q from rfl, skipB_start (by decide), if_pos (by simp)]
      rfl
    | v0 :: l, t0 :: ts, k0 :: ks, h2, h3, h4, h5, h6, ih =>
      have e3 : joinP (List.zipWith memP (k0 :: ks) (t0 :: ts)) ++ 125 :: q = memP k0 t0 ++ (tailP (List.zipWith memP ks ts) ++ 125 :: q) := by rw [List.zipWith_cons_cons, joinP_cons]; simp
      have e4 : ∃ r, memP k0 t0 ++ (tailP (List.zipWith memP ks ts) ++ 125 :: q) = 34 :: r := ⟨_, rfl⟩
      obtain ⟨r, e4⟩ := e4
      have e5 : skipB (memP k0 t0 ++ (tailP (List.zipWith memP ks ts) ++ 125 :: q)) = memP k0 t0 ++ (tailP (List.zipWith memP ks ts) ++ 125 :: q) := by rw [e4]; exact skipB_start (by decide)
      rw [e3, e5, if_neg (by rw [e4]; simp), read_obj l ts ks v0 t0 k0 [] [] q (by simpa using h2.symm) (by simp at h2 h3; omega) (ih 0 _ _ rfl rfl) h5 (by simpa using h4) (fun i v t k1 k2 => ih (i + 1) v t (by simpa using k1) (by simpa using k2))]
      rfl
theorem parseD_gw {v : JV} {t : Bytes} (h : GW 8 v t) : parseD t = some v := by
  have h1 := gw_read h [] (by simp)
  rw [List.append_nil] at h1
  unfold parseD
  rw [h1, Option.bind_some, behind_nil]
  rfl
end Go.Proofs.YtjehnejgojgahaaGreatDoor

/- Q5 -/
namespace Go.Proofs.YtjehnejgojgahaaGreatDoor
open Go.RowKit
set_option linter.unusedVariables false
set_option linter.unusedSimpArgs false

theorem mapM_some {α β : Type} (f : α → Option β) : ∀ l : List α, (∀ x ∈ l, ∃ y, f x = some y) → ∃ ys, l.mapM f = some ys
  | [], _ => ⟨[], rfl⟩
  | x :: l, h => by
    obtain ⟨y, hy⟩ := h x (by simp)
    obtain ⟨ys, hys⟩ := mapM_some f l (fun z hz => h z (by simp [hz]))
    exact ⟨y :: ys, by rw [List.mapM_cons, hy, hys]; rfl⟩
theorem keyLits_u8 (d : Nat) (x : UInt8) : Tryz.prog.keyLits (d + 1) 5 [.int .u8 x.toNat] = some [.int .u8 x.toNat] := by
  unfold Program.keyLits
  rw [Tryz.underlying5]
  have hx := x.toNat_lt
  have hw : (Lit.int .u8 (x.toNat : Int)).wf = true := by
    show (decide (IntKind.u8.min ≤ (x.toNat : Int)) && decide ((x.toNat : Int) ≤ IntKind.u8.max)) = true
    have h0 : IntKind.u8.min = 0 := rfl
    have h1 : IntKind.u8.max = 255 := rfl
    rw [h0, h1, decide_eq_true (show (0 : Int) ≤ (x.toNat : Int) by omega), decide_eq_true (show (x.toNat : Int) ≤ 255 by omega)]
    rfl
  simp [hw]
theorem keyLits_arr {d n : Nat} {T : TypeId} {l : Bytes} (hu : Tryz.prog.underlying T = some (.array n 5)) (hc : Tryz.prog.cellsOf T = n) (hl : l.length = n) : ∃ ls, Tryz.prog.keyLits (d + 2) T (u8s l) = some ls := by
  have h1 : Tryz.prog.cellsOf 5 = 1 := by kernel_rfl
  obtain ⟨ys, hys⟩ := mapM_some (fun i => Tryz.prog.keyLits (d + 1) 5 (((u8s l).drop (i * Tryz.prog.cellsOf 5)).take (Tryz.prog.cellsOf 5))) (List.range n) (by
    intro i hi
    have hi2 : i < l.length := by rw [hl]; exact List.mem_range.1 hi
    refine ⟨[.int .u8 (l[i]).toNat], ?_⟩
    rw [h1, Nat.mul_one]
    have e : ((u8s l).drop i).take 1 = [.int .u8 (l[i]).toNat] := by
      unfold u8s
      rw [← List.map_drop, ← List.map_take, List.drop_eq_getElem_cons hi2]
      rfl
    rw [e]
    exact keyLits_u8 d _)
  refine ⟨ys.flatten, ?_⟩
  unfold Program.keyLits
  rw [hu]
  simp only []
  rw [if_pos (by rw [u8s_length, hc, hl]), hys]
  rfl
theorem neq_self {T : TypeId} {m d : Nat} {cs : List Value} (hk : Tryz.prog.keyTypeAt m T = true) (hf : (Value.agg cs.toArray).formed Tryz.prog T = true) (hl : ∃ ls, Tryz.prog.keyLits (d + 2) T cs = some ls) (hm : m ≤ 10000) (w : World) :
    (binOp .neq T (.agg cs.toArray) (.agg cs.toArray)).run Tryz.prog w = .ok (.bool false) w := by
  obtain ⟨ls, hl⟩ := hl
  have hE := run_equalIn_deep (P := Tryz.prog) (10000 - m) m T hk
  rw [Nat.sub_add_cancel hm] at hE
  have hl2 : Tryz.prog.keyLits (d + 2) T (Value.agg cs.toArray).cells.toList = some ls := by simpa [Value.cells] using hl
  obtain ⟨r, hr, hrr⟩ := hE w (d + 2) (d + 2) _ _ ls ls hf hf hl2 hl2
  have : r = true := hrr.2 rfl
  subst this
  rw [run_neq_struct, hr]
  rfl
theorem neq24 {l : Bytes} (h : l.length = 32) (w : World) : (binOp .neq 24 (.agg (u8s l).toArray) (.agg (u8s l).toArray)).run Tryz.prog w = .ok (.bool false) w :=
  neq_self (m := 2) (d := 0) (by kernel_rfl) (by
    have hc : Tryz.prog.cellsOf 24 = 32 := by kernel_rfl
    unfold Value.formed
    rw [Tryz.underlying24]
    simp [u8s_length, h, hc]) (keyLits_arr Tryz.underlying24 (by kernel_rfl) h) (by decide) w
theorem keyLits_u64 (d n : Nat) (h : n < 18446744073709551616) : Tryz.prog.keyLits (d + 1) 25 [.int .u64 n] = some [.int .u64 n] := by
  have hu : Tryz.prog.underlying 25 = some (.int .u64) := by kernel_rfl
  unfold Program.keyLits
  rw [hu]
  have hw : (Lit.int .u64 (n : Int)).wf = true := by
    show (decide (IntKind.u64.min ≤ (n : Int)) && decide ((n : Int) ≤ IntKind.u64.max)) = true
    have h0 : IntKind.u64.min = 0 := rfl
    have h1 : IntKind.u64.max = 18446744073709551615 := rfl
    rw [h0, h1, decide_eq_true (show (0 : Int) ≤ (n : Int) by omega), decide_eq_true (show (n : Int) ≤ 18446744073709551615 by omega)]
    rfl
  simp [hw]
theorem c24 : Tryz.prog.cellsOf 24 = 32 := by kernel_rfl
theorem c25 : Tryz.prog.cellsOf 25 = 1 := by kernel_rfl
theorem c26 : Tryz.prog.cellsOf 26 = 64 := by kernel_rfl
theorem c28 : Tryz.prog.cellsOf 28 = 97 := by kernel_rfl
theorem c35 : Tryz.prog.cellsOf 35 = 98 := by kernel_rfl
theorem neq28 {i s : Bytes} {n : Nat} (hi : i.length = 32) (hs : s.length = 64) (hn : n < 18446744073709551616) (w : World) : (binOp .neq 28 (.agg (sctC i n s).toArray) (.agg (sctC i n s).toArray)).run Tryz.prog w = .ok (.bool false) w := by
  have hlen := sctC_len (n := n) hi hs
  obtain ⟨a, ha⟩ := keyLits_arr (d := 0) (T := 24) (l := i) Tryz.underlying24 c24 hi
  obtain ⟨b, hb⟩ := keyLits_arr (d := 0) (T := 26) (l := s) Tryz.underlying26 c26 hs
  have e1 : ((sctC i n s).drop 0).take 32 = u8s i := by
    unfold sctC
    rw [List.drop_zero, List.take_append_of_le_length (by rw [u8s_length, hi]; omega), List.take_of_length_le (by rw [u8s_length, hi]; omega)]
  have e2 : ((sctC i n s).drop 32).take 1 = [.int .u64 n] := by
    unfold sctC
    rw [List.drop_append_of_le_length (by rw [u8s_length, hi]; omega), List.drop_of_length_le (by rw [u8s_length, hi]; omega)]
    rfl
  have e3 : ((sctC i n s).drop 33).take 64 = u8s s := by
    have : sctC i n s = (u8s i ++ [.int .u64 n]) ++ u8s s := by simp [sctC]
    rw [this, List.drop_append_of_le_length (by rw [List.length_append, u8s_length, hi]; simp), List.drop_of_length_le (by rw [List.length_append, u8s_length, hi]; simp), List.nil_append, List.take_of_length_le (by rw [u8s_length, hs]; omega)]
  refine neq_self (m := 3) (d := 1) (by kernel_rfl) ?_ ?_ (by decide) w
  · unfold Value.formed
    rw [Tryz.underlying28]
    simp [hlen, c28]
  · refine ⟨([a, [.int .u64 n], b] : List (List Lit)).flatten, ?_⟩
    unfold Program.keyLits
    rw [Tryz.underlying28]
    simp only []
    rw [if_pos ⟨by rw [hlen, c28], by simp⟩]
    simp only [List.mapM_cons, List.mapM_nil, c24, c25, c26, e1, e2, e3, ha, hb, keyLits_u64 _ n hn]
    rfl
theorem neq35 {r s : Bytes} {n m : Nat} (hr : r.length = 32) (hs : s.length = 64) (hn : n < 18446744073709551616) (hm : m < 18446744073709551616) (w : World) : (binOp .neq 35 (.agg (headC n m r s).toArray) (.agg (headC n m r s).toArray)).run Tryz.prog w = .ok (.bool false) w := by
  have hlen := headC_len (n := n) (m := m) hr hs
  obtain ⟨a, ha⟩ := keyLits_arr (d := 0) (T := 24) (l := r) Tryz.underlying24 c24 hr
  obtain ⟨b, hb⟩ := keyLits_arr (d := 0) (T := 26) (l := s) Tryz.underlying26 c26 hs
  have e0 : ((headC n m r s).drop 0).take 1 = [.int .u64 n] := rfl
  have e1 : ((headC n m r s).drop 1).take 1 = [.int .u64 m] := rfl
  have e2 : ((headC n m r s).drop 2).take 32 = u8s r := by
    show (u8s r ++ u8s s).take 32 = u8s r
    rw [List.take_append_of_le_length (by rw [u8s_length, hr]; omega), List.take_of_length_le (by rw [u8s_length, hr]; omega)]
  have e3 : ((headC n m r s).drop 34).take 64 = u8s s := by
    show ((u8s r ++ u8s s).drop 32).take 64 = u8s s
    rw [List.drop_append_of_le_length (by rw [u8s_length, hr]; omega), List.drop_of_length_le (by rw [u8s_length, hr]; omega), List.nil_append, List.take_of_length_le (by rw [u8s_length, hs]; omega)]
  refine neq_self (m := 3) (d := 1) (by kernel_rfl) ?_ ?_ (by decide) w
  · unfold Value.formed
    rw [Tryz.underlying35]
    simp [hlen, c35]
  · refine ⟨([[.int .u64 n], [.int .u64 m], a, b] : List (List Lit)).flatten, ?_⟩
    unfold Program.keyLits
    rw [Tryz.underlying35]
    simp only []
    rw [if_pos ⟨by rw [hlen, c35], by simp⟩]
    simp only [List.mapM_cons, List.mapM_nil, c24, c25, c26, e0, e1, e2, e3, ha, hb, keyLits_u64 _ n hn, keyLits_u64 _ m hm]
    rfl
end Go.Proofs.YtjehnejgojgahaaGreatDoor
