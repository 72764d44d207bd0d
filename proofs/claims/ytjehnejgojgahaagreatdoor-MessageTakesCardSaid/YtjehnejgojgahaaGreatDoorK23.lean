/-
  A part of the proof of MessageTakes: the texts T14 T15 T16 T17 T18 W0 W1.
-/
import Derived.Test.YtjehnejgojgahaaGreatDoorK20
import Derived.Test.YtjehnejgojgahaaGreatDoorK22
namespace Go.Proofs.YtjehnejgojgahaaGreatDoor
open Go.RowKit
set_option linter.unusedVariables false
set_option linter.unusedSimpArgs false
def nSize : Bytes := [116, 114, 101, 101, 95, 115, 105, 122, 101]
def nTime : Bytes := [116, 105, 109, 101, 115, 116, 97, 109, 112]
def nRoot : Bytes := [115, 104, 97, 50, 53, 54, 95, 114, 111, 111, 116, 95, 104, 97, 115, 104]
def nHsig : Bytes := [116, 114, 101, 101, 95, 104, 101, 97, 100, 95, 115, 105, 103, 110, 97, 116, 117, 114, 101]
def nVer : Bytes := [115, 99, 116, 95, 118, 101, 114, 115, 105, 111, 110]
def nId : Bytes := [105, 100]
def nExt : Bytes := [101, 120, 116, 101, 110, 115, 105, 111, 110, 115]
def nSig : Bytes := [115, 105, 103, 110, 97, 116, 117, 114, 101]
def nCons : Bytes := [99, 111, 110, 115, 105, 115, 116, 101, 110, 99, 121]
def nIdx : Bytes := [108, 101, 97, 102, 95, 105, 110, 100, 101, 120]
def nPath : Bytes := [97, 117, 100, 105, 116, 95, 112, 97, 116, 104]
def nEnt : Bytes := [101, 110, 116, 114, 105, 101, 115]
def nErr : Bytes := [101, 114, 114, 111, 114]
def nChain : Bytes := [99, 104, 97, 105, 110]
def pV (l : Bytes) : JV := (parseM l).getD JV0
def pBad (l : Bytes) (ns : List Bytes) : Bool := match parseM l with | some v => badN v (bad0 v ns) ns | none => true
theorem Small.jv0 (b : Nat) : Small b JV0 := .mk (by simp) (by decide) (by simp) (by simp) (by simp)
theorem Small.mono {b c : Nat} {v : JV} (h : Small b v) (hbc : b ≤ c) : Small c v := by
 induction h with
 | mk h1 h2 h3 h4 h5 ih => exact .mk (by omega) h2 (by omega) (by omega) ih
theorem pV_small (l : Bytes) : Small 1048576 (pV l) := by
 unfold pV parseM
 split
 ·rename_i h
  cases hp : parseD l with
  | none => exact Small.jv0 _
  | some v => exact (parseD_small hp).mono h
 ·exact Small.jv0 _
theorem getB_small {b : Nat} {v : JV} (h : Small b v) (k : Bytes) : Small b ((getB v k).getD JV0) := by
 cases hg : getB v k with
 | none => exact Small.jv0 _
 | some u =>
  unfold getB at hg
  split at hg
  ·obtain ⟨i, _, hi⟩ := Option.bind_eq_some_iff.1 hg
   exact h.each hi
  ·cases hg
theorem SmE.of {u : JV} (h : Small 1048576 u) : SmE u :=
 ⟨by have := h.str; omega, by have := h.keys; omega, by have := h.list; omega, by have := (getB_small h nLeaf).str; omega, by have := (getB_small h nExtra).str; omega⟩
theorem Small.mem {b : Nat} {v u : JV} (h : Small b v) (hu : u ∈ v.list) : Small b u := by
 obtain ⟨i, hi⟩ := List.getElem?_of_mem hu
 exact h.each hi
theorem strsAtBlk {w : World} {g : Nat} {ns : List Bytes} {T : TypeId} (h : Blk w g (ns.map txt) T) : StrsAt w (some ⟨g, 0, none⟩) ns := by
 intro i t ht
 exact ⟨g, 0, rfl, by rw [Nat.zero_add]; exact h.cell i (by rw [List.getElem?_map, ht]; rfl)⟩
def MP2 (l : Bytes) (ns : List Bytes) (w : World) (e : Ending) (w' : World) : Prop :=
 Only (fun _ => False) w w' ∧ ∃ g, e = .returned (.pointer (some ⟨g, 0, none⟩)) ∧ w.heap.size ≤ g ∧ TK (· ≠ g) w' g (pV l) (pBad l ns)
structure Inp (w : World) (A : Option Addr) (l : Bytes) : Prop where
 at_ : BytesAt w A l
 low : ∀ b o, A = some ⟨b, o, none⟩ → b < w.heap.size
 gl : Gl w
theorem Inp.keep {w w' : World} {A : Option Addr} {l : Bytes} (h : Inp w A l) (ho : Only (fun _ => False) w w') : Inp w' A l :=
 ⟨h.at_.only ho (fun _ _ _ => id), fun b o e => Nat.lt_of_lt_of_le (h.low b o e) ho.size, h.gl.only ho (fun _ _ => id)⟩
theorem msg_parse2 {A N : Option Addr} {c d : Nat} {l : Bytes} {ns : List Bytes} {w : World} (hI : Inp w A l) (hcap : l.length ≤ c) (hN : StrsAt w N ns) (hns : ns.length ≤ 1000) :
  Calls Tryz.prog 26 #[.slice A l.length c, .slice N ns.length d] w (MP2 l ns w) := by
 refine (msg_parse validSaid hI.at_ hcap hI.low hI.gl hN hns).mono ?_
 rintro e w' ⟨ho, g, rfl, hg, h⟩
 refine ⟨ho, g, rfl, hg, ?_⟩
 unfold pV pBad
 cases hp : parseM l with
 | none => rw [hp] at h; exact h
 | some v => rw [hp] at h; exact h
theorem mp_cons {A : Option Addr} {c : Nat} {l : Bytes} {w : World} (hI : Inp w A l) (hcap : l.length ≤ c) :
  Calls Tryz.prog 26 #[.slice A l.length c, .slice (some ⟨w.heap.size, 0, none⟩) 1 1] (w.alloc (.cells #[.string ⟨#[99, 111, 110, 115, 105, 115, 116, 101, 110, 99, 121]⟩] 9)) (MP2 l [nCons] (w.alloc (.cells #[.string ⟨#[99, 111, 110, 115, 105, 115, 116, 101, 110, 99, 121]⟩] 9))) :=
 msg_parse2 (ns := [nCons]) (hI.keep ((Only.refl _ w).alloc _)) hcap (strsAtBlk (Blk.new w [txt nCons] 9)) (by simp)
theorem mp_ent {A : Option Addr} {c : Nat} {l : Bytes} {w : World} (hI : Inp w A l) (hcap : l.length ≤ c) :
  Calls Tryz.prog 26 #[.slice A l.length c, .slice (some ⟨w.heap.size, 0, none⟩) 1 1] (w.alloc (.cells #[.string ⟨#[101, 110, 116, 114, 105, 101, 115]⟩] 9)) (MP2 l [nEnt] (w.alloc (.cells #[.string ⟨#[101, 110, 116, 114, 105, 101, 115]⟩] 9))) :=
 msg_parse2 (ns := [nEnt]) (hI.keep ((Only.refl _ w).alloc _)) hcap (strsAtBlk (Blk.new w [txt nEnt] 9)) (by simp)
theorem mp_chain {A : Option Addr} {c : Nat} {l : Bytes} {w : World} (hI : Inp w A l) (hcap : l.length ≤ c) :
  Calls Tryz.prog 26 #[.slice A l.length c, .slice (some ⟨w.heap.size, 0, none⟩) 1 1] (w.alloc (.cells #[.string ⟨#[99, 104, 97, 105, 110]⟩] 9)) (MP2 l [nChain] (w.alloc (.cells #[.string ⟨#[99, 104, 97, 105, 110]⟩] 9))) :=
 msg_parse2 (ns := [nChain]) (hI.keep ((Only.refl _ w).alloc _)) hcap (strsAtBlk (Blk.new w [txt nChain] 9)) (by simp)
theorem mp_err {A : Option Addr} {c : Nat} {l : Bytes} {w : World} (hI : Inp w A l) (hcap : l.length ≤ c) :
  Calls Tryz.prog 26 #[.slice A l.length c, .slice (some ⟨w.heap.size, 0, none⟩) 1 1] (w.alloc (.cells #[.string ⟨#[101, 114, 114, 111, 114]⟩] 9)) (MP2 l [nErr] (w.alloc (.cells #[.string ⟨#[101, 114, 114, 111, 114]⟩] 9))) :=
 msg_parse2 (ns := [nErr]) (hI.keep ((Only.refl _ w).alloc _)) hcap (strsAtBlk (Blk.new w [txt nErr] 9)) (by simp)
theorem mp_proof {A : Option Addr} {c : Nat} {l : Bytes} {w : World} (hI : Inp w A l) (hcap : l.length ≤ c) :
  Calls Tryz.prog 26 #[.slice A l.length c, .slice (some ⟨w.heap.size, 0, none⟩) 2 2] (w.alloc (.cells #[.string ⟨#[108, 101, 97, 102, 95, 105, 110, 100, 101, 120]⟩, .string ⟨#[97, 117, 100, 105, 116, 95, 112, 97, 116, 104]⟩] 9)) (MP2 l [nIdx, nPath] (w.alloc (.cells #[.string ⟨#[108, 101, 97, 102, 95, 105, 110, 100, 101, 120]⟩, .string ⟨#[97, 117, 100, 105, 116, 95, 112, 97, 116, 104]⟩] 9))) :=
 msg_parse2 (ns := [nIdx, nPath]) (hI.keep ((Only.refl _ w).alloc _)) hcap (strsAtBlk (Blk.new w [txt nIdx, txt nPath] 9)) (by simp)
theorem mp_sct {A : Option Addr} {c : Nat} {l : Bytes} {w : World} (hI : Inp w A l) (hcap : l.length ≤ c) :
  Calls Tryz.prog 26 #[.slice A l.length c, .slice (some ⟨w.heap.size, 0, none⟩) 5 5] (w.alloc (.cells #[.string ⟨#[115, 99, 116, 95, 118, 101, 114, 115, 105, 111, 110]⟩, .string ⟨#[105, 100]⟩, .string ⟨#[116, 105, 109, 101, 115, 116, 97, 109, 112]⟩, .string ⟨#[101, 120, 116, 101, 110, 115, 105, 111, 110, 115]⟩, .string ⟨#[115, 105, 103, 110, 97, 116, 117, 114, 101]⟩] 9)) (MP2 l [nVer, nId, nTime, nExt, nSig] (w.alloc (.cells #[.string ⟨#[115, 99, 116, 95, 118, 101, 114, 115, 105, 111, 110]⟩, .string ⟨#[105, 100]⟩, .string ⟨#[116, 105, 109, 101, 115, 116, 97, 109, 112]⟩, .string ⟨#[101, 120, 116, 101, 110, 115, 105, 111, 110, 115]⟩, .string ⟨#[115, 105, 103, 110, 97, 116, 117, 114, 101]⟩] 9))) :=
 msg_parse2 (ns := [nVer, nId, nTime, nExt, nSig]) (hI.keep ((Only.refl _ w).alloc _)) hcap (strsAtBlk (Blk.new w [txt nVer, txt nId, txt nTime, txt nExt, txt nSig] 9)) (by simp)
theorem mp_head {A : Option Addr} {c : Nat} {l : Bytes} {w : World} (hI : Inp w A l) (hcap : l.length ≤ c) :
  Calls Tryz.prog 26 #[.slice A l.length c, .slice (some ⟨w.heap.size, 0, none⟩) 4 4] (w.alloc (.cells #[.string ⟨#[116, 114, 101, 101, 95, 115, 105, 122, 101]⟩, .string ⟨#[116, 105, 109, 101, 115, 116, 97, 109, 112]⟩, .string ⟨#[115, 104, 97, 50, 53, 54, 95, 114, 111, 111, 116, 95, 104, 97, 115, 104]⟩, .string ⟨#[116, 114, 101, 101, 95, 104, 101, 97, 100, 95, 115, 105, 103, 110, 97, 116, 117, 114, 101]⟩] 9)) (MP2 l [nSize, nTime, nRoot, nHsig] (w.alloc (.cells #[.string ⟨#[116, 114, 101, 101, 95, 115, 105, 122, 101]⟩, .string ⟨#[116, 105, 109, 101, 115, 116, 97, 109, 112]⟩, .string ⟨#[115, 104, 97, 50, 53, 54, 95, 114, 111, 111, 116, 95, 104, 97, 115, 104]⟩, .string ⟨#[116, 114, 101, 101, 95, 104, 101, 97, 100, 95, 115, 105, 103, 110, 97, 116, 117, 114, 101]⟩] 9))) :=
 msg_parse2 (ns := [nSize, nTime, nRoot, nHsig]) (hI.keep ((Only.refl _ w).alloc _)) hcap (strsAtBlk (Blk.new w [txt nSize, txt nTime, txt nRoot, txt nHsig] 9)) (by simp)
def LTake {α : Type} (E : (Nat → Prop) → World → α → List Value → Prop) (size : Nat) (T : TypeId) (bad : Bool) (l : List α) (e0 : Int) (w : World) (e : Ending) (w' : World) : Prop :=
 Only (fun _ => False) w w' ∧ ∃ A c, e = .returned (.tuple #[.slice A (if bad = true then [] else l).length c, .int .i64 (if bad = true then e0 else 0)]) ∧ RowOwn E size T w.heap.size w' (.slice A (if bad = true then [] else l).length c) (if bad = true then [] else l)
def badL (l : Bytes) (ns : List Bytes) (k : Bytes) (ok : JV → Bool) : Bool := pBad l ns || badG (pV l) k 5 || eachBad ok ((getB (pV l) k).getD JV0).list
def elsL {α : Type} (l : Bytes) (k : Bytes) (val : JV → α) : List α := ((getB (pV l) k).getD JV0).list.map val
theorem each_hash_nCons {X : Nat → Prop} {g : Nat} {v : JV} {bad : Bool} {w : World} (hX : ∀ b, X b → b ≠ g) (hT : TK X w g v bad) (hv : Small 1048576 v) :
  Calls Tryz.prog 39 #[.pointer (some ⟨g, 0, none⟩), .string ⟨#[99, 111, 110, 115, 105, 115, 116, 101, 110, 99, 121]⟩, .func (.func 40) #[] #[]] w (EachAt ED 32 24 elH okH' X g v bad nCons w) :=
 each_hash (k := nCons) hX hT (by have := hv.keys; omega) (by have := hv.list; omega) (by have := (getB_small hv nCons).list; omega) (fun x hx => SmE.of ((getB_small hv nCons).mem hx))
set_option maxRecDepth 100000 in
set_option maxHeartbeats 1600000 in
theorem takeCons_any {A : Option Addr} {c : Nat} {l : Bytes} {w : World} (hI : Inp w A l) (hcap : l.length ≤ c) :
  Calls Tryz.prog 9 #[.slice A l.length c] w (LTake ED 32 24 (badL l [nCons] nCons okH') (elsL l nCons elH) 5 w) := by
 have HI := Lib.hid hI
 have HC := Lib.hid hcap
 obtain ⟨bb, hbb⟩ : ∃ bb, bb = badL l [nCons] nCons okH' := ⟨_, rfl⟩
 have HBB := Lib.hid hbb
 have HDO := Lib.hid (show ∀ e w', LTake ED 32 24 bb (elsL l nCons elH) 5 w e w' → LTake ED 32 24 (badL l [nCons] nCons okH') (elsL l nCons elH) 5 w e w' from fun e w' h => by rw [← hbb]; exact h)
 clear hI hcap hbb
 cases bb with
 | false =>
  go_enter Tryz.func9, Tryz.ntmps9
  go_wp2_with (first
   | (go_at_call 26; refine (mp_cons HI.out HC.out).mono ?_; rintro e w2 ⟨ho2, g, rfl, hg, ht2⟩; have HO2 := Lib.hid (((Only.refl _ w).alloc _).trans ho2); have HT2 := Lib.hid ht2; have HG := Lib.hid (show w.heap.size ≤ g by have := hg; simp at this; omega); clear ho2 hg ht2)
   | (go_at_call 39; refine (each_hash_nCons (fun b hb => hb) HT2.out (pV_small l)).mono ?_; rintro e w3 ⟨ho3, ht3, rv, rfl, hr3⟩; rw [show (pBad l [nCons] || badG (pV l) nCons 5 || eachBad okH' ((getB (pV l) nCons).getD JV0).list) = _ from HBB.out.symm] at ht3; obtain ⟨A3, c3, rfl⟩ := hr3.form; have HO3 := Lib.hid ho3; have HT3 := Lib.hid ht3; have HR3 := Lib.hid hr3; clear ho3 ht3 hr3)
   | (go_at_call 41; refine (told_digests HT3.out).mono ?_; rintro e w4 ⟨ho4, rfl⟩; have HO4 := Lib.hid ho4; clear ho4))
  go_ret2
  have o3 : Only (fun _ => False) w w3 := HO2.out.then HO3.out (fun i hi e => by have := HG.out; omega)
  refine HDO.out _ _ ⟨o3.trans HO4.out, A3, c3, by simp [elsL], ?_⟩
  exact (HR3.out.only encD HO4.out (fun _ _ _ => id)).mono encD HO2.out.size
 | true =>
  go_enter Tryz.func9, Tryz.ntmps9
  go_wp2_with (first
   | (go_at_call 26; refine (mp_cons HI.out HC.out).mono ?_; rintro e w2 ⟨ho2, g, rfl, hg, ht2⟩; have HO2 := Lib.hid (((Only.refl _ w).alloc _).trans ho2); have HT2 := Lib.hid ht2; have HG := Lib.hid (show w.heap.size ≤ g by have := hg; simp at this; omega); clear ho2 hg ht2)
   | (go_at_call 39; refine (each_hash_nCons (fun b hb => hb) HT2.out (pV_small l)).mono ?_; rintro e w3 ⟨ho3, ht3, rv, rfl, hr3⟩; rw [show (pBad l [nCons] || badG (pV l) nCons 5 || eachBad okH' ((getB (pV l) nCons).getD JV0).list) = _ from HBB.out.symm] at ht3; obtain ⟨A3, c3, rfl⟩ := hr3.form; have HO3 := Lib.hid ho3; have HT3 := Lib.hid ht3; have HR3 := Lib.hid hr3; clear ho3 ht3 hr3)
   | (go_at_call 41; refine (told_digests HT3.out).mono ?_; rintro e w4 ⟨ho4, rfl⟩; have HO4 := Lib.hid ho4; clear ho4))
  go_ret2
  have o3 : Only (fun _ => False) w w3 := HO2.out.then HO3.out (fun i hi e => by have := HG.out; omega)
  refine HDO.out _ _ ⟨o3.trans HO4.out, none, 0, rfl, RowOwn.nil _ _ _⟩
theorem each_item_nEnt {X : Nat → Prop} {g : Nat} {v : JV} {bad : Bool} {w : World} (hX : ∀ b, X b → b ≠ g) (hT : TK X w g v bad) (hv : Small 1048576 v) :
  Calls Tryz.prog 43 #[.pointer (some ⟨g, 0, none⟩), .string ⟨#[101, 110, 116, 114, 105, 101, 115]⟩, .func (.func 44) #[] #[]] w (EachAt EI 2 105 elI okI' X g v bad nEnt w) :=
 each_item (k := nEnt) hX hT (by have := hv.keys; omega) (by have := hv.list; omega) (by have := (getB_small hv nEnt).list; omega) (fun x hx => SmE.of ((getB_small hv nEnt).mem hx))
set_option maxRecDepth 100000 in
set_option maxHeartbeats 1600000 in
theorem takeEnt_any {A : Option Addr} {c : Nat} {l : Bytes} {w : World} (hI : Inp w A l) (hcap : l.length ≤ c) :
  Calls Tryz.prog 14 #[.slice A l.length c] w (LTake EI 2 105 (badL l [nEnt] nEnt okI') (elsL l nEnt elI) 5 w) := by
 have HI := Lib.hid hI
 have HC := Lib.hid hcap
 obtain ⟨bb, hbb⟩ : ∃ bb, bb = badL l [nEnt] nEnt okI' := ⟨_, rfl⟩
 have HBB := Lib.hid hbb
 have HDO := Lib.hid (show ∀ e w', LTake EI 2 105 bb (elsL l nEnt elI) 5 w e w' → LTake EI 2 105 (badL l [nEnt] nEnt okI') (elsL l nEnt elI) 5 w e w' from fun e w' h => by rw [← hbb]; exact h)
 clear hI hcap hbb
 cases bb with
 | false =>
  go_enter Tryz.func14, Tryz.ntmps14
  go_wp2_with (first
   | (go_at_call 26; refine (mp_ent HI.out HC.out).mono ?_; rintro e w2 ⟨ho2, g, rfl, hg, ht2⟩; have HO2 := Lib.hid (((Only.refl _ w).alloc _).trans ho2); have HT2 := Lib.hid ht2; have HG := Lib.hid (show w.heap.size ≤ g by have := hg; simp at this; omega); clear ho2 hg ht2)
   | (go_at_call 43; refine (each_item_nEnt (fun b hb => hb) HT2.out (pV_small l)).mono ?_; rintro e w3 ⟨ho3, ht3, rv, rfl, hr3⟩; rw [show (pBad l [nEnt] || badG (pV l) nEnt 5 || eachBad okI' ((getB (pV l) nEnt).getD JV0).list) = _ from HBB.out.symm] at ht3; obtain ⟨A3, c3, rfl⟩ := hr3.form; have HO3 := Lib.hid ho3; have HT3 := Lib.hid ht3; have HR3 := Lib.hid hr3; clear ho3 ht3 hr3)
   | (go_at_call 45; refine (told_items HT3.out).mono ?_; rintro e w4 ⟨ho4, rfl⟩; have HO4 := Lib.hid ho4; clear ho4))
  go_ret2
  have o3 : Only (fun _ => False) w w3 := HO2.out.then HO3.out (fun i hi e => by have := HG.out; omega)
  refine HDO.out _ _ ⟨o3.trans HO4.out, A3, c3, by simp [elsL], ?_⟩
  exact (HR3.out.only encI HO4.out (fun _ _ _ => id)).mono encI HO2.out.size
 | true =>
  go_enter Tryz.func14, Tryz.ntmps14
  go_wp2_with (first
   | (go_at_call 26; refine (mp_ent HI.out HC.out).mono ?_; rintro e w2 ⟨ho2, g, rfl, hg, ht2⟩; have HO2 := Lib.hid (((Only.refl _ w).alloc _).trans ho2); have HT2 := Lib.hid ht2; have HG := Lib.hid (show w.heap.size ≤ g by have := hg; simp at this; omega); clear ho2 hg ht2)
   | (go_at_call 43; refine (each_item_nEnt (fun b hb => hb) HT2.out (pV_small l)).mono ?_; rintro e w3 ⟨ho3, ht3, rv, rfl, hr3⟩; rw [show (pBad l [nEnt] || badG (pV l) nEnt 5 || eachBad okI' ((getB (pV l) nEnt).getD JV0).list) = _ from HBB.out.symm] at ht3; obtain ⟨A3, c3, rfl⟩ := hr3.form; have HO3 := Lib.hid ho3; have HT3 := Lib.hid ht3; have HR3 := Lib.hid hr3; clear ho3 ht3 hr3)
   | (go_at_call 45; refine (told_items HT3.out).mono ?_; rintro e w4 ⟨ho4, rfl⟩; have HO4 := Lib.hid ho4; clear ho4))
  go_ret2
  have o3 : Only (fun _ => False) w w3 := HO2.out.then HO3.out (fun i hi e => by have := HG.out; omega)
  refine HDO.out _ _ ⟨o3.trans HO4.out, none, 0, rfl, RowOwn.nil _ _ _⟩
theorem each_bytes_nChain {X : Nat → Prop} {g : Nat} {v : JV} {bad : Bool} {w : World} (hX : ∀ b, X b → b ≠ g) (hT : TK X w g v bad) (hv : Small 1048576 v) :
  Calls Tryz.prog 74 #[.pointer (some ⟨g, 0, none⟩), .string ⟨#[99, 104, 97, 105, 110]⟩, .func (.func 72) #[] #[]] w (EachAt EB 1 22 elB okB' X g v bad nChain w) :=
 each_bytes (k := nChain) hX hT (by have := hv.keys; omega) (by have := hv.list; omega) (by have := (getB_small hv nChain).list; omega) (fun x hx => SmE.of ((getB_small hv nChain).mem hx))
set_option maxRecDepth 100000 in
set_option maxHeartbeats 1600000 in
theorem readChain_any {A : Option Addr} {c : Nat} {l : Bytes} {w : World} (hI : Inp w A l) (hcap : l.length ≤ c) :
  Calls Tryz.prog 49 #[.slice A l.length c] w (LTake EB 1 22 (badL l [nChain] nChain okB') (elsL l nChain elB) 43 w) := by
 have HI := Lib.hid hI
 have HC := Lib.hid hcap
 obtain ⟨bb, hbb⟩ : ∃ bb, bb = badL l [nChain] nChain okB' := ⟨_, rfl⟩
 have HBB := Lib.hid hbb
 have HDO := Lib.hid (show ∀ e w', LTake EB 1 22 bb (elsL l nChain elB) 43 w e w' → LTake EB 1 22 (badL l [nChain] nChain okB') (elsL l nChain elB) 43 w e w' from fun e w' h => by rw [← hbb]; exact h)
 clear hI hcap hbb
 cases bb with
 | false =>
  go_enter Tryz.func49, Tryz.ntmps49
  go_wp2_with (first
   | (go_at_call 26; refine (mp_chain HI.out HC.out).mono ?_; rintro e w2 ⟨ho2, g, rfl, hg, ht2⟩; have HO2 := Lib.hid (((Only.refl _ w).alloc _).trans ho2); have HT2 := Lib.hid ht2; have HG := Lib.hid (show w.heap.size ≤ g by have := hg; simp at this; omega); clear ho2 hg ht2)
   | (go_at_call 74; refine (each_bytes_nChain (fun b hb => hb) HT2.out (pV_small l)).mono ?_; rintro e w3 ⟨ho3, ht3, rv, rfl, hr3⟩; rw [show (pBad l [nChain] || badG (pV l) nChain 5 || eachBad okB' ((getB (pV l) nChain).getD JV0).list) = _ from HBB.out.symm] at ht3; obtain ⟨A3, c3, rfl⟩ := hr3.form; have HO3 := Lib.hid ho3; have HT3 := Lib.hid ht3; have HR3 := Lib.hid hr3; clear ho3 ht3 hr3)
   | (go_at_call 75; refine (told_chain HT3.out).mono ?_; rintro e w4 ⟨ho4, rfl⟩; have HO4 := Lib.hid ho4; clear ho4))
  go_ret2
  have o3 : Only (fun _ => False) w w3 := HO2.out.then HO3.out (fun i hi e => by have := HG.out; omega)
  refine HDO.out _ _ ⟨o3.trans HO4.out, A3, c3, by simp [elsL], ?_⟩
  exact (HR3.out.only encB HO4.out (fun _ _ _ => id)).mono encB HO2.out.size
 | true =>
  go_enter Tryz.func49, Tryz.ntmps49
  go_wp2_with (first
   | (go_at_call 26; refine (mp_chain HI.out HC.out).mono ?_; rintro e w2 ⟨ho2, g, rfl, hg, ht2⟩; have HO2 := Lib.hid (((Only.refl _ w).alloc _).trans ho2); have HT2 := Lib.hid ht2; have HG := Lib.hid (show w.heap.size ≤ g by have := hg; simp at this; omega); clear ho2 hg ht2)
   | (go_at_call 74; refine (each_bytes_nChain (fun b hb => hb) HT2.out (pV_small l)).mono ?_; rintro e w3 ⟨ho3, ht3, rv, rfl, hr3⟩; rw [show (pBad l [nChain] || badG (pV l) nChain 5 || eachBad okB' ((getB (pV l) nChain).getD JV0).list) = _ from HBB.out.symm] at ht3; obtain ⟨A3, c3, rfl⟩ := hr3.form; have HO3 := Lib.hid ho3; have HT3 := Lib.hid ht3; have HR3 := Lib.hid hr3; clear ho3 ht3 hr3)
   | (go_at_call 75; refine (told_chain HT3.out).mono ?_; rintro e w4 ⟨ho4, rfl⟩; have HO4 := Lib.hid ho4; clear ho4))
  go_ret2
  have o3 : Only (fun _ => False) w w3 := HO2.out.then HO3.out (fun i hi e => by have := HG.out; omega)
  refine HDO.out _ _ ⟨o3.trans HO4.out, none, 0, rfl, RowOwn.nil _ _ _⟩
def numL (l : Bytes) (k : Bytes) : Nat := ((getB (pV l) k).getD JV0).num
theorem numL_lt (l k : Bytes) : numL l k < 18446744073709551616 := (getB_small (pV_small l) k).num
theorem tnum_nErr {X : Nat → Prop} {g : Nat} {l : Bytes} {bad : Bool} {w : World} (hX : ∀ b, X b → b ≠ g) (hT : TK X w g (pV l) bad) :
  Calls Tryz.prog 28 #[.pointer (some ⟨g, 0, none⟩), .string ⟨#[101, 114, 114, 111, 114]⟩] w (TNumAt X g (pV l) bad nErr w) := tnum_any (k := nErr) hX hT (by have := (pV_small l).keys; omega) (by have := (pV_small l).list; omega)
theorem tnum_nIdx {X : Nat → Prop} {g : Nat} {l : Bytes} {bad : Bool} {w : World} (hX : ∀ b, X b → b ≠ g) (hT : TK X w g (pV l) bad) :
  Calls Tryz.prog 28 #[.pointer (some ⟨g, 0, none⟩), .string ⟨#[108, 101, 97, 102, 95, 105, 110, 100, 101, 120]⟩] w (TNumAt X g (pV l) bad nIdx w) := tnum_any (k := nIdx) hX hT (by have := (pV_small l).keys; omega) (by have := (pV_small l).list; omega)
def badE (l : Bytes) : Bool := pBad l [nErr] || badG (pV l) nErr 3 || decide (2147483647 < numL l nErr)
def ErrTake (l : Bytes) (w : World) (e : Ending) (w' : World) : Prop :=
 Only (fun _ => False) w w' ∧ e = .returned (.tuple #[.int .i64 (if badE l = true then 0 else (numL l nErr : Int)), .int .i64 (if badE l = true then 5 else 0)])
set_option maxRecDepth 100000 in
set_option maxHeartbeats 1600000 in
theorem takeErr_any {A : Option Addr} {c : Nat} {l : Bytes} {w : World} (hI : Inp w A l) (hcap : l.length ≤ c) :
  Calls Tryz.prog 17 #[.slice A l.length c] w (ErrTake l w) := by
 have HI := Lib.hid hI
 have HC := Lib.hid hcap
 obtain ⟨bb, hbb⟩ : ∃ bb, bb = (pBad l [nErr] || badG (pV l) nErr 3) := ⟨_, rfl⟩
 obtain ⟨n, hn⟩ : ∃ n, n = numL l nErr := ⟨_, rfl⟩
 have HBB := Lib.hid hbb
 have HN := Lib.hid hn
 have hnlt := numL_lt l nErr
 rw [← hn] at hnlt
 have hnz : (n : Int) < 18446744073709551616 := by omega
 have HDO := Lib.hid (show ∀ (q : Bool) e w', q = (bb || decide (2147483647 < n)) → Only (fun _ => False) w w' → e = .returned (.tuple #[.int .i64 (if q = true then 0 else (n : Int)), .int .i64 (if q = true then 5 else 0)]) → ErrTake l w e w' from
  fun q e w' hq ho he => ⟨ho, by have e1 : badE l = q := (by rw [hq, hbb, hn]; rfl); rw [e1, ← hn]; exact he⟩)
 clear hI hcap hbb hn hnlt
 by_cases hb : 2147483647 < n
 ·have qn : decide ((2147483647 : Int) < (n : Int)) = true := by simp; omega
  have HQ := Lib.hid (decide_eq_true hb)
  clear hb
  cases bb
  all_goals
   go_enter Tryz.func17, Tryz.ntmps17
   go_wp2_with (first
    | (go_at_call 26; refine (mp_err HI.out HC.out).mono ?_; rintro e w2 ⟨ho2, g, rfl, hg, ht2⟩; have HO2 := Lib.hid (((Only.refl _ w).alloc _).trans ho2); have HT2 := Lib.hid ht2; have HG := Lib.hid (show w.heap.size ≤ g by have := hg; simp at this; omega); clear ho2 hg ht2)
    | (go_at_call 28; refine (tnum_nErr (fun b hb => hb) HT2.out).mono ?_; rintro e w3 ⟨ho3, ht3, rfl⟩; rw [show (pBad l [nErr] || badG (pV l) nErr 3) = _ from HBB.out.symm] at ht3; rw [show ((getB (pV l) nErr).getD JV0).num = n from HN.out.symm]; have HO3 := Lib.hid ho3; obtain ⟨hc5, hz5, hg5⟩ := ht3.cell5; have HT3 := Lib.hid ht3; clear ho3 ht3 hg5)
    | (go_at_call 47; refine (told_errno (HT3.out.putb _ (fun b hb => hb))).mono ?_; rintro e w4 ⟨ho4, rfl⟩; have HO4 := Lib.hid ho4; clear ho4))
   go_ret2
   refine HDO.out true _ _ (by rw [HQ.out]; rfl) ?_ rfl
   exact ((HO2.out.then HO3.out (fun i hi e => by have := HG.out; omega)).setCell (fun e => by have := HG.out; simp at e; omega) _).trans HO4.out
 ·have qn : decide ((2147483647 : Int) < (n : Int)) = false := by simp; omega
  have hsm : (n : Int) ≤ 2147483647 := by omega
  have HQ := Lib.hid (decide_eq_false hb)
  clear hb
  cases bb
  all_goals
   go_enter Tryz.func17, Tryz.ntmps17
   go_wp2_with (first
    | (go_at_call 26; refine (mp_err HI.out HC.out).mono ?_; rintro e w2 ⟨ho2, g, rfl, hg, ht2⟩; have HO2 := Lib.hid (((Only.refl _ w).alloc _).trans ho2); have HT2 := Lib.hid ht2; have HG := Lib.hid (show w.heap.size ≤ g by have := hg; simp at this; omega); clear ho2 hg ht2)
    | (go_at_call 28; refine (tnum_nErr (fun b hb => hb) HT2.out).mono ?_; rintro e w3 ⟨ho3, ht3, rfl⟩; rw [show (pBad l [nErr] || badG (pV l) nErr 3) = _ from HBB.out.symm] at ht3; rw [show ((getB (pV l) nErr).getD JV0).num = n from HN.out.symm]; have HO3 := Lib.hid ho3; obtain ⟨hc5, hz5, hg5⟩ := ht3.cell5; have HT3 := Lib.hid ht3; clear ho3 ht3 hg5)
    | (go_at_call 47; refine (told_errno (HT3.out.putb _ (fun b hb => hb))).mono ?_; rintro e w4 ⟨ho4, rfl⟩; have HO4 := Lib.hid ho4; clear ho4))
   go_ret2
  ·refine HDO.out false _ _ (by rw [HQ.out]; rfl) ?_ rfl
   exact ((HO2.out.then HO3.out (fun i hi e => by have := HG.out; omega)).setCell (fun e => by have := HG.out; simp at e; omega) _).trans HO4.out
  ·refine HDO.out true _ _ (by rw [HQ.out]; rfl) ?_ rfl
   exact ((HO2.out.then HO3.out (fun i hi e => by have := HG.out; omega)).setCell (fun e => by have := HG.out; simp at e; omega) _).trans HO4.out
def badP (l : Bytes) : Bool := pBad l [nIdx, nPath] || badG (pV l) nIdx 3 || badG (pV l) nPath 5 || eachBad okH' ((getB (pV l) nPath).getD JV0).list
def PrfTake (l : Bytes) (w : World) (e : Ending) (w' : World) : Prop :=
 Only (fun _ => False) w w' ∧ ∃ A c, e = .returned (.tuple #[.int .u64 (if badP l = true then 0 else (numL l nIdx : Int)), .slice A (if badP l = true then [] else elsL l nPath elH).length c, .int .i64 (if badP l = true then 5 else 0)]) ∧
  RowOwn ED 32 24 w.heap.size w' (.slice A (if badP l = true then [] else elsL l nPath elH).length c) (if badP l = true then [] else elsL l nPath elH)
theorem each_hash_nPath {X : Nat → Prop} {g : Nat} {v : JV} {bad : Bool} {w : World} (hX : ∀ b, X b → b ≠ g) (hT : TK X w g v bad) (hv : Small 1048576 v) :
  Calls Tryz.prog 39 #[.pointer (some ⟨g, 0, none⟩), .string ⟨#[97, 117, 100, 105, 116, 95, 112, 97, 116, 104]⟩, .func (.func 40) #[] #[]] w (EachAt ED 32 24 elH okH' X g v bad nPath w) :=
 each_hash (k := nPath) hX hT (by have := hv.keys; omega) (by have := hv.list; omega) (by have := (getB_small hv nPath).list; omega) (fun x hx => SmE.of ((getB_small hv nPath).mem hx))
set_option maxRecDepth 100000 in
set_option maxHeartbeats 1600000 in
theorem takePrf_any {A : Option Addr} {c : Nat} {l : Bytes} {w : World} (hI : Inp w A l) (hcap : l.length ≤ c) :
  Calls Tryz.prog 12 #[.slice A l.length c] w (PrfTake l w) := by
 have HI := Lib.hid hI
 have HC := Lib.hid hcap
 obtain ⟨bb, hbb⟩ : ∃ bb, bb = badP l := ⟨_, rfl⟩
 have HBB := Lib.hid hbb
 have HDO := Lib.hid (show ∀ e w', (Only (fun _ => False) w w' ∧ ∃ A c, e = .returned (.tuple #[.int .u64 (if bb = true then 0 else (numL l nIdx : Int)), .slice A (if bb = true then [] else elsL l nPath elH).length c, .int .i64 (if bb = true then 5 else 0)]) ∧
  RowOwn ED 32 24 w.heap.size w' (.slice A (if bb = true then [] else elsL l nPath elH).length c) (if bb = true then [] else elsL l nPath elH)) → PrfTake l w e w' from fun e w' h => by unfold PrfTake; rw [← hbb]; exact h)
 clear hI hcap hbb
 cases bb
 all_goals
  go_enter Tryz.func12, Tryz.ntmps12
  go_wp2_with (first
   | (go_at_call 26; refine (mp_proof HI.out HC.out).mono ?_; rintro e w2 ⟨ho2, g, rfl, hg, ht2⟩; have HO2 := Lib.hid (((Only.refl _ w).alloc _).trans ho2); have HT2 := Lib.hid ht2; have HG := Lib.hid (show w.heap.size ≤ g by have := hg; simp at this; omega); clear ho2 hg ht2)
   | (go_at_call 28; refine (tnum_nIdx (fun b hb => hb) HT2.out).mono ?_; rintro e w3 ⟨ho3, ht3, rfl⟩; rw [show ((getB (pV l) nIdx).getD JV0).num = numL l nIdx from rfl]; have HO3 := Lib.hid ho3; have HT3 := Lib.hid ht3; clear ho3 ht3)
   | (go_at_call 39; refine (each_hash_nPath (fun b hb => hb) HT3.out (pV_small l)).mono ?_; rintro e w4 ⟨ho4, ht4, rv, rfl, hr4⟩; rw [show (pBad l [nIdx, nPath] || badG (pV l) nIdx 3 || badG (pV l) nPath 5 || eachBad okH' ((getB (pV l) nPath).getD JV0).list) = _ from HBB.out.symm] at ht4; obtain ⟨A4, c4, rfl⟩ := hr4.form; have HO4 := Lib.hid ho4; have HT4 := Lib.hid ht4; have HR4 := Lib.hid hr4; clear ho4 ht4 hr4)
   | (go_at_call 41; refine (told_digests HT4.out).mono ?_; rintro e w5 ⟨ho5, rfl⟩; have HO5 := Lib.hid ho5; obtain ⟨hc5, hz5, hg5⟩ := (HT4.out.keep ho5).cell5; clear ho5 hz5 hg5))
  have o3 : Only (fun _ => False) w w3 := HO2.out.then HO3.out (fun i hi e => by have := HG.out; omega)
  have o4 : Only (fun _ => False) w w4 := o3.then HO4.out (fun i hi e => by have := HG.out; omega)
  go_ret3
 ·refine HDO.out _ _ ⟨o4.trans HO5.out, A4, c4, by simp [elsL], ?_⟩
  have h := (HR4.out.only encD HO5.out (fun _ _ _ => id)).mono encD o3.size
  simpa [elsL] using h
 ·exact HDO.out _ _ ⟨o4.trans HO5.out, none, 0, rfl, RowOwn.nil _ _ _⟩
theorem fold_off (l : List Value) (off : Nat) : ∀ (k : Nat) (arr : Array Value), off + k + l.length ≤ arr.size → ((l.zipIdx k).foldl (fun (cs : Array Value) (x : Value × Nat) => cs.setIfInBounds (off + x.2) x.1) arr).toList = arr.toList.take (off + k) ++ l ++ arr.toList.drop (off + k + l.length) := by
 induction l with
 | nil => intro k arr h; simp
 | cons v l ih =>
  intro k arr h
  rw [List.zipIdx_cons, List.foldl_cons, ih (k + 1) _ (by simp at h ⊢; omega)]
  simp only [Array.toList_setIfInBounds]
  simp only [List.length_cons] at h
  have hk : off + k < arr.toList.length := by simp; omega
  rw [List.set_eq_take_append_cons_drop, if_pos hk, List.take_append, List.take_take, List.length_take, Nat.min_eq_right (by omega), Nat.min_eq_left (Nat.le_of_lt hk)]
  rw [show off + (k + 1) - (off + k) = 0 + 1 by omega, List.take_succ_cons, List.take_zero]
  rw [List.drop_append, List.length_take, Nat.min_eq_left (Nat.le_of_lt hk), List.drop_eq_nil_of_le (by rw [List.length_take]; omega), List.nil_append]
  rw [show off + (k + 1) + l.length - (off + k) = l.length + 1 by omega, List.drop_succ_cons, List.drop_drop]
  simp only [List.append_assoc, List.cons_append, List.nil_append, List.length_cons]
  rw [show off + k + 1 + l.length = off + k + (l.length + 1) by omega]
theorem fill_step {place : Nat → Option (Nat × Nat)} {pre zs cs : List Value} {i off size : Nat} {v : Value} {rest : List (Nat × Value)} (hv : v.cells = cs.toArray) (hp : place i = some (off, size)) (hs : cs.length = size) (ho : pre.length = off) (hb : size ≤ zs.length) :
  Instr.fill place (pre ++ zs).toArray ((i, v) :: rest) = Instr.fill place ((pre ++ cs) ++ zs.drop size).toArray rest := by
 subst hs
 subst ho
 rw [Instr.fill]
 simp only [hp, hv]
 rw [if_neg (by simp; omega)]
 congr 1
 apply Array.toList_inj.1
 rw [← Array.foldl_toList]
 simp only [Array.toList_zipIdx]
 rw [fold_off cs pre.length 0 (pre ++ zs).toArray (by simp; omega)]
 simp [List.drop_append]
theorem built_struct {P : Program} {t : TypeId} {fields : Array Field} {it : TypeInfo} {z : Value} {places : List (Nat × Nat)} {parts : List (Nat × Value)} (hi : P.info? t = some it) (hu : P.underlying t = some (.struct fields)) (hz : it.zero = some z)
  (hp : fields.toList.mapM (fun f => (P.info? f.type).map fun i => (f.offset, i.size)) = some places) : P.built t parts = Instr.fill (places.toArray[·]?) z.cells parts := by
 unfold Program.built
 rw [hi, hu]
 simp only [hz, hp]
def headC (n m : Int) (r s : Bytes) : List Value := .int .u64 n :: .int .u64 m :: (u8s r ++ u8s s)
def sctC (i : Bytes) (n : Int) (s : Bytes) : List Value := u8s i ++ .int .u64 n :: u8s s
theorem headC_len {n m : Int} {r s : Bytes} (hr : r.length = 32) (hs : s.length = 64) : (headC n m r s).length = 98 := by
 unfold headC; simp [u8s_length, hr, hs]
theorem sctC_len {n : Int} {r s : Bytes} (hr : r.length = 32) (hs : s.length = 64) : (sctC r n s).length = 97 := by
 unfold sctC; simp [u8s_length, hr, hs]
theorem headC_one (n m : Int) (r s : Bytes) : (headC n m r s).all (·.oneCell') = true := by
 unfold headC; simp only [List.all_cons, List.all_append, u8s_one]; rfl
theorem sctC_one (n : Int) (r s : Bytes) : (sctC r n s).all (·.oneCell') = true := by
 unfold sctC; simp only [List.all_cons, List.all_append, u8s_one]; rfl
theorem built35 {n m : Int} {r s : Bytes} (hr : r.length = 32) (hs : s.length = 64) : Tryz.prog.built 35 [(0, .int .u64 n), (1, .int .u64 m), (2, .agg (u8s r).toArray), (3, .agg (u8s s).toArray)] = some (headC n m r s).toArray := by
 obtain ⟨it, hi, hz⟩ := Option.bind_eq_some_iff.1 zero35
 rw [built_struct (places := [(0, 1), (1, 1), (2, 32), (34, 64)]) hi Tryz.underlying35 hz (by kernel_rfl)]
 have hl := zc35_len
 show Instr.fill _ ([] ++ zc35).toArray _ = _
 rw [fill_step (cs := [.int .u64 n]) (off := 0) (size := 1) rfl rfl rfl rfl (by rw [hl]; decide)]
 rw [fill_step (cs := [.int .u64 m]) (off := 1) (size := 1) rfl rfl rfl rfl (by rw [List.length_drop, hl]; decide)]
 rw [fill_step (cs := u8s r) (off := 2) (size := 32) rfl rfl (by rw [u8s_length, hr]) rfl (by rw [List.length_drop, List.length_drop, hl]; decide)]
 rw [fill_step (cs := u8s s) (off := 34) (size := 64) rfl rfl (by rw [u8s_length, hs]) (by simp [u8s_length, hr]) (by rw [List.length_drop, List.length_drop, List.length_drop, hl]; decide)]
 rw [Instr.fill, List.drop_eq_nil_of_le (by rw [List.length_drop, List.length_drop, List.length_drop, hl]; decide)]
 unfold headC
 simp
theorem built28 {n : Int} {r s : Bytes} (hr : r.length = 32) (hs : s.length = 64) : Tryz.prog.built 28 [(0, .agg (u8s r).toArray), (1, .int .u64 n), (2, .agg (u8s s).toArray)] = some (sctC r n s).toArray := by
 obtain ⟨it, hi, hz⟩ := Option.bind_eq_some_iff.1 zero28
 rw [built_struct (places := [(0, 32), (32, 1), (33, 64)]) hi Tryz.underlying28 hz (by kernel_rfl)]
 have hl := zc28_len
 show Instr.fill _ ([] ++ zc28).toArray _ = _
 rw [fill_step (cs := u8s r) (off := 0) (size := 32) rfl rfl (by rw [u8s_length, hr]) rfl (by rw [hl]; decide)]
 rw [fill_step (cs := [.int .u64 n]) (off := 32) (size := 1) rfl rfl rfl (by simp [u8s_length, hr]) (by rw [List.length_drop, hl]; decide)]
 rw [fill_step (cs := u8s s) (off := 33) (size := 64) rfl rfl (by rw [u8s_length, hs]) (by simp [u8s_length, hr]) (by rw [List.length_drop, List.length_drop, hl]; decide)]
 rw [Instr.fill, List.drop_eq_nil_of_le (by rw [List.length_drop, List.length_drop, hl]; decide)]
 unfold sctC
 simp
theorem wpList_buildP {P : Program} {ops : Array Oper} {rest : List Oper} {o : Oper} {a : Act} {w : World} {Q : Exit → Act → World → Prop} (hgd : o.guard = none) (ty : TypeId) (parts : Array (Nat × Operand)) (ho : o.op = .build ty parts) {cs : List Value} {pl : List (Nat × Value)} (hz : P.built ty pl = some cs.toArray) (hp : (parts.map fun (i, x) => (i, a.eval x)).toList = pl)
  (h : wpList P ops Q rest (a.put o.dst (.agg cs.toArray)) w) : wpList P ops Q (o :: rest) a w := by
 refine wpList_build hgd ty parts ho (by rw [hp, hz]; rfl) ?_
 rw [hp, hz]
 exact h
theorem tnum_nSize {X : Nat → Prop} {g : Nat} {l : Bytes} {bad : Bool} {w : World} (hX : ∀ b, X b → b ≠ g) (hT : TK X w g (pV l) bad) :
  Calls Tryz.prog 28 #[.pointer (some ⟨g, 0, none⟩), .string ⟨#[116, 114, 101, 101, 95, 115, 105, 122, 101]⟩] w (TNumAt X g (pV l) bad nSize w) := tnum_any (k := nSize) hX hT (by have := (pV_small l).keys; omega) (by have := (pV_small l).list; omega)
theorem tnum_nTime {X : Nat → Prop} {g : Nat} {l : Bytes} {bad : Bool} {w : World} (hX : ∀ b, X b → b ≠ g) (hT : TK X w g (pV l) bad) :
  Calls Tryz.prog 28 #[.pointer (some ⟨g, 0, none⟩), .string ⟨#[116, 105, 109, 101, 115, 116, 97, 109, 112]⟩] w (TNumAt X g (pV l) bad nTime w) := tnum_any (k := nTime) hX hT (by have := (pV_small l).keys; omega) (by have := (pV_small l).list; omega)
theorem thash_nRoot {X : Nat → Prop} {g : Nat} {l : Bytes} {bad : Bool} {w : World} (hX : ∀ b, X b → b ≠ g) (hT : TK X w g (pV l) bad) :
  Calls Tryz.prog 27 #[.pointer (some ⟨g, 0, none⟩), .string ⟨#[115, 104, 97, 50, 53, 54, 95, 114, 111, 111, 116, 95, 104, 97, 115, 104]⟩] w (THashAt X g (pV l) bad nRoot w) := thash_any (k := nRoot) hX hT (by have := (pV_small l).keys; omega) (by have := (pV_small l).list; omega) (by have := (getB_small (pV_small l) nRoot).str; omega)
theorem tsig_nHsig {X : Nat → Prop} {g : Nat} {l : Bytes} {bad : Bool} {w : World} (hX : ∀ b, X b → b ≠ g) (hT : TK X w g (pV l) bad) :
  Calls Tryz.prog 29 #[.pointer (some ⟨g, 0, none⟩), .string ⟨#[116, 114, 101, 101, 95, 104, 101, 97, 100, 95, 115, 105, 103, 110, 97, 116, 117, 114, 101]⟩] w (TSigAt X g (pV l) bad nHsig w) := tsig_any (k := nHsig) hX hT (by have := (pV_small l).keys; omega) (by have := (pV_small l).list; omega) (by have := (getB_small (pV_small l) nHsig).str; omega)
theorem tnum_nVer {X : Nat → Prop} {g : Nat} {l : Bytes} {bad : Bool} {w : World} (hX : ∀ b, X b → b ≠ g) (hT : TK X w g (pV l) bad) :
  Calls Tryz.prog 28 #[.pointer (some ⟨g, 0, none⟩), .string ⟨#[115, 99, 116, 95, 118, 101, 114, 115, 105, 111, 110]⟩] w (TNumAt X g (pV l) bad nVer w) := tnum_any (k := nVer) hX hT (by have := (pV_small l).keys; omega) (by have := (pV_small l).list; omega)
theorem thash_nId {X : Nat → Prop} {g : Nat} {l : Bytes} {bad : Bool} {w : World} (hX : ∀ b, X b → b ≠ g) (hT : TK X w g (pV l) bad) :
  Calls Tryz.prog 27 #[.pointer (some ⟨g, 0, none⟩), .string ⟨#[105, 100]⟩] w (THashAt X g (pV l) bad nId w) := thash_any (k := nId) hX hT (by have := (pV_small l).keys; omega) (by have := (pV_small l).list; omega) (by have := (getB_small (pV_small l) nId).str; omega)
theorem tsig_nSig {X : Nat → Prop} {g : Nat} {l : Bytes} {bad : Bool} {w : World} (hX : ∀ b, X b → b ≠ g) (hT : TK X w g (pV l) bad) :
  Calls Tryz.prog 29 #[.pointer (some ⟨g, 0, none⟩), .string ⟨#[115, 105, 103, 110, 97, 116, 117, 114, 101]⟩] w (TSigAt X g (pV l) bad nSig w) := tsig_any (k := nSig) hX hT (by have := (pV_small l).keys; omega) (by have := (pV_small l).list; omega) (by have := (getB_small (pV_small l) nSig).str; omega)
theorem tbytes_nExt {X : Nat → Prop} {g : Nat} {l : Bytes} {bad : Bool} {w : World} (hX : ∀ b, X b → b ≠ g) (hT : TK X w g (pV l) bad) :
  Calls Tryz.prog 30 #[.pointer (some ⟨g, 0, none⟩), .string ⟨#[101, 120, 116, 101, 110, 115, 105, 111, 110, 115]⟩] w (TBytAt X g (pV l) bad nExt w) := tbytes_any (k := nExt) hX hT (by have := (pV_small l).keys; omega) (by have := (pV_small l).list; omega) (by have := (getB_small (pV_small l) nExt).str; omega)
def bsL (l : Bytes) (k : Bytes) : Bytes := (bytesB (pV l) k).getD []
def badHd (l : Bytes) : Bool := pBad l [nSize, nTime, nRoot, nHsig] || badG (pV l) nSize 3 || badG (pV l) nTime 3 || badG (pV l) nRoot 4 || (bytesB (pV l) nRoot).isNone || !decide (((bytesB (pV l) nRoot).getD []).length = 32) || badG (pV l) nHsig 4 || (bytesB (pV l) nHsig).isNone || !markB ((bytesB (pV l) nHsig).getD [])
def hdL (l : Bytes) : List Value := headC (numL l nSize) (numL l nTime) (digB (bsL l nRoot)) (sigB (bsL l nHsig))
def HdTake (l : Bytes) (w : World) (e : Ending) (w' : World) : Prop :=
 Only (fun _ => False) w w' ∧ e = .returned (.tuple #[.agg (if badHd l = true then zc35 else hdL l).toArray, .int .i64 (if badHd l = true then 5 else 0)])
theorem hdL_len (l : Bytes) : (hdL l).length = 98 := headC_len (digB_length _) (sigB_length _)
theorem hdL_one (l : Bytes) : (hdL l).all (·.oneCell') = true := headC_one _ _ _ _
theorem hdL_built (l : Bytes) : Tryz.prog.built 35 [(0, .int .u64 (numL l nSize)), (1, .int .u64 (numL l nTime)), (2, .agg (u8s (digB (bsL l nRoot))).toArray), (3, .agg (u8s (sigB (bsL l nHsig))).toArray)] = some (hdL l).toArray := built35 (digB_length _) (sigB_length _)
set_option maxRecDepth 100000 in
set_option maxHeartbeats 3200000 in
theorem takeHd_any {A : Option Addr} {c : Nat} {l : Bytes} {w : World} (hI : Inp w A l) (hcap : l.length ≤ c) :
  Calls Tryz.prog 7 #[.slice A l.length c] w (HdTake l w) := by
 have HI := Lib.hid hI
 have HC := Lib.hid hcap
 obtain ⟨bb, hbb⟩ : ∃ bb, bb = badHd l := ⟨_, rfl⟩
 have HBB := Lib.hid hbb
 have HDO := Lib.hid (show ∀ e w', (Only (fun _ => False) w w' ∧ e = .returned (.tuple #[.agg (if bb = true then zc35 else hdL l).toArray, .int .i64 (if bb = true then 5 else 0)])) → HdTake l w e w' from fun e w' h => by unfold HdTake; rw [← hbb]; exact h)
 have HQL := Lib.hid (show (if bb = true then zc35 else hdL l).length = 98 from by split; exact zc35_len; exact hdL_len l)
 have HQ1 := Lib.hid (show (if bb = true then zc35 else hdL l).all (·.oneCell') = true from by split; exact zc35_one; exact hdL_one l)
 clear hI hcap hbb
 go_enter Tryz.func7, Tryz.ntmps7
 go_upto_region 3 with (first
  | (refine wpList_alloc_blk rfl 35 2 rfl rfl zero35 ?_; intro w1 hb1 ho1 hs1; have HR1 := Lib.hid hb1; have HO1 := Lib.hid ho1; have HS1 := Lib.hid hs1; clear hb1 ho1 hs1; generalize hH1 : w.heap.size = Hr at HR1 HS1 ⊢; have HH1 := Lib.hid hH1; clear hH1)
  | (go_at_call 26; refine (mp_head (HI.out.keep HO1.out) HC.out).mono ?_; rintro e w2 ⟨ho2, g, rfl, hg, ht2⟩; have HO2 := Lib.hid (((Only.refl _ w1).alloc _).trans ho2); have HT2 := Lib.hid ht2; have HG := Lib.hid (show w1.heap.size ≤ g by have := hg; simp at this; omega); clear ho2 hg ht2)
  | (go_at_call 29; refine (tsig_nHsig (fun b hb => hb) HT5.out).mono ?_; rintro e w6 ⟨ho6, ht6, rfl⟩; rw [show (pBad l [nSize, nTime, nRoot, nHsig] || badG (pV l) nSize 3 || badG (pV l) nTime 3 || badG (pV l) nRoot 4 || (bytesB (pV l) nRoot).isNone || !decide (((bytesB (pV l) nRoot).getD []).length = 32) || badG (pV l) nHsig 4 || (bytesB (pV l) nHsig).isNone || !markB ((bytesB (pV l) nHsig).getD [])) = _ from HBB.out.symm] at ht6; have HO6 := Lib.hid ho6; have HT6 := Lib.hid ht6; clear ho6 ht6)
  | (go_at_call 27; refine (thash_nRoot (fun b hb => hb) HT4.out).mono ?_; rintro e w5 ⟨ho5, ht5, rfl⟩; have HO5 := Lib.hid ho5; have HT5 := Lib.hid ht5; clear ho5 ht5)
  | (go_at_call 28; refine (tnum_nTime (fun b hb => hb) HT3.out).mono ?_; rintro e w4 ⟨ho4, ht4, rfl⟩; have HO4 := Lib.hid ho4; have HT4 := Lib.hid ht4; clear ho4 ht4)
  | (go_at_call 28; refine (tnum_nSize (fun b hb => hb) HT2.out).mono ?_; rintro e w3 ⟨ho3, ht3, rfl⟩; have HO3 := Lib.hid ho3; have HT3 := Lib.hid ht3; clear ho3 ht3)
  | (refine wpList_buildP rfl 35 _ rfl (hdL_built l) (by simp [Act.eval, numL, bsL]) ?_)
  | (refine wpList_alloc_blk rfl 35 5 rfl rfl zero35 ?_; intro w7 hb7 ho7 hs7; have HB7 := Lib.hid hb7; have HO7 := Lib.hid ho7; clear hb7 ho7 hs7; generalize hH7 : w6.heap.size = Ht at HB7 ⊢; have HH7 := Lib.hid hH7; clear hH7)
  | (refine wpList_store_blk (cs := hdL l) rfl 35 (.tmp 5) (.tmp 17) rfl rfl rfl rfl HB7.out (zc35_len.trans (hdL_len l).symm) (info35s (hdL_len l)) (hdL_one l) ?_; intro w8 hb8 ho8; have HB8 := Lib.hid hb8; have HO8 := Lib.hid ((HO7.out.then ho8 (G := fun _ => False) (fun i hi e => by have := HH7.out; omega))); clear hb8 ho8))
 have HT8 := Lib.hid (HT6.out.keep HO8.out)
 have HNG := Lib.hid (show ¬ (Hr = g) from fun e => by have := HS1.out; have := HG.out; omega)
 go_wp2_with (first
  | (refine wpList_load_blk (cs := hdL l) rfl 35 (.tmp 5) rfl rfl HB8.out agg35 (info35s (hdL_len l)) ?_)
  | (go_at_call 38; refine (told_head HT8.out (hdL_len l) (hdL_one l)).mono ?_; rintro e w9 ⟨ho9, rfl⟩; have HO9 := Lib.hid ho9; clear ho9; rw [show (if bb = true then Value.agg zc35.toArray else Value.agg (hdL l).toArray) = Value.agg (if bb = true then zc35 else hdL l).toArray from by cases bb <;> rfl]; generalize hq : (if bb = true then zc35 else hdL l) = qq at HQL HQ1 HDO ⊢; clear hq)
  | (refine wpList_store_blk (cs := qq) rfl 35 (.tmp 2) (.tmp 21) rfl rfl rfl rfl (((((((((HR1.out.only HO2.out id).only HO3.out (HNG.out)).only HO4.out HNG.out).only HO5.out HNG.out).only HO6.out HNG.out).only HO8.out id)).only HO9.out id)) (zc35_len.trans HQL.out.symm) (info35s HQL.out) HQ1.out ?_; intro w10 hb10 ho10; have HB10 := Lib.hid hb10; have HO10 := Lib.hid ho10; clear hb10 ho10))
 all_goals
  refine bodyPost_ret (ret_cell_tmp rfl rfl HB10.out agg35 (info35s HQL.out)) rfl ?_
  have s1 := HO1.out.size
  have hg := HG.out
  have o2 : Only (fun _ => False) w w2 := HO1.out.trans HO2.out
  have o3 : Only (fun _ => False) w w3 := o2.then HO3.out (fun i hi e => by omega)
  have o4 : Only (fun _ => False) w w4 := o3.then HO4.out (fun i hi e => by omega)
  have o5 : Only (fun _ => False) w w5 := o4.then HO5.out (fun i hi e => by omega)
  have o6 : Only (fun _ => False) w w6 := o5.then HO6.out (fun i hi e => by omega)
  have o9 : Only (fun _ => False) w w9 := (o6.trans HO8.out).trans HO9.out
  exact HDO.out _ _ ⟨o9.then HO10.out (fun i hi e => by have := HH1.out; omega), by simp_all⟩
def bad3 (l : Bytes) : Bool := pBad l [nVer, nId, nTime, nExt, nSig] || badG (pV l) nId 4 || (bytesB (pV l) nId).isNone || !decide (((bytesB (pV l) nId).getD []).length = 32) || badG (pV l) nTime 3 || badG (pV l) nSig 4 || (bytesB (pV l) nSig).isNone || !markB ((bytesB (pV l) nSig).getD [])
def badSct (l : Bytes) : Bool := bad3 l || badG (pV l) nVer 3 || decide (numL l nVer ≠ 0) || badG (pV l) nExt 4 || (bytesB (pV l) nExt).isNone || decide (0 < (bsL l nExt).length)
def sctL (l : Bytes) : List Value := sctC (digB (bsL l nId)) (numL l nTime) (sigB (bsL l nSig))
def SctTake (l : Bytes) (w : World) (e : Ending) (w' : World) : Prop :=
 Only (fun _ => False) w w' ∧ e = .returned (.tuple #[.agg (if badSct l = true then zc28 else sctL l).toArray, .int .i64 (if badSct l = true then 5 else 0)])
theorem sctL_len (l : Bytes) : (sctL l).length = 97 := sctC_len (digB_length _) (sigB_length _)
theorem sctL_one (l : Bytes) : (sctL l).all (·.oneCell') = true := sctC_one _ _ _
theorem sctL_built (l : Bytes) : Tryz.prog.built 28 [(0, .agg (u8s (digB (bsL l nId))).toArray), (1, .int .u64 (numL l nTime)), (2, .agg (u8s (sigB (bsL l nSig))).toArray)] = some (sctL l).toArray := built28 (digB_length _) (sigB_length _)
set_option maxRecDepth 100000 in
set_option maxHeartbeats 6400000 in
theorem takeSct_any {A : Option Addr} {c : Nat} {l : Bytes} {w : World} (hI : Inp w A l) (hcap : l.length ≤ c) :
  Calls Tryz.prog 5 #[.slice A l.length c] w (SctTake l w) := by
 have HI := Lib.hid hI
 have HC := Lib.hid hcap
 obtain ⟨bb, hbb⟩ : ∃ bb, bb = badSct l := ⟨_, rfl⟩
 have HBB := Lib.hid hbb
 have HDO := Lib.hid (show ∀ e w', (Only (fun _ => False) w w' ∧ e = .returned (.tuple #[.agg (if bb = true then zc28 else sctL l).toArray, .int .i64 (if bb = true then 5 else 0)])) → SctTake l w e w' from fun e w' h => by unfold SctTake; rw [← hbb]; exact h)
 have HQL := Lib.hid (show (if bb = true then zc28 else sctL l).length = 97 from by split; exact zc28_len; exact sctL_len l)
 have HQ1 := Lib.hid (show (if bb = true then zc28 else sctL l).all (·.oneCell') = true from by split; exact zc28_one; exact sctL_one l)
 clear hI hcap hbb
 go_enter Tryz.func5, Tryz.ntmps5
 go_upto_region 3 with (first
  | (refine wpList_alloc_blk rfl 28 2 rfl rfl zero28 ?_; intro w1 hb1 ho1 hs1; have HR1 := Lib.hid hb1; have HO1 := Lib.hid ho1; have HS1 := Lib.hid hs1; clear hb1 ho1 hs1; generalize hH1 : w.heap.size = Hr at HR1 HS1 ⊢; have HH1 := Lib.hid hH1; clear hH1)
  | (go_at_call 26; refine (mp_sct (HI.out.keep HO1.out) HC.out).mono ?_; rintro e w2 ⟨ho2, g, rfl, hg, ht2⟩; have HO2 := Lib.hid (((Only.refl _ w1).alloc _).trans ho2); have HT2 := Lib.hid ht2; have HG := Lib.hid (show w1.heap.size ≤ g by have := hg; simp at this; omega); clear ho2 hg ht2)
  | (go_at_call 29; refine (tsig_nSig (fun b hb => hb) HT4.out).mono ?_; rintro e w5 ⟨ho5, ht5, rfl⟩; rw [show (pBad l [nVer, nId, nTime, nExt, nSig] || badG (pV l) nId 4 || (bytesB (pV l) nId).isNone || !decide (((bytesB (pV l) nId).getD []).length = 32) || badG (pV l) nTime 3 || badG (pV l) nSig 4 || (bytesB (pV l) nSig).isNone || !markB ((bytesB (pV l) nSig).getD [])) = bad3 l from rfl] at ht5; have HO5 := Lib.hid ho5; have HT5 := Lib.hid ht5; clear ho5 ht5)
  | (go_at_call 28; refine (tnum_nTime (fun b hb => hb) HT3.out).mono ?_; rintro e w4 ⟨ho4, ht4, rfl⟩; have HO4 := Lib.hid ho4; have HT4 := Lib.hid ht4; clear ho4 ht4)
  | (go_at_call 27; refine (thash_nId (fun b hb => hb) HT2.out).mono ?_; rintro e w3 ⟨ho3, ht3, rfl⟩; have HO3 := Lib.hid ho3; have HT3 := Lib.hid ht3; clear ho3 ht3)
  | (refine wpList_buildP rfl 28 _ rfl (sctL_built l) (by simp [Act.eval, numL, bsL]) ?_)
  | (refine wpList_alloc_blk rfl 28 5 rfl rfl zero28 ?_; intro w7 hb7 ho7 hs7; have HB7 := Lib.hid hb7; have HO7 := Lib.hid ho7; clear hb7 ho7 hs7; generalize hH7 : w5.heap.size = Ht at HB7 ⊢; have HH7 := Lib.hid hH7; clear hH7)
  | (refine wpList_store_blk (cs := sctL l) rfl 28 (.tmp 5) (.tmp 15) rfl rfl rfl rfl HB7.out (zc28_len.trans (sctL_len l).symm) (info28s (sctL_len l)) (sctL_one l) ?_; intro w8 hb8 ho8; have HB8 := Lib.hid hb8; have HO8 := Lib.hid ((HO7.out.then ho8 (G := fun _ => False) (fun i hi e => by have := HH7.out; omega))); clear hb8 ho8))
 have HT8 := Lib.hid (HT5.out.keep HO8.out)
 have hnr : ¬ (Hr = g) := fun e => by have := HS1.out; have := HG.out; omega
 have HNG := Lib.hid hnr
 have HLG := Lib.hid HT5.out.cell5.2.2
 have hnt : ¬ (Ht = g) := fun e => by have := HH7.out; have := HLG.out; omega
 have HNT := Lib.hid hnt
 clear hnr hnt
 have s1 := HO1.out.size
 have hg := HG.out
 have o2 : Only (fun _ => False) w w2 := HO1.out.trans HO2.out
 have o3 : Only (fun _ => False) w w3 := o2.then HO3.out (fun i hi e => by omega)
 have o4 : Only (fun _ => False) w w4 := o3.then HO4.out (fun i hi e => by omega)
 have o5 : Only (fun _ => False) w w5 := o4.then HO5.out (fun i hi e => by omega)
 have o8 : Only (fun _ => False) w w8 := o5.trans HO8.out
 have HO8w := Lib.hid o8
 have hgw : w.heap.size ≤ g := by omega
 have HGW := Lib.hid hgw
 have hr8 : Blk w8 Hr zc28 28 := ((((HR1.out.only HO2.out id).only HO3.out HNG.out).only HO4.out HNG.out).only HO5.out HNG.out).only HO8.out id
 have HR8 := Lib.hid hr8
 clear s1 hg o2 o3 o4 o5 o8 hgw hr8
 have hf2 := field79_2
 by_cases hv : numL l nVer = 0
 ·obtain ⟨m, hm⟩ : ∃ m, m = (bsL l nExt).length := ⟨_, rfl⟩
  have HMM := Lib.hid hm
  obtain ⟨b9, hb9⟩ : ∃ b, b = (bad3 l || badG (pV l) nVer 3 || badG (pV l) nExt 4 || (bytesB (pV l) nExt).isNone) := ⟨_, rfl⟩
  have HB9 := Lib.hid hb9
  clear hb9
  have HV0 := Lib.hid hv
  by_cases hx : 0 < m
  ·have qx : decide ((0 : Int) < (m : Int)) = true := by simp; omega
   have qx2 : decide (0 < m) = true := by simp; omega
   have hxz : (0 : Int) < (m : Int) := by omega
   have htr : true = bb := by rw [HBB.out]; unfold badSct; rw [← hm, decide_eq_true hx]; simp
   clear hv hm
   subst htr
   go_wp2_with (first
    | (go_at_call 30; refine (tbytes_nExt (fun b hb => hb) HT9.out).mono ?_; rintro e w10 ⟨ho10, ht10, A10, c10, rfl, hf10⟩; rw [show ((bytesB (pV l) nExt).getD []).length = _ from HMM.out.symm]; rw [show (bad3 l || badG (pV l) nVer 3 || badG (pV l) nExt 4 || (bytesB (pV l) nExt).isNone) = _ from HB9.out.symm] at ht10; have HO10 := Lib.hid ho10; obtain ⟨hc5, hz5, hg5⟩ := ht10.cell5; have HT10 := Lib.hid ht10; clear ho10 ht10 hf10 hg5)
    | (go_at_call 28; refine (tnum_nVer (fun b hb => hb) HT8.out).mono ?_; rintro e w9 ⟨ho9, ht9, rfl⟩; rw [show ((getB (pV l) nVer).getD JV0).num = numL l nVer from rfl]; rw [HV0.out]; have HO9 := Lib.hid ho9; have HT9 := Lib.hid ht9; clear ho9 ht9)
    | (refine wpList_load_blk (cs := sctL l) rfl 28 (.tmp 5) rfl rfl (((HB8.out.only HO9.out HNT.out).only HO10.out HNT.out).far (fun e => HNT.out (by simpa using e)) _) agg28 (info28s (sctL_len l)) ?_)
    | (go_at_call 31; refine (told_sct (HT10.out.putb _ (fun b hb => hb)) (sctL_len l) (sctL_one l)).mono ?_; rintro e w11 ⟨ho11, rfl⟩; have HO11 := Lib.hid ho11; clear ho11)
    | (refine wpList_store_blk (cs := zc28) rfl 28 (.tmp 2) (.tmp 37) rfl rfl rfl rfl (((((HR8.out.only HO9.out HNG.out).only HO10.out HNG.out).far (fun e => HNG.out (by simpa using e)) _)).only HO11.out id) (zc28_len.trans zc28_len.symm) (info28s zc28_len) zc28_one ?_; intro w12 hb12 ho12; have HB12 := Lib.hid hb12; have HO12 := Lib.hid ho12; clear hb12 ho12))
   refine bodyPost_ret (ret_cell_tmp rfl rfl HB12.out agg28 (info28s zc28_len)) rfl ?_
   have hg := HGW.out
   have o9 : Only (fun _ => False) w w9 := HO8w.out.then HO9.out (fun i hi e => by omega)
   have o10 : Only (fun _ => False) w w10 := o9.then HO10.out (fun i hi e => by omega)
   exact HDO.out _ _ ⟨((o10.setCell (fun e => by simp at e; omega) _).trans HO11.out).then HO12.out (fun i hi e => by have := HH1.out; omega), rfl⟩
  ·obtain rfl : m = 0 := by omega
   have htr : b9 = bb := by rw [HBB.out, HB9.out]; unfold badSct; rw [← hm, hv]; simp
   clear hv hm hx
   subst htr
   cases b9 with
   | false =>
    go_wp2_with (first
     | (go_at_call 30; refine (tbytes_nExt (fun b hb => hb) HT9.out).mono ?_; rintro e w10 ⟨ho10, ht10, A10, c10, rfl, hf10⟩; rw [show ((bytesB (pV l) nExt).getD []).length = _ from HMM.out.symm]; rw [show (bad3 l || badG (pV l) nVer 3 || badG (pV l) nExt 4 || (bytesB (pV l) nExt).isNone) = _ from HB9.out.symm] at ht10; have HO10 := Lib.hid ho10; obtain ⟨hc5, hz5, hg5⟩ := ht10.cell5; have HT10 := Lib.hid ht10; clear ho10 ht10 hf10 hg5)
     | (go_at_call 28; refine (tnum_nVer (fun b hb => hb) HT8.out).mono ?_; rintro e w9 ⟨ho9, ht9, rfl⟩; rw [show ((getB (pV l) nVer).getD JV0).num = numL l nVer from rfl]; rw [HV0.out]; have HO9 := Lib.hid ho9; have HT9 := Lib.hid ht9; clear ho9 ht9)
     | (refine wpList_load_blk (cs := sctL l) rfl 28 (.tmp 5) rfl rfl (((HB8.out.only HO9.out HNT.out).only HO10.out HNT.out).far (fun e => HNT.out (by simpa using e)) _) agg28 (info28s (sctL_len l)) ?_)
     | (go_at_call 31; refine (told_sct (HT10.out.putb _ (fun b hb => hb)) (sctL_len l) (sctL_one l)).mono ?_; rintro e w11 ⟨ho11, rfl⟩; have HO11 := Lib.hid ho11; clear ho11)
     | (refine wpList_store_blk (cs := sctL l) rfl 28 (.tmp 2) (.tmp 37) rfl rfl rfl rfl (((((HR8.out.only HO9.out HNG.out).only HO10.out HNG.out).far (fun e => HNG.out (by simpa using e)) _)).only HO11.out id) (zc28_len.trans (sctL_len l).symm) (info28s (sctL_len l)) (sctL_one l) ?_; intro w12 hb12 ho12; have HB12 := Lib.hid hb12; have HO12 := Lib.hid ho12; clear hb12 ho12))
    refine bodyPost_ret (ret_cell_tmp rfl rfl HB12.out agg28 (info28s (sctL_len l))) rfl ?_
    have hg := HGW.out
    have o9 : Only (fun _ => False) w w9 := HO8w.out.then HO9.out (fun i hi e => by omega)
    have o10 : Only (fun _ => False) w w10 := o9.then HO10.out (fun i hi e => by omega)
    exact HDO.out _ _ ⟨((o10.setCell (fun e => by simp at e; omega) _).trans HO11.out).then HO12.out (fun i hi e => by have := HH1.out; omega), rfl⟩
   | true =>
    go_wp2_with (first
     | (go_at_call 30; refine (tbytes_nExt (fun b hb => hb) HT9.out).mono ?_; rintro e w10 ⟨ho10, ht10, A10, c10, rfl, hf10⟩; rw [show ((bytesB (pV l) nExt).getD []).length = _ from HMM.out.symm]; rw [show (bad3 l || badG (pV l) nVer 3 || badG (pV l) nExt 4 || (bytesB (pV l) nExt).isNone) = _ from HB9.out.symm] at ht10; have HO10 := Lib.hid ho10; obtain ⟨hc5, hz5, hg5⟩ := ht10.cell5; have HT10 := Lib.hid ht10; clear ho10 ht10 hf10 hg5)
     | (go_at_call 28; refine (tnum_nVer (fun b hb => hb) HT8.out).mono ?_; rintro e w9 ⟨ho9, ht9, rfl⟩; rw [show ((getB (pV l) nVer).getD JV0).num = numL l nVer from rfl]; rw [HV0.out]; have HO9 := Lib.hid ho9; have HT9 := Lib.hid ht9; clear ho9 ht9)
     | (refine wpList_load_blk (cs := sctL l) rfl 28 (.tmp 5) rfl rfl (((HB8.out.only HO9.out HNT.out).only HO10.out HNT.out).far (fun e => HNT.out (by simpa using e)) _) agg28 (info28s (sctL_len l)) ?_)
     | (go_at_call 31; refine (told_sct (HT10.out.putb _ (fun b hb => hb)) (sctL_len l) (sctL_one l)).mono ?_; rintro e w11 ⟨ho11, rfl⟩; have HO11 := Lib.hid ho11; clear ho11)
     | (refine wpList_store_blk (cs := zc28) rfl 28 (.tmp 2) (.tmp 37) rfl rfl rfl rfl (((((HR8.out.only HO9.out HNG.out).only HO10.out HNG.out).far (fun e => HNG.out (by simpa using e)) _)).only HO11.out id) (zc28_len.trans zc28_len.symm) (info28s zc28_len) zc28_one ?_; intro w12 hb12 ho12; have HB12 := Lib.hid hb12; have HO12 := Lib.hid ho12; clear hb12 ho12))
    refine bodyPost_ret (ret_cell_tmp rfl rfl HB12.out agg28 (info28s zc28_len)) rfl ?_
    have hg := HGW.out
    have o9 : Only (fun _ => False) w w9 := HO8w.out.then HO9.out (fun i hi e => by omega)
    have o10 : Only (fun _ => False) w w10 := o9.then HO10.out (fun i hi e => by omega)
    exact HDO.out _ _ ⟨((o10.setCell (fun e => by simp at e; omega) _).trans HO11.out).then HO12.out (fun i hi e => by have := HH1.out; omega), rfl⟩
 ·have qv : ((numL l nVer : Int) != 0) = true := by simp; omega
  obtain ⟨m, hm⟩ : ∃ m, m = numL l nVer := ⟨_, rfl⟩
  rw [← hm] at qv
  have HV0 := Lib.hid hm.symm
  have htr : true = bb := by rw [HBB.out]; unfold badSct; rw [decide_eq_true hv]; simp
  clear hv hm
  subst htr
  go_wp2_with (first
   | (go_at_call 28; refine (tnum_nVer (fun b hb => hb) HT8.out).mono ?_; rintro e w9 ⟨ho9, ht9, rfl⟩; rw [show ((getB (pV l) nVer).getD JV0).num = numL l nVer from rfl]; rw [HV0.out]; have HO9 := Lib.hid ho9; have HT9 := Lib.hid ht9; obtain ⟨hc5, hz5, hg5⟩ := ht9.cell5; clear hg5; clear ho9 ht9)
   | (refine wpList_load_blk (cs := sctL l) rfl 28 (.tmp 5) rfl rfl ((HB8.out.only HO9.out HNT.out).far (fun e => HNT.out (by simpa using e)) _) agg28 (info28s (sctL_len l)) ?_)
   | (go_at_call 31; refine (told_sct (HT9.out.putb _ (fun b hb => hb)) (sctL_len l) (sctL_one l)).mono ?_; rintro e w11 ⟨ho11, rfl⟩; have HO11 := Lib.hid ho11; clear ho11)
   | (refine wpList_store_blk (cs := zc28) rfl 28 (.tmp 2) (.tmp 37) rfl rfl rfl rfl ((((HR8.out.only HO9.out HNG.out).far (fun e => HNG.out (by simpa using e)) _)).only HO11.out id) (zc28_len.trans zc28_len.symm) (info28s zc28_len) zc28_one ?_; intro w12 hb12 ho12; have HB12 := Lib.hid hb12; have HO12 := Lib.hid ho12; clear hb12 ho12))
  refine bodyPost_ret (ret_cell_tmp rfl rfl HB12.out agg28 (info28s zc28_len)) rfl ?_
  have hg := HGW.out
  have o9 : Only (fun _ => False) w w9 := HO8w.out.then HO9.out (fun i hi e => by omega)
  have o10 := o9
  exact HDO.out _ _ ⟨((o10.setCell (fun e => by simp at e; omega) _).trans HO11.out).then HO12.out (fun i hi e => by have := HH1.out; omega), rfl⟩
structure WB (B : Nat) (w w' : World) : Prop where
 only : Only (B ≤ ·) w w'
 kept : Lib.OthersKept 5 none w w'
theorem WB.refl (B : Nat) (w : World) : WB B w w := ⟨Only.refl _ _, Lib.OthersKept.refl _ _ _⟩
theorem WB.trans {B : Nat} {a b c : World} (h : WB B a b) (k : WB B b c) : WB B a c := ⟨h.only.trans k.only, h.kept.trans k.kept⟩
theorem WB.grown {B : Nat} {w w' : World} {v : Value} {l : Bytes} (ho : OwnB w B v l) (hg : w.grownBy w' v.ownBlock) : WB B w w' := by
 refine ⟨(Only.ofGrown hg).mono (fun i hi e => (ho.lt i e).1), ?_⟩
 intro k o hk _ hno
 have hlt := (Array.getElem?_eq_some_iff.1 hk).1
 refine (hg.block k hlt ?_).trans hk
 intro e
 rcases ho.2 with ⟨hv, _⟩ | ⟨g, cap, cur, hv, hb, hgg, _⟩
 ·rw [hv] at e; cases e
 ·rw [hv] at e
  cases e
  rw [hk] at hgg
  cases hgg
  exact hno _ _ rfl
theorem WB.alloc {B : Nat} {w w' : World} (h : WB B w w') (o : Obj) : WB B w (w'.alloc o) :=
 ⟨h.only.alloc o, fun k ob hk hb hno => by
  have := h.kept k ob hk hb hno
  exact (Below.heap_alloc _ _ _ (Array.getElem?_eq_some_iff.1 this).1).trans this⟩
theorem WB.blk {B : Nat} {w w' : World} {g : Nat} {cs : List Value} {T : TypeId} (h : WB B w w') (hb : Blk w g cs T) (hT : T ≠ 5) : Blk w' g cs T :=
 h.kept g _ hb (by simp) (fun c fz e => by cases e; exact hT rfl)
theorem WB.of_false {B : Nat} {w w' : World} (h : Only (fun _ => False) w w') : WB B w w' :=
 ⟨h.mono (fun _ _ x => x.elim), fun k o hk _ _ => (h.block k (Array.getElem?_eq_some_iff.1 hk).1 id).trans hk⟩
def PlainT (t : Bytes) : Prop := ∀ x ∈ t, 32 ≤ x.toNat ∧ x ≠ 34 ∧ x ≠ 92
theorem wpList_append_y {ops : Array Oper} {rest : List Oper} {o : Oper} {a : Act} {w : World} {Q : Exit → Act → World → Prop} (hgd : o.guard = none) (s x : Operand) (ho : o.op = .call { callee := .builtin .append, args := #[s, x], argTypes := #[22, 22] })
  {base : Nat} {v : Value} {l : Bytes} (hs : a.eval s = v) (hown : OwnB w base v l) {g c : Nat} {z : Int} (hx : a.eval x = .slice (some ⟨g, 0, none⟩) 1 c)
  {y : UInt8} (hz : z = y.toNat) (hnew : w.cell? ⟨g, 0, none⟩ = some (.int .u8 z)) (hlen : l.length + 1 ≤ 2 ^ 40) (hbase : base ≤ w.heap.size)
  (h : ∀ gg cap w', OwnB w' base (.slice (some ⟨gg, 0, none⟩) (l ++ [y]).length cap) (l ++ [y]) → w.grownBy w' v.ownBlock → (v.ownBlock = some gg ∨ gg = w.heap.size) → wpList Tryz.prog ops Q rest (a.put o.dst (.slice (some ⟨gg, 0, none⟩) (l ++ [y]).length cap)) w') : wpList Tryz.prog ops Q (o :: rest) a w := by
 obtain ⟨i0, hi, hz0, hz1, hz2⟩ := info_parts info5
 refine wpList_append_lies w hgd s x 22 ho base 5 i0 (.int .u8 0) 1 1 under22 hi hz0 hz1 hz2 rfl (by decide) v l.length (cellsB l) hs hown ⟨g, 0, none⟩ 1 c [.int .u8 z] hx rfl ?_ ?_ (by decide) (by unfold maxLen; omega) (by omega) hbase _ rfl ?_
 ·intro j u hj
  cases j with
  | zero => simp at hj; subst hj; simpa [Addr.add] using hnew
  | succ j => simp at hj
 ·intro u hu; simp at hu; subst hu; rfl
 ·intro gg cap w' h1 h2 h3 _
  have e : (l ++ [y]).length = l.length + 1 := by simp
  have h' := h gg cap w'
  rw [e] at h'
  refine h' ?_ h2 h3
  subst hz
  unfold OwnB
  rw [e]
  have e2 : cellsB (l ++ [y]) = cellsB l ++ [.int .u8 y.toNat] := by unfold cellsB; simp
  rw [e2]
  exact h1
theorem wpList_bytes_of {ops : Array Oper} {rest : List Oper} {o : Oper} {a : Act} {w : World} {Q : Exit → Act → World → Prop} (hgd : o.guard = none) (x : Operand) (ho : o.op = .convert 9 22 x) {t : Bytes} (hx : a.eval x = .string ⟨t.toArray⟩)
  (h : ∀ cap w', BytesAt w' (some ⟨w.heap.size, 0, none⟩) t → Only (fun _ => False) w w' → w'.heap.size = w.heap.size + 1 → wpList Tryz.prog ops Q rest (a.put o.dst (.slice (some ⟨w.heap.size, 0, none⟩) t.length cap)) w') : wpList Tryz.prog ops Q (o :: rest) a w := by
 refine wpList_plain hgd fun K hK => ?_
 have hr := run_bytes_of_string (P := Tryz.prog) w 9 22 5 ⟨t.toArray⟩ under9 under22 under5
 unfold Oper.wp execOp
 simp only [ho, Sem.run_bind, hx, hr, Result.andThen_ok]
 refine hK _ _ ?_
 have hsz : (⟨t.toArray⟩ : ByteArray).size = t.length := by show t.toArray.size = _; simp
 rw [hsz]
 refine h _ _ ?_ (((Only.refl _ w).drew).alloc _) (by rw [World.size_alloc]; rfl)
 intro i y hy
 refine ⟨w.heap.size, 0, rfl, ?_⟩
 have hb : (w.drew.alloc (.cells (bytesRow ⟨t.toArray⟩ (grownCap w t.length 0 5)) 5 ((bytesRow ⟨t.toArray⟩ (grownCap w t.length 0 5)).size, (bytesRow ⟨t.toArray⟩ (grownCap w t.length 0 5)).size + 1))).heap[w.heap.size]? = some (.cells (bytesRow ⟨t.toArray⟩ (grownCap w t.length 0 5)) 5 ((bytesRow ⟨t.toArray⟩ (grownCap w t.length 0 5)).size, (bytesRow ⟨t.toArray⟩ (grownCap w t.length 0 5)).size + 1)) := World.alloc_heap_new w.drew _
 unfold World.cell?
 simp only [hb]
 have hi := (List.getElem?_eq_some_iff.1 hy).1
 unfold bytesRow
 have hy2 := (List.getElem?_eq_some_iff.1 hy).2
 simp [Array.getElem?_append, hi, hy2]
structure JWMid (B Hs : Nat) (w : World) (L t : Bytes) (rv : Value) (wx : World) : Prop where
 own : ∃ A c, rv = .slice A L.length c ∧ OwnB wx B rv L
 ne : rv.ownBlock ≠ some Hs
 src : BytesAt wx (some ⟨Hs, 0, none⟩) t
 wb : WB B w wx
 lt : Hs < wx.heap.size
theorem JWMid.snoc {B Hs gg cap : Nat} {w wx wy : World} {L t : Bytes} {rv : Value} {y : UInt8} {o : Obj} (h : JWMid B Hs w L t rv wx) (ho : OwnB wy B (.slice (some ⟨gg, 0, none⟩) (L ++ [y]).length cap) (L ++ [y])) (hg : (wx.alloc o).grownBy wy rv.ownBlock) (hor : rv.ownBlock = some gg ∨ gg = (wx.alloc o).heap.size) :
  JWMid B Hs w (L ++ [y]) t (.slice (some ⟨gg, 0, none⟩) (L ++ [y]).length cap) wy := by
 obtain ⟨A, c, e, hown⟩ := h.own
 refine ⟨⟨_, _, rfl, ho⟩, ?_, ?_, (h.wb.alloc o).trans (WB.grown (hown.alloc o) hg), ?_⟩
 ·intro e2
  have e9 : gg = Hs := Option.some.inj e2
  subst e9
  rcases hor with e3 | e3
  ·exact h.ne e3
  ·have h9 := h.lt
   have h8 : (wx.alloc o).heap.size = wx.heap.size + 1 := World.size_alloc _ _
   omega
 ·exact (h.src.only ((Only.refl (fun _ => False) wx).alloc o) (fun _ _ _ => id)).only (Only.ofGrown hg) (fun b o2 e2 e3 => by cases e2; exact h.ne e3)
 ·have h1 := hg.size
  have h2 := h.lt
  have h3 : (wx.alloc o).heap.size = wx.heap.size + 1 := World.size_alloc _ _
  omega
theorem wpList_append_z {ops : Array Oper} {rest : List Oper} {o : Oper} {a : Act} {w : World} {Q : Exit → Act → World → Prop} (hgd : o.guard = none) (s x : Operand) (ho : o.op = .call { callee := .builtin .append, args := #[s, x], argTypes := #[22, 22] })
  {base : Nat} {v : Value} {l : Bytes} (hs : a.eval s = v) (hown : OwnB w base v l) {g c : Nat} {z : Int} (hx : a.eval x = .slice (some ⟨g, 0, none⟩) 1 c)
  {y : UInt8} (hz : z = y.toNat) (hnew : w.cell? ⟨g, 0, none⟩ = some (.int .u8 z)) (hlen : l.length + 1 ≤ 2 ^ 40) (hbase : base ≤ w.heap.size)
  (h : ∀ gg n cap w', OwnB w' base (.slice (some ⟨gg, 0, none⟩) n cap) (l ++ [y]) → w.grownBy w' v.ownBlock → (v.ownBlock = some gg ∨ gg = w.heap.size) → wpList Tryz.prog ops Q rest (a.put o.dst (.slice (some ⟨gg, 0, none⟩) n cap)) w') : wpList Tryz.prog ops Q (o :: rest) a w :=
 wpList_append_y hgd s x ho hs hown hx hz hnew hlen hbase (fun gg cap w' h1 h2 h3 => h gg _ cap w' h1 h2 h3)
def JWordAt (B : Nat) (T : Bytes) (w : World) (e : Ending) (w' : World) : Prop := ∃ A n c, e = .returned (.slice A n c) ∧ OwnB w' B (.slice A n c) T ∧ WB B w w'
set_option maxRecDepth 100000 in
set_option maxHeartbeats 3200000 in
theorem jword_any {B : Nat} {A : Option Addr} {n c : Nat} {l t : Bytes} {w : World} (hO : OwnB w B (.slice A n c) l) (hB : B ≤ w.heap.size) (hp : PlainT t) (hlen : l.length + t.length ≤ 1000000000000) :
  Calls Tryz.prog 123 #[.slice A n c, .string ⟨t.toArray⟩] w (JWordAt B (l ++ 34 :: (t ++ [34])) w) := by
 obtain rfl := hO.bytes.1
 have HO := Lib.hid hO
 have HB := Lib.hid hB
 have HP := Lib.hid hp
 have HL := Lib.hid hlen
 clear hO hB hp hlen
 go_enter Tryz.func123, Tryz.ntmps123
 go_upto_region 3 with (first
  | (refine wpList_append_y rfl (.tmp 7) (.tmp 8) rfl rfl (HO.out.alloc _) rfl (y := 34) rfl (new_cells w [.int .u8 34] 5 rfl) (by have := HL.out; omega) (by have := HB.out; simp; omega) ?_; intro gg cap w1 hown1 hgr1 hor1; have HOWN1 := Lib.hid hown1; have HW1 := Lib.hid (((WB.refl B w).alloc _).trans (WB.grown (HO.out.alloc _) hgr1)); clear hown1 hgr1 hor1)
  | (refine wpList_bytes_of rfl (.tmp 10) rfl (t := t) rfl ?_; intro cap2 w2 hb2 ho2 hs2; have hm2 : JWMid B w1.heap.size w (l ++ [34]) t (.slice (some ⟨gg, 0, none⟩) (l ++ [34]).length cap) w2 := ⟨⟨_, _, rfl, HOWN1.out.only ho2 (fun _ _ => id)⟩, (fun e => by have e9 : gg = w1.heap.size := Option.some.inj e; have h9 : gg < w1.heap.size := (HOWN1.out.lt gg rfl).2; omega), hb2, HW1.out.trans (WB.of_false ho2), by omega⟩; have HM2 := Lib.hid hm2; clear hb2 ho2 hs2 hm2; generalize w1.heap.size = Hs at HM2 ⊢))
 have htl : (t.length : Int) ≤ 1000000000000 := by have := HL.out; omega
 go_loopw [13, 0] (fun s13 s0 wr => ∃ j : Nat, j ≤ t.length ∧ s13 = .int .i64 (j : Int) ∧ JWMid B Hs w (l ++ 34 :: t.take j) t s0 wr) (fun i _ _ => t.length - (intOf i).toNat)
 case atStart => exact ⟨0, by omega, rfl, by have := HM2.out; simpa using this⟩
 case round =>
  obtain ⟨j, hj, rfl, hm⟩ := hrel
  have HM := Lib.hid hm
  clear hm
  obtain ⟨A0, c0, e0, hown⟩ := HM.out.own
  subst e0
  have HOWN := Lib.hid hown
  clear hown
  rcases Nat.lt_or_ge j t.length with hlt | hge
  ·obtain ⟨x, hx⟩ : ∃ x, t[j]? = some x := ⟨t[j], List.getElem?_eq_getElem hlt⟩
   have q : decide ((j : Int) < (t.length : Int)) = true := by simp; omega
   have hjz : (j : Int) < (t.length : Int) := by omega
   have hcx := HM.out.src.lies j x hx
   rw [Nat.zero_add] at hcx
   obtain ⟨p1, p2, p3⟩ := HP.out x (List.mem_of_getElem? hx)
   have qx1 : decide ((x.toNat : Int) < 32) = false := by simp; omega
   have qx2 : ((x.toNat : Int) == 34) = false := by
    have : x.toNat ≠ 34 := fun e => p2 (UInt8.toNat_inj.1 e)
    simp; omega
   have qx3 : ((x.toNat : Int) == 92) = false := by
    have : x.toNat ≠ 92 := fun e => p3 (UInt8.toNat_inj.1 e)
    simp; omega
   have HTK := Lib.hid (take_snoc hx)
   have HLT := Lib.hid hlt
   clear hx p1 p2 p3 hlt
   go_wp2_with (refine wpList_append_y rfl (.tmp 17) (.tmp 19) rfl rfl (HOWN.out.alloc _) rfl (y := x) rfl (new_cells _ [.int .u8 x.toNat] 5 rfl) (by have := HL.out; simp; omega) (by have := HM.out.wb.only.size; have := HB.out; simp; omega) ?_; intro gg3 cap3 w3 hown3 hgr3 hor3; have HM3 := Lib.hid (HM.out.snoc hown3 hgr3 hor3); clear hown3 hgr3 hor3)
   go_roundw
   case rel =>
    refine ⟨j + 1, by have := HLT.out; omega, by push_cast; rfl, ?_⟩
    have h := HM3.out
    rw [HTK.out]
    have hmin : min j t.length = j := by have := HLT.out; omega
    simpa [List.append_assoc, hmin] using h
   case measure => have := HLT.out; simp [intOf]; omega
  ·have q : decide ((j : Int) < (t.length : Int)) = false := by simp; omega
   obtain rfl : j = t.length := by omega
   go_wp2_with (refine wpList_append_y rfl (.tmp 45) (.tmp 46) rfl rfl (HOWN.out.alloc _) rfl (y := 34) rfl (new_cells _ [.int .u8 34] 5 rfl) (by have := HL.out; simp; omega) (by have := HM.out.wb.only.size; have := HB.out; simp; omega) ?_; intro gg3 cap3 w3 hown3 hgr3 hor3; have HM3 := Lib.hid (HM.out.snoc hown3 hgr3 hor3); have HO3 := Lib.hid hown3; clear hown3 hgr3 hor3)
   go_ret
   have e : (l ++ 34 :: t.take t.length) ++ [34] = l ++ 34 :: (t ++ [34]) := by rw [List.take_length]; simp
   have h3 := HO3.out
   rw [e] at h3
   refine ⟨_, _, _, ?_, h3, HM3.out.wb⟩
   simp
def joinP (ts : List Bytes) : Bytes := (ts.zipIdx.map fun x => (if x.2 = 0 then [] else [44]) ++ x.1).flatten
theorem joinP_nil : joinP [] = [] := rfl
theorem joinP_snoc (ts : List Bytes) (t : Bytes) : joinP (ts ++ [t]) = joinP ts ++ ((if ts.length = 0 then [] else [44]) ++ t) := by
 unfold joinP
 rw [List.zipIdx_append, List.map_append, List.flatten_append]
 simp
def quoteP (k : Bytes) : Bytes := 34 :: (k ++ [34])
def memP (k t : Bytes) : Bytes := quoteP k ++ 58 :: t
inductive GW : Nat → JV → Bytes → Prop
 | num {m n : Nat} : n < 18446744073709551616 → GW m (.mk 3 [] n [] []) (Lib.decDigits n)
 | str {m : Nat} {s : Bytes} : PlainT s → (∀ x ∈ s, x.toNat < 128) → GW m (.mk 4 s 0 [] []) (quoteP s)
 | arr {m : Nat} {l : List JV} {ts : List Bytes} : l.length ≤ 3000000000 → ts.length = l.length → (∀ (i : Nat) (v : JV) (t : Bytes), l[i]? = some v → ts[i]? = some t → GW m v t) → GW (m + 1) (.mk 5 [] 0 l []) (91 :: (joinP ts ++ [93]))
 | obj {m : Nat} {l : List JV} {ks ts : List Bytes} : l.length ≤ 3000000000 → ts.length = l.length → ks.length = l.length → ks.Nodup → (∀ k ∈ ks, PlainT k ∧ ∀ x ∈ k, x.toNat < 128) → (∀ (i : Nat) (v : JV) (t : Bytes), l[i]? = some v → ts[i]? = some t → GW m v t) →
   GW (m + 1) (.mk 6 [] 0 l ks) (123 :: (joinP (List.zipWith memP ks ts) ++ [125]))
theorem appendUint_any {B : Nat} {A : Option Addr} {nn c u : Nat} {l : Bytes} {w : World} (hO : OwnB w B (.slice A nn c) l) (hB : B ≤ w.heap.size) (hu : u < 18446744073709551616) (hG : Gl w) (hl : l.length ≤ 1000000000000) :
  Calls Tryz.prog 122 #[.slice A nn c, .int .u64 u, .int .i64 10] w (JWordAt B (l ++ Lib.decDigits u) w) := by
 obtain rfl := hO.bytes.1
 have hc : Calls Tryz.prog 145 #[.slice A l.length c, .int .u64 u, .int .i64 10] w (JWordAt B (l ++ Lib.decDigits u) w) := by
  have fin : ∀ e w', (∃ v', e = Ending.returned v' ∧ w'.ownsRow B 5 1 v' (l.length + (Lib.decDigits u).length) (cellsB l ++ Lib.byteCells (Lib.decDigits u)) ∧ Below B w w' ∧ Lib.OthersKept 5 none w w') → JWordAt B (l ++ Lib.decDigits u) w e w' := by
   rintro e w' ⟨v', rfl, ho, hb, hk⟩
   have ho2 : OwnB w' B v' (l ++ Lib.decDigits u) := by
    unfold OwnB
    rw [List.length_append]
    have e2 : cellsB (l ++ Lib.decDigits u) = cellsB l ++ Lib.byteCells (Lib.decDigits u) := by unfold cellsB Lib.byteCells; simp
    rw [e2]; exact ho
   obtain ⟨A', c', rfl⟩ := ho2.form
   exact ⟨A', _, c', rfl, ho2, ⟨⟨hb.os, hb.tape, hb.output, hb.size, fun k hk hn => hb.block k (by omega)⟩, hk⟩⟩
  by_cases h : u < 100
  ·exact (Tryz.internal_strconv_AppendUint_10_small B l.length u h _ _ w hO hB (by omega)).mono fin
  ·exact (Tryz.internal_strconv_AppendUint_10_big B l.length u (by omega) hu _ _ w hO hB (by omega) hG.pow).mono fin
 have HC := Lib.hid hc
 clear hc hO hB hu hG hl
 go_enter Tryz.func122, Tryz.ntmps122
 go_wp2_with (go_at_call 145; refine HC.out.mono ?_; rintro e w1 ⟨A1, n1, c1, rfl, ho1, hw1⟩; have HO1 := Lib.hid ho1; have HW1 := Lib.hid hw1; clear ho1 hw1)
 go_ret
 exact ⟨A1, n1, c1, rfl, HO1.out, HW1.out⟩
theorem JIs.parts {X : Nat → Prop} {w : World} {k n : Nat} {s : Bytes} {l : List JV} {ks : List Bytes} {cs : List Value} (h : JIs X w (.mk k s n l ks) cs) : ∃ A c B d, cs = cells5 k s n (.slice A l.length c) (.slice B ks.length d) ∧
  (∀ i v, l[i]? = some v → ∃ A2 c2 B2 d2, JIs X w v (cells5 v.kind v.str v.num (.slice A2 v.list.length c2) (.slice B2 v.keys.length d2)) ∧ LieAt X w A 5 i (cells5 v.kind v.str v.num (.slice A2 v.list.length c2) (.slice B2 v.keys.length d2))) ∧
  (∀ i t, ks[i]? = some t → LieAt X w B 1 i [txt t]) := by
 have hh := h
 obtain ⟨A, c, B, d, rfl⟩ := h.form
 refine ⟨A, c, B, d, rfl, fun i v hv => JIs.elem hh hv, ?_⟩
 generalize hC : cells5 (JV.mk k s n l ks).kind (JV.mk k s n l ks).str (JV.mk k s n l ks).num (.slice A (JV.mk k s n l ks).list.length c) (.slice B (JV.mk k s n l ks).keys.length d) = C at hh
 cases hh with
 | @mk k' s' n' l' ks' A' B' c' d' cs hl h5 hc hk =>
  unfold cells5 at hC
  simp only [List.cons.injEq, Value.slice.injEq, and_true] at hC
  obtain ⟨_, _, _, _, rfl, _, _⟩ := hC
  exact hk
structure WIn (X : Nat → Prop) (B : Nat) (w : World) (l : Bytes) (A : Option Addr) (n c : Nat) : Prop where
 low : ∀ b, X b → b < B
 gl : Gl w
 b8 : 8 ≤ B
 own : OwnB w B (.slice A n c) l
 base : B ≤ w.heap.size
set_option maxRecDepth 100000 in
set_option maxHeartbeats 3200000 in
theorem write_num {X : Nat → Prop} {B nn n : Nat} {A A1 B1 : Option Addr} {c c1 d1 : Nat} {l : Bytes} {w : World} (hI : WIn X B w l A nn c) (hu : n < 18446744073709551616) (hlen : l.length + (Lib.decDigits n).length ≤ 1000000000000) :
  Calls Tryz.prog 99 #[.agg #[.int .i64 3, .string ⟨#[]⟩, .int .u64 n, .slice A1 0 c1, .slice B1 0 d1]  , .slice A nn c] w (JWordAt B (l ++ Lib.decDigits n) w) := by
 have HI := Lib.hid hI
 have HL := Lib.hid hlen
 have HU := Lib.hid hu
 clear hI hlen hu
 go_enter Tryz.func99, Tryz.ntmps99
 go_wp2_with (go_at_call 122; refine (appendUint_any (HI.out.own.alloc _) (by have := HI.out.base; simp; omega) HU.out (HI.out.gl.alloc _) (by have := HL.out; omega)).mono ?_; rintro e w1 ⟨A2, n2, c2, rfl, ho1, hw1⟩; have HO1 := Lib.hid ho1; have HW1 := Lib.hid hw1; clear ho1 hw1)
 go_ret
 exact ⟨A2, n2, c2, rfl, HO1.out, ((WB.refl B w).alloc _).trans HW1.out⟩
set_option maxRecDepth 100000 in
set_option maxHeartbeats 3200000 in
theorem write_str {X : Nat → Prop} {B nn : Nat} {A A1 B1 : Option Addr} {c c1 d1 : Nat} {l s : Bytes} {w : World} (hI : WIn X B w l A nn c) (hp : PlainT s) (hlen : l.length + s.length ≤ 1000000000000) :
  Calls Tryz.prog 99 #[.agg #[.int .i64 4, .string ⟨s.toArray⟩, .int .u64 0, .slice A1 0 c1, .slice B1 0 d1], .slice A nn c] w (JWordAt B (l ++ quoteP s) w) := by
 have HI := Lib.hid hI
 have HL := Lib.hid hlen
 have HP := Lib.hid hp
 clear hI hlen hp
 go_enter Tryz.func99, Tryz.ntmps99
 go_wp2_with (go_at_call 123; refine (jword_any (HI.out.own.alloc _) (by have := HI.out.base; simp; omega) HP.out HL.out).mono ?_; rintro e w1 ⟨A2, n2, c2, rfl, ho1, hw1⟩; have HO1 := Lib.hid ho1; have HW1 := Lib.hid hw1; clear ho1 hw1)
 go_ret
 exact ⟨A2, n2, c2, rfl, HO1.out, ((WB.refl B w).alloc _).trans HW1.out⟩
end Go.Proofs.YtjehnejgojgahaaGreatDoor
