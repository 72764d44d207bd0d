/-
  A part of the proof of MessageTakes: the texts NC ND NE.
-/
import Derived.Test.YtjehnejgojgahaaGreatDoorK29
namespace Go.Proofs.YtjehnejgojgahaaGreatDoor
open Go.RowKit
set_option linter.unusedVariables false
set_option linter.unusedSimpArgs false
theorem errP_eq (l : Bytes) : (errP l != 0) = (parseM l).isNone := by
 unfold errP
 cases parseM l with
 | some v => rfl
 | none =>
  simp only []
  split <;> rfl
theorem vk (l : Bytes) : (pV l).keys.length ≤ 3000000 := by have := (pV_small l).keys; omega
theorem vl (l : Bytes) : (pV l).list.length ≤ 3000000 := by have := (pV_small l).list; omega
theorem gl_ (l k : Bytes) : ((getB (pV l) k).getD JV0).list.length ≤ 3000000 := by have := (getB_small (pV_small l) k).list; omega
theorem gs_ (l k : Bytes) : ((getB (pV l) k).getD JV0).str.length ≤ 3000000 := by have := (getB_small (pV_small l) k).str; omega
theorem ge_ (l k : Bytes) : ∀ x ∈ ((getB (pV l) k).getD JV0).list, x.str.length ≤ 3000000 := fun x hx => by have := ((getB_small (pV_small l) k).mem hx).str; omega
theorem dsL_yes {v : JV} {k : Bytes} (h : dsOk v k = true) : dsL v k = ((getB v k).getD JV0).list.map elH := if_pos h
set_option maxRecDepth 100000 in
set_option maxHeartbeats 3200000 in
theorem takeCons_doc {A : Option Addr} {c : Nat} {l : Bytes} {w : World} (hI : Inp w A l) (hcap : l.length ≤ c) :
  Calls Tryz.prog 10 #[.slice A l.length c] w (LTake ED 32 24 (badL l [nCons] nCons okH') (elsL l nCons elH) 5 w) := by
 have HI := Lib.hid hI
 have HC := Lib.hid hcap
 obtain ⟨pn, hpn⟩ : ∃ q, q = (parseM l).isNone := ⟨_, rfl⟩
 have HPN := Lib.hid hpn
 obtain ⟨hs, hhs⟩ : ∃ q, q = hasV (pV l) 1 := ⟨_, rfl⟩
 have HHS := Lib.hid hhs
 obtain ⟨oo, hoo⟩ : ∃ q, q = dsOk (pV l) nCons := ⟨_, rfl⟩
 have HOO := Lib.hid hoo
 have HDO := Lib.hid (show ∀ e w', LTake ED 32 24 (pn || !hs || !oo) (elsL l nCons elH) 5 w e w' → LTake ED 32 24 (badL l [nCons] nCons okH') (elsL l nCons elH) 5 w e w' from fun e w' h => by rw [badCons_eq]; unfold docBad; rw [← hpn, ← hhs, ← hoo]; exact h)
 have qe : (errP l != 0) = pn := by rw [errP_eq, hpn]
 clear hI hcap hpn hhs hoo
 go_enter Tryz.func10, Tryz.ntmps10
 go_upto_region 3 with (first
  | (go_at_call 32; refine (parse_doc HI.out HC.out).mono ?_; rintro e w2 ⟨ho2, cs2, rfl, hj2⟩; have HJ2 := Lib.hid hj2; obtain ⟨A2, c2, B2, d2, rfl⟩ := hj2.form; unfold cells5 txt; have HO2 := Lib.hid ho2; clear ho2 hj2)
  | (refine wpList_store_blk rfl 85 (.tmp 4) _ rfl rfl rfl rfl (Blk.new _ Z5 85) rfl info85s rfl ?_; intro w3 hb3 ho3; have HB3 := Lib.hid hb3; have HO3 := Lib.hid ((HO2.out.alloc _).then ho3 (fun i hi e => by have := HO2.out.size; omega)); have HJ3 := Lib.hid (HJ2.out.only (Y := fun b => w.heap.size ≤ b) (((Only.refl _ w2).alloc _).trans ho3) (fun b hb hx => ⟨by omega, hx⟩)); clear hb3 ho3)
  | (refine wpList_load_blk rfl 85 (.tmp 4) rfl rfl HB3.out agg85 info85s ?_)
  | (go_at_call 42; refine (digests_doc (k := nCons) HJ3.out (vk l) (vl l) (gl_ l nCons) (ge_ l nCons)).mono ?_; rintro e w4 ⟨ho4, rv, rfl, hr4⟩; have HO4 := Lib.hid (HO3.out.trans ho4); have HB4 := Lib.hid (HB3.out.only ho4 id); have HJ4 := Lib.hid (HJ3.out.keep ho4); have HR4 := Lib.hid (hr4.mono encD HO3.out.size); clear ho4 hr4))
 rw [← HOO.out]
 generalize errP l = ez at qe ⊢
 obtain ⟨⟨k0, k1, k2, k3, k4⟩, f0, f1, f2, f3, f4⟩ := HB4.out.five
 cases pn with
 | false =>
  cases hs with
  | false =>
   go_wp2_with (first
    | (go_at_call 37; refine (has_doc (n := 1) HJ4.out).mono ?_; rintro e w5 ⟨ho5, he5⟩; rw [← HHS.out] at he5; obtain rfl := he5; have HO5 := Lib.hid (HO4.out.trans ho5);  clear ho5))
   go_ret2
   exact HDO.out _ _ ⟨HO5.out, none, 0, rfl, RowOwn.nil _ _ _⟩
  | true =>
   cases oo with
   | false =>
    go_wp2_with (first
     | (go_at_call 37; refine (has_doc (n := 1) HJ4.out).mono ?_; rintro e w5 ⟨ho5, he5⟩; rw [← HHS.out] at he5; obtain rfl := he5; have HO5 := Lib.hid (HO4.out.trans ho5);  clear ho5))
    go_ret2
    exact HDO.out _ _ ⟨HO5.out, none, 0, rfl, RowOwn.nil _ _ _⟩
   | true =>
    have HD := Lib.hid (show dsL (pV l) nCons = elsL l nCons elH from dsL_yes HOO.out.symm)
    go_wp2_with (first
     | (go_at_call 37; refine (has_doc (n := 1) HJ4.out).mono ?_; rintro e w5 ⟨ho5, he5⟩; rw [← HHS.out] at he5; obtain rfl := he5; have HO5 := Lib.hid (HO4.out.trans ho5); have HR5 := Lib.hid (HR4.out.only encD ho5 (fun _ _ _ => id)); clear ho5))
    go_ret2
    have hr := HR5.out
    rw [HD.out] at hr
    obtain ⟨A5, c5, rfl⟩ := hr.form
    exact HDO.out _ _ ⟨HO5.out, A5, c5, rfl, hr⟩
 | true =>
  go_wp2
  go_ret2
  exact HDO.out _ _ ⟨HO4.out, none, 0, rfl, RowOwn.nil _ _ _⟩
set_option maxRecDepth 100000 in
set_option maxHeartbeats 3200000 in
theorem takeErr_doc {A : Option Addr} {c : Nat} {l : Bytes} {w : World} (hI : Inp w A l) (hcap : l.length ≤ c) :
  Calls Tryz.prog 18 #[.slice A l.length c] w (ErrTake l w) := by
 have HI := Lib.hid hI
 have HC := Lib.hid hcap
 obtain ⟨pn, hpn⟩ : ∃ q, q = (parseM l).isNone := ⟨_, rfl⟩
 have HPN := Lib.hid hpn
 obtain ⟨hs, hhs⟩ : ∃ q, q = hasV (pV l) 1 := ⟨_, rfl⟩
 have HHS := Lib.hid hhs
 obtain ⟨oo, hoo⟩ : ∃ q, q = okK (pV l) nErr 3 := ⟨_, rfl⟩
 have HOO := Lib.hid hoo
 obtain ⟨bb, hbb⟩ : ∃ q, q = decide (2147483647 < numL l nErr) := ⟨_, rfl⟩
 have HBB := Lib.hid hbb
 have HDO := Lib.hid (show ∀ e w', (Only (fun _ => False) w w' ∧ e = .returned (.tuple #[.int .i64 (if (pn || !hs || !oo || bb) = true then 0 else (numL l nErr : Int)), .int .i64 (if (pn || !hs || !oo || bb) = true then 5 else 0)])) → ErrTake l w e w' from fun e w' h => by unfold ErrTake; rw [badE_eq]; unfold docBad; rw [← hpn, ← hhs, ← hoo, ← hbb]; exact h)
 obtain ⟨nv, hnv⟩ : ∃ n, n = numL l nErr := ⟨_, rfl⟩
 have HNV := Lib.hid (show ((getB (pV l) nErr).getD JV0).num = nv from hnv.symm)
 rw [← hnv] at HDO
 have qb : decide ((2147483647 : Int) < (nv : Int)) = bb := by
  rw [hbb, ← hnv]
  by_cases h : 2147483647 < nv
  ·have : (2147483647 : Int) < (nv : Int) := by omega
   simp [h, this]
  ·have : ¬ (2147483647 : Int) < (nv : Int) := by omega
   simp [h, this]
 have qn : decide (2147483647 < nv) = bb := by rw [hbb, ← hnv]
 have qe : (errP l != 0) = pn := by rw [errP_eq, hpn]
 clear hI hcap hpn hhs hoo hbb hnv
 go_enter Tryz.func18, Tryz.ntmps18
 go_upto_region 3 with (first
  | (go_at_call 32; refine (parse_doc HI.out HC.out).mono ?_; rintro e w2 ⟨ho2, cs2, rfl, hj2⟩; have HJ2 := Lib.hid hj2; obtain ⟨A2, c2, B2, d2, rfl⟩ := hj2.form; unfold cells5 txt; have HO2 := Lib.hid ho2; clear ho2 hj2)
  | (refine wpList_store_blk rfl 85 (.tmp 4) _ rfl rfl rfl rfl (Blk.new _ Z5 85) rfl info85s rfl ?_; intro w3 hb3 ho3; have HB3 := Lib.hid hb3; have HO3 := Lib.hid ((HO2.out.alloc _).then ho3 (fun i hi e => by have := HO2.out.size; omega)); have HJ3 := Lib.hid (HJ2.out.only (Y := fun b => w.heap.size ≤ b) (((Only.refl _ w2).alloc _).trans ho3) (fun b hb hx => ⟨by omega, hx⟩)); clear hb3 ho3)
  | (refine wpList_load_blk rfl 85 (.tmp 4) rfl rfl HB3.out agg85 info85s ?_)
  | (go_at_call 33; refine (number_doc (k := nErr) HJ3.out (vk l) (vl l)).mono ?_; rintro e w4 ⟨ho4, rfl⟩; have HO4 := Lib.hid (HO3.out.trans ho4); have HB4 := Lib.hid (HB3.out.only ho4 id); have HJ4 := Lib.hid (HJ3.out.keep ho4); clear ho4))
 rw [← HOO.out, HNV.out]
 generalize errP l = ez at qe ⊢
 obtain ⟨⟨k0, k1, k2, k3, k4⟩, f0, f1, f2, f3, f4⟩ := HB4.out.five
 cases pn with
 | false =>
  cases hs with
  | false =>
   go_wp2_with (first
    | (go_at_call 37; refine (has_doc (n := 1) HJ4.out).mono ?_; rintro e w5 ⟨ho5, he5⟩; rw [← HHS.out] at he5; obtain rfl := he5; have HO5 := Lib.hid (HO4.out.trans ho5);  clear ho5))
   go_ret2
   exact HDO.out _ _ ⟨HO5.out, rfl⟩
  | true =>
   cases oo with
   | false =>
    go_wp2_with (first
     | (go_at_call 37; refine (has_doc (n := 1) HJ4.out).mono ?_; rintro e w5 ⟨ho5, he5⟩; rw [← HHS.out] at he5; obtain rfl := he5; have HO5 := Lib.hid (HO4.out.trans ho5);  clear ho5))
    go_ret2
    exact HDO.out _ _ ⟨HO5.out, rfl⟩
   | true =>
    cases bb with
    | false =>
     have hnz : (nv : Int) ≤ 2147483647 := by have : ¬ 2147483647 < nv := (by simpa using qn); omega
     go_wp2_with (first
      | (go_at_call 37; refine (has_doc (n := 1) HJ4.out).mono ?_; rintro e w5 ⟨ho5, he5⟩; rw [← HHS.out] at he5; obtain rfl := he5; have HO5 := Lib.hid (HO4.out.trans ho5);  clear ho5))
     go_ret2
     exact HDO.out _ _ ⟨HO5.out, rfl⟩
    | true =>
     go_wp2_with (first
      | (go_at_call 37; refine (has_doc (n := 1) HJ4.out).mono ?_; rintro e w5 ⟨ho5, he5⟩; rw [← HHS.out] at he5; obtain rfl := he5; have HO5 := Lib.hid (HO4.out.trans ho5);  clear ho5))
     go_ret2
     exact HDO.out _ _ ⟨HO5.out, rfl⟩
 | true =>
  go_wp2
  go_ret2
  exact HDO.out _ _ ⟨HO4.out, rfl⟩
set_option maxRecDepth 100000 in
set_option maxHeartbeats 3200000 in
theorem takePrf_doc {A : Option Addr} {c : Nat} {l : Bytes} {w : World} (hI : Inp w A l) (hcap : l.length ≤ c) :
  Calls Tryz.prog 13 #[.slice A l.length c] w (PrfTake l w) := by
 have HI := Lib.hid hI
 have HC := Lib.hid hcap
 obtain ⟨pn, hpn⟩ : ∃ q, q = (parseM l).isNone := ⟨_, rfl⟩
 have HPN := Lib.hid hpn
 obtain ⟨hs, hhs⟩ : ∃ q, q = hasV (pV l) 2 := ⟨_, rfl⟩
 have HHS := Lib.hid hhs
 obtain ⟨oo, hoo⟩ : ∃ q, q = okK (pV l) nIdx 3 := ⟨_, rfl⟩
 have HOO := Lib.hid hoo
 obtain ⟨dd, hdd⟩ : ∃ q, q = dsOk (pV l) nPath := ⟨_, rfl⟩
 have HDD := Lib.hid hdd
 have HDO := Lib.hid (show ∀ e w', (Only (fun _ => False) w w' ∧ ∃ A c, e = .returned (.tuple #[.int .u64 (if (pn || !hs || !oo || !dd) = true then 0 else (numL l nIdx : Int)), .slice A (if (pn || !hs || !oo || !dd) = true then [] else elsL l nPath elH).length c, .int .i64 (if (pn || !hs || !oo || !dd) = true then 5 else 0)]) ∧
  RowOwn ED 32 24 w.heap.size w' (.slice A (if (pn || !hs || !oo || !dd) = true then [] else elsL l nPath elH).length c) (if (pn || !hs || !oo || !dd) = true then [] else elsL l nPath elH)) → PrfTake l w e w' from fun e w' h => by unfold PrfTake; rw [badP_eq]; unfold docBad; rw [← hpn, ← hhs, ← hoo, ← hdd]; exact h)
 obtain ⟨nv, hnv⟩ : ∃ n, n = numL l nIdx := ⟨_, rfl⟩
 have HNV := Lib.hid (show ((getB (pV l) nIdx).getD JV0).num = nv from hnv.symm)
 rw [← hnv] at HDO
 have qe : (errP l != 0) = pn := by rw [errP_eq, hpn]
 clear hI hcap hpn hhs hoo hdd hnv
 go_enter Tryz.func13, Tryz.ntmps13
 go_upto_region 4 with (first
  | (go_at_call 32; refine (parse_doc HI.out HC.out).mono ?_; rintro e w2 ⟨ho2, cs2, rfl, hj2⟩; have HJ2 := Lib.hid hj2; obtain ⟨A2, c2, B2, d2, rfl⟩ := hj2.form; unfold cells5 txt; have HO2 := Lib.hid ho2; clear ho2 hj2)
  | (refine wpList_store_blk rfl 85 (.tmp 5) _ rfl rfl rfl rfl (Blk.new _ Z5 85) rfl info85s rfl ?_; intro w3 hb3 ho3; have HB3 := Lib.hid hb3; have HO3 := Lib.hid ((HO2.out.alloc _).then ho3 (fun i hi e => by have := HO2.out.size; omega)); have HJ3 := Lib.hid (HJ2.out.only (Y := fun b => w.heap.size ≤ b) (((Only.refl _ w2).alloc _).trans ho3) (fun b hb hx => ⟨by omega, hx⟩)); clear hb3 ho3)
  | (refine wpList_load_blk rfl 85 (.tmp 5) rfl rfl HB3.out agg85 info85s ?_)
  | (refine wpList_load_blk rfl 85 (.tmp 5) rfl rfl HB4.out agg85 info85s ?_)
  | (go_at_call 33; refine (number_doc (k := nIdx) HJ3.out (vk l) (vl l)).mono ?_; rintro e w4 ⟨ho4, rfl⟩; have HO4 := Lib.hid (HO3.out.trans ho4); have HB4 := Lib.hid (HB3.out.only ho4 id); have HJ4 := Lib.hid (HJ3.out.keep ho4); clear ho4)
  | (go_at_call 42; refine (digests_doc (k := nPath) HJ4.out (vk l) (vl l) (gl_ l nPath) (ge_ l nPath)).mono ?_; rintro e w5 ⟨ho5, rv, rfl, hr5⟩; have HO5 := Lib.hid (HO4.out.trans ho5); have HB5 := Lib.hid (HB4.out.only ho5 id); have HJ5 := Lib.hid (HJ4.out.keep ho5); have HR5 := Lib.hid (hr5.mono encD HO4.out.size); clear ho5 hr5))
 rw [← HOO.out, ← HDD.out, HNV.out]
 generalize errP l = ez at qe ⊢
 obtain ⟨⟨k0, k1, k2, k3, k4⟩, f0, f1, f2, f3, f4⟩ := HB5.out.five
 cases pn with
 | false =>
  cases hs with
  | false =>
   go_wp2_with (first
    | (go_at_call 37; refine (has_doc (n := 2) HJ5.out).mono ?_; rintro e w6 ⟨ho6, he6⟩; rw [← HHS.out] at he6; obtain rfl := he6; have HO6 := Lib.hid (HO5.out.trans ho6);  clear ho6))
   go_ret3
   exact HDO.out _ _ ⟨HO6.out, none, 0, rfl, RowOwn.nil _ _ _⟩
  | true =>
   cases oo with
   | false =>
    go_wp2_with (first
     | (go_at_call 37; refine (has_doc (n := 2) HJ5.out).mono ?_; rintro e w6 ⟨ho6, he6⟩; rw [← HHS.out] at he6; obtain rfl := he6; have HO6 := Lib.hid (HO5.out.trans ho6);  clear ho6))
    go_ret3
    exact HDO.out _ _ ⟨HO6.out, none, 0, rfl, RowOwn.nil _ _ _⟩
   | true =>
    cases dd with
    | false =>
     go_wp2_with (first
      | (go_at_call 37; refine (has_doc (n := 2) HJ5.out).mono ?_; rintro e w6 ⟨ho6, he6⟩; rw [← HHS.out] at he6; obtain rfl := he6; have HO6 := Lib.hid (HO5.out.trans ho6);  clear ho6))
     go_ret3
     exact HDO.out _ _ ⟨HO6.out, none, 0, rfl, RowOwn.nil _ _ _⟩
    | true =>
     have HD := Lib.hid (show dsL (pV l) nPath = elsL l nPath elH from dsL_yes HDD.out.symm)
     go_wp2_with (first
      | (go_at_call 37; refine (has_doc (n := 2) HJ5.out).mono ?_; rintro e w6 ⟨ho6, he6⟩; rw [← HHS.out] at he6; obtain rfl := he6; have HO6 := Lib.hid (HO5.out.trans ho6); have HR6 := Lib.hid (HR5.out.only encD ho6 (fun _ _ _ => id)); clear ho6))
     have hr := HR6.out
     rw [HD.out] at hr
     obtain ⟨A5, c5, rfl⟩ := hr.form
     go_ret3
     exact HDO.out _ _ ⟨HO6.out, A5, c5, rfl, hr⟩
 | true =>
  go_wp2
  go_ret3
  exact HDO.out _ _ ⟨HO5.out, none, 0, rfl, RowOwn.nil _ _ _⟩
structure TM (zc : List Value) (T : TypeId) (v : JV) (w : World) (t4 : Nat) (cs : List Value) (W : World) : Prop where
 only : Only (fun _ => False) w W
 res : Blk W w.heap.size zc T
 val : Blk W t4 cs 85
 jis : JIs (fun _ => True) W v cs
theorem TM.keep {zc : List Value} {T : TypeId} {v : JV} {w : World} {t4 : Nat} {cs : List Value} {W W' : World} (h : TM zc T v w t4 cs W) (ho : Only (fun _ => False) W W') : TM zc T v w t4 cs W' :=
 ⟨h.only.trans ho, h.res.only ho id, h.val.only ho id, h.jis.keep ho⟩
theorem TM.start {zc : List Value} {T : TypeId} {v : JV} {w w1 w2 w3 : World} {cs : List Value} {X : Nat → Prop} (hr : Blk w1 w.heap.size zc T) (ho1 : Only (fun _ => False) w w1) (ho2 : Only (fun _ => False) w1 w2) (hj : JIs X w2 v cs)
  (hb : Blk w3 w2.heap.size cs 85) (ho3 : Only (· = w2.heap.size) (w2.alloc (.cells Z5.toArray 85)) w3) : TM zc T v w w2.heap.size cs w3 := by
 have o3 : Only (· = w2.heap.size) w2 w3 := ((Only.refl _ w2).alloc _).trans ho3
 have s := ho2.size
 have l := hr.lt
 have s1 := ho1.size
 exact ⟨(ho1.trans ho2).then o3 (fun i hi e => by omega), (hr.only ho2 id).only o3 (by omega), hb, hj.only o3 (fun b hb hx => ⟨by omega, trivial⟩)⟩
theorem digR_mem {v : JV} {k : Bytes} (h : digOk (memB v k) (okM v k) = true) : digR (memB v k) (okM v k) = digB ((bytesB v k).getD []) := by
 have h2 := h
 unfold digR
 rw [if_pos h]
 unfold digOk at h2
 simp only [Bool.and_eq_true, decide_eq_true_eq] at h2
 rw [memB_eq h2.1] at h2 ⊢
 unfold digB
 rw [if_pos h2.2]
theorem built35z : Tryz.prog.built 35 [] = some zc35.toArray := by kernel_rfl
theorem built28z : Tryz.prog.built 28 [] = some zc28.toArray := by kernel_rfl
set_option maxRecDepth 100000 in
set_option maxHeartbeats 6400000 in
theorem takeHd_doc {A : Option Addr} {c : Nat} {l : Bytes} {w : World} (hI : Inp w A l) (hcap : l.length ≤ c) :
  Calls Tryz.prog 8 #[.slice A l.length c] w (HdTake l w) := by
 have HI := Lib.hid hI
 have HC := Lib.hid hcap
 obtain ⟨pn, hpn⟩ : ∃ q, q = (parseM l).isNone := ⟨_, rfl⟩
 have HPN := Lib.hid hpn
 obtain ⟨hs, hhs⟩ : ∃ q, q = hasV (pV l) 4 := ⟨_, rfl⟩
 have HHS := Lib.hid hhs
 obtain ⟨b1, hb1⟩ : ∃ q, q = okK (pV l) nSize 3 := ⟨_, rfl⟩
 have HB1 := Lib.hid hb1
 obtain ⟨b2, hb2⟩ : ∃ q, q = okK (pV l) nTime 3 := ⟨_, rfl⟩
 have HB2 := Lib.hid hb2
 obtain ⟨b3, hb3⟩ : ∃ q, q = digOk (memB (pV l) nRoot) (okM (pV l) nRoot) := ⟨_, rfl⟩
 have HB3 := Lib.hid hb3
 obtain ⟨b4, hb4⟩ : ∃ q, q = okM (pV l) nHsig := ⟨_, rfl⟩
 have HB4 := Lib.hid hb4
 obtain ⟨b5, hb5⟩ : ∃ q, q = markB (memB (pV l) nHsig) := ⟨_, rfl⟩
 have HB5 := Lib.hid hb5
 have HDO := Lib.hid (show ∀ e w', (Only (fun _ => False) w w' ∧ e = .returned (.tuple #[.agg (if (pn || !hs || !b1 || !b2 || !b3 || !b4 || !b5) = true then zc35 else hdL l).toArray, .int .i64 (if (pn || !hs || !b1 || !b2 || !b3 || !b4 || !b5) = true then 5 else 0)])) → HdTake l w e w' from fun e w' h => by unfold HdTake; rw [badHd_eq]; unfold docHd docBad; rw [← hpn, ← hhs, ← hb1, ← hb2, ← hb3, ← hb4, ← hb5]; exact h)
 have qe : (errP l != 0) = pn := by rw [errP_eq, hpn]
 clear hI hcap hpn hhs hb1 hb2 hb3 hb4 hb5
 go_enter Tryz.func8, Tryz.ntmps8
 go_upto_region 2 with (first
  | (refine wpList_alloc_blk rfl 35 2 rfl rfl zero35 ?_; intro w1 hb1 ho1 hs1; have HR1 := Lib.hid hb1; have HO1 := Lib.hid ho1; clear hb1 ho1 hs1)
  | (go_at_call 32; refine (parse_doc (HI.out.keep HO1.out) HC.out).mono ?_; rintro e w2 ⟨ho2, cs2, rfl, hj2⟩; have HJ2 := Lib.hid hj2; obtain ⟨A2, c2, B2, d2, rfl⟩ := hj2.form; unfold cells5 txt; have HO2 := Lib.hid ho2; clear ho2 hj2)
  | (refine wpList_store_blk rfl 85 (.tmp 4) _ rfl rfl rfl rfl (Blk.new _ Z5 85) rfl info85s rfl ?_; intro w3 hb3 ho3; have HM3 := Lib.hid (TM.start HR1.out HO1.out HO2.out HJ2.out hb3 ho3); clear hb3 ho3))
 obtain ⟨t4, ht4⟩ : ∃ t, t = w2.heap.size := ⟨_, rfl⟩
 rw [← ht4] at HM3 ⊢
 clear ht4
 go_upto_region 3 with (first
  | (refine wpList_load_blk rfl 85 (.tmp 4) rfl rfl HM3.out.val agg85 info85s ?_)
  | (go_at_call 33; refine (number_doc (k := nSize) HM3.out.jis (vk l) (vl l)).mono ?_; rintro e w4 ⟨ho4, rfl⟩; have HM4 := Lib.hid (HM3.out.keep ho4);  clear ho4))
 go_upto_region 4 with (first
  | (refine wpList_load_blk rfl 85 (.tmp 4) rfl rfl HM4.out.val agg85 info85s ?_)
  | (go_at_call 33; refine (number_doc (k := nTime) HM4.out.jis (vk l) (vl l)).mono ?_; rintro e w5 ⟨ho5, rfl⟩; have HM5 := Lib.hid (HM4.out.keep ho5);  clear ho5))
 go_upto_region 5 with (first
  | (refine wpList_load_blk rfl 85 (.tmp 4) rfl rfl HM5.out.val agg85 info85s ?_)
  | (go_at_call 34; refine (member_doc (k := nRoot) HM5.out.jis (vk l) (vl l) (gs_ l nRoot)).mono ?_; rintro e w6 ⟨ho6, A6, c6, hf6, rfl⟩; have HM6 := Lib.hid (HM5.out.keep ho6);  have HF6 := Lib.hid hf6; clear ho6 hf6))
 go_upto_region 6 with (first
  | (go_at_call 35; refine (digest_doc HF6.out.1).mono ?_; rintro e w7 ⟨ho7, rfl⟩; have HM7 := Lib.hid (HM6.out.keep ho7);  clear ho7)
  | (refine wpList_alloc_blk rfl 24 12 rfl rfl zero24 ?_; intro w8 hb8 ho8 hs8; have HB8 := Lib.hid hb8; have HO8 := Lib.hid ho8; clear hb8 ho8 hs8)
  | (refine wpList_store_blk (cs := u8s (digR (memB (pV l) nRoot) (okM (pV l) nRoot))) rfl 24 (.tmp 12) (.tmp 41) rfl rfl rfl rfl HB8.out (u8s_same (l := zero8 32) (by rw [zero8_length, digR_len])) (info24s (digR_len _ _)) (u8s_one _) ?_; intro w9 hb9 ho9; have hoq := HO8.out.then ho9 (G := fun _ => False) (fun i hi e => by omega); have HM9 := Lib.hid (HM7.out.keep hoq);  have HDG_9 := Lib.hid hb9; clear hb9 ho9 hoq))
 go_upto_region 7 with (first
  | (refine wpList_load_blk rfl 85 (.tmp 4) rfl rfl HM9.out.val agg85 info85s ?_)
  | (go_at_call 34; refine (member_doc (k := nHsig) HM9.out.jis (vk l) (vl l) (gs_ l nHsig)).mono ?_; rintro e w10 ⟨ho10, A10, c10, hf10, rfl⟩; have HM10 := Lib.hid (HM9.out.keep ho10); have HDG_10 := Lib.hid (HDG_9.out.only ho10 id); have HF10 := Lib.hid hf10; clear ho10 hf10))
 go_upto_region 8 with (first
  | (go_at_call 36; refine (unmark_doc HF10.out.1).mono ?_; rintro e w11 ⟨ho11, rfl⟩; have HM11 := Lib.hid (HM10.out.keep ho11); have HDG_11 := Lib.hid (HDG_10.out.only ho11 id); clear ho11)
  | (refine wpList_alloc_blk rfl 26 15 rfl rfl zero26 ?_; intro w12 hb12 ho12 hs12; have HB12 := Lib.hid hb12; have HO12 := Lib.hid ho12; clear hb12 ho12 hs12)
  | (refine wpList_store_blk (cs := u8s (sigB (memB (pV l) nHsig))) rfl 26 (.tmp 15) (.tmp 51) rfl rfl rfl rfl HB12.out (u8s_same (l := zero8 64) (by rw [zero8_length, sigB_length])) (info26s (sigB_length _)) (u8s_one _) ?_; intro w13 hb13 ho13; have hoq := HO12.out.then ho13 (G := fun _ => False) (fun i hi e => by omega); have HM13 := Lib.hid (HM11.out.keep hoq); have HDG_13 := Lib.hid (HDG_11.out.only hoq id); have HSG_13 := Lib.hid hb13; clear hb13 ho13 hoq))
 rw [← HB1.out, ← HB2.out, ← HB3.out, ← HB4.out, ← HB5.out]
 generalize errP l = ez at qe ⊢
 generalize hz5 : (if b5 = true then (0 : Int) else 5) = z5
 have q5 : (z5 != 0) = !b5 := by rw [← hz5]; cases b5 <;> rfl
 clear hz5
 obtain ⟨⟨k0, k1, k2, k3, k4⟩, f0, f1, f2, f3, f4⟩ := HM13.out.val.five
 cases pn with
 | false =>
  cases hs with
  | false =>
   go_wp2_with (first
    | (go_at_call 37; refine (has_doc (n := 4) HM13.out.jis).mono ?_; rintro e w14 ⟨ho14, he14⟩; rw [← HHS.out] at he14; obtain rfl := he14; have HM14 := Lib.hid (HM13.out.keep ho14); have HDG_14 := Lib.hid (HDG_13.out.only ho14 id); have HSG_14 := Lib.hid (HSG_13.out.only ho14 id); clear ho14)
    | (refine wpList_build0 rfl 35 rfl built35z ?_)
    | (refine wpList_store_blk (cs := zc35) rfl 35 (.tmp 2) (.tmp 80) rfl rfl rfl rfl HM14.out.res rfl (info35s zc35_len) zc35_one ?_; intro wz hbz hoz; have HBZ := Lib.hid hbz; have HOZ := Lib.hid (HM14.out.only.then hoz (fun i hi e => by omega)); clear hbz hoz))
   refine bodyPost_ret (ret_cell_tmp rfl rfl HBZ.out agg35 (info35s zc35_len)) rfl ?_
   exact HDO.out _ _ ⟨HOZ.out, rfl⟩
  | true =>
   cases b1 with
   | false =>
    go_wp2_with (first
     | (go_at_call 37; refine (has_doc (n := 4) HM13.out.jis).mono ?_; rintro e w14 ⟨ho14, he14⟩; rw [← HHS.out] at he14; obtain rfl := he14; have HM14 := Lib.hid (HM13.out.keep ho14); have HDG_14 := Lib.hid (HDG_13.out.only ho14 id); have HSG_14 := Lib.hid (HSG_13.out.only ho14 id); clear ho14)
     | (refine wpList_build0 rfl 35 rfl built35z ?_)
     | (refine wpList_store_blk (cs := zc35) rfl 35 (.tmp 2) (.tmp 80) rfl rfl rfl rfl HM14.out.res rfl (info35s zc35_len) zc35_one ?_; intro wz hbz hoz; have HBZ := Lib.hid hbz; have HOZ := Lib.hid (HM14.out.only.then hoz (fun i hi e => by omega)); clear hbz hoz))
    refine bodyPost_ret (ret_cell_tmp rfl rfl HBZ.out agg35 (info35s zc35_len)) rfl ?_
    exact HDO.out _ _ ⟨HOZ.out, rfl⟩
   | true =>
    cases b2 with
    | false =>
     go_wp2_with (first
      | (go_at_call 37; refine (has_doc (n := 4) HM13.out.jis).mono ?_; rintro e w14 ⟨ho14, he14⟩; rw [← HHS.out] at he14; obtain rfl := he14; have HM14 := Lib.hid (HM13.out.keep ho14); have HDG_14 := Lib.hid (HDG_13.out.only ho14 id); have HSG_14 := Lib.hid (HSG_13.out.only ho14 id); clear ho14)
      | (refine wpList_build0 rfl 35 rfl built35z ?_)
      | (refine wpList_store_blk (cs := zc35) rfl 35 (.tmp 2) (.tmp 80) rfl rfl rfl rfl HM14.out.res rfl (info35s zc35_len) zc35_one ?_; intro wz hbz hoz; have HBZ := Lib.hid hbz; have HOZ := Lib.hid (HM14.out.only.then hoz (fun i hi e => by omega)); clear hbz hoz))
     refine bodyPost_ret (ret_cell_tmp rfl rfl HBZ.out agg35 (info35s zc35_len)) rfl ?_
     exact HDO.out _ _ ⟨HOZ.out, rfl⟩
    | true =>
     cases b3 with
     | false =>
      go_wp2_with (first
       | (go_at_call 37; refine (has_doc (n := 4) HM13.out.jis).mono ?_; rintro e w14 ⟨ho14, he14⟩; rw [← HHS.out] at he14; obtain rfl := he14; have HM14 := Lib.hid (HM13.out.keep ho14); have HDG_14 := Lib.hid (HDG_13.out.only ho14 id); have HSG_14 := Lib.hid (HSG_13.out.only ho14 id); clear ho14)
       | (refine wpList_build0 rfl 35 rfl built35z ?_)
       | (refine wpList_store_blk (cs := zc35) rfl 35 (.tmp 2) (.tmp 80) rfl rfl rfl rfl HM14.out.res rfl (info35s zc35_len) zc35_one ?_; intro wz hbz hoz; have HBZ := Lib.hid hbz; have HOZ := Lib.hid (HM14.out.only.then hoz (fun i hi e => by omega)); clear hbz hoz))
      refine bodyPost_ret (ret_cell_tmp rfl rfl HBZ.out agg35 (info35s zc35_len)) rfl ?_
      exact HDO.out _ _ ⟨HOZ.out, rfl⟩
     | true =>
      cases b4 with
      | false =>
       go_wp2_with (first
        | (go_at_call 37; refine (has_doc (n := 4) HM13.out.jis).mono ?_; rintro e w14 ⟨ho14, he14⟩; rw [← HHS.out] at he14; obtain rfl := he14; have HM14 := Lib.hid (HM13.out.keep ho14); have HDG_14 := Lib.hid (HDG_13.out.only ho14 id); have HSG_14 := Lib.hid (HSG_13.out.only ho14 id); clear ho14)
        | (refine wpList_build0 rfl 35 rfl built35z ?_)
        | (refine wpList_store_blk (cs := zc35) rfl 35 (.tmp 2) (.tmp 80) rfl rfl rfl rfl HM14.out.res rfl (info35s zc35_len) zc35_one ?_; intro wz hbz hoz; have HBZ := Lib.hid hbz; have HOZ := Lib.hid (HM14.out.only.then hoz (fun i hi e => by omega)); clear hbz hoz))
       refine bodyPost_ret (ret_cell_tmp rfl rfl HBZ.out agg35 (info35s zc35_len)) rfl ?_
       exact HDO.out _ _ ⟨HOZ.out, rfl⟩
      | true =>
       cases b5 with
       | false =>
        go_wp2_with (first
         | (go_at_call 37; refine (has_doc (n := 4) HM13.out.jis).mono ?_; rintro e w14 ⟨ho14, he14⟩; rw [← HHS.out] at he14; obtain rfl := he14; have HM14 := Lib.hid (HM13.out.keep ho14); have HDG_14 := Lib.hid (HDG_13.out.only ho14 id); have HSG_14 := Lib.hid (HSG_13.out.only ho14 id); clear ho14)
         | (refine wpList_build0 rfl 35 rfl built35z ?_)
         | (refine wpList_store_blk (cs := zc35) rfl 35 (.tmp 2) (.tmp 80) rfl rfl rfl rfl HM14.out.res rfl (info35s zc35_len) zc35_one ?_; intro wz hbz hoz; have HBZ := Lib.hid hbz; have HOZ := Lib.hid (HM14.out.only.then hoz (fun i hi e => by omega)); clear hbz hoz))
        refine bodyPost_ret (ret_cell_tmp rfl rfl HBZ.out agg35 (info35s zc35_len)) rfl ?_
        exact HDO.out _ _ ⟨HOZ.out, rfl⟩
       | true =>
        rw [show digR (memB (pV l) nRoot) (okM (pV l) nRoot) = digB (bsL l nRoot) from digR_mem HB3.out.symm] at HDG_13
        rw [show memB (pV l) nHsig = bsL l nHsig from memB_eq HB4.out.symm] at HSG_13
        go_wp2_with (first
         | (go_at_call 37; refine (has_doc (n := 4) HM13.out.jis).mono ?_; rintro e w14 ⟨ho14, he14⟩; rw [← HHS.out] at he14; obtain rfl := he14; have HM14 := Lib.hid (HM13.out.keep ho14); have HDG_14 := Lib.hid (HDG_13.out.only ho14 id); have HSG_14 := Lib.hid (HSG_13.out.only ho14 id); clear ho14)
         | (refine wpList_load_blk (cs := u8s (digB (bsL l nRoot))) rfl 24 (.tmp 12) rfl rfl HDG_14.out agg24 (info24s (digB_length _)) ?_)
         | (refine wpList_load_blk (cs := u8s (sigB (bsL l nHsig))) rfl 26 (.tmp 15) rfl rfl HSG_14.out agg26 (info26s (sigB_length _)) ?_)
         | (refine wpList_buildP rfl 35 _ rfl (hdL_built l) (by simp [Act.eval, Act.put, numL, bsL]) ?_)
         | (refine wpList_store_blk (cs := hdL l) rfl 35 (.tmp 2) (.tmp 85) rfl rfl rfl rfl HM14.out.res (zc35_len.trans (hdL_len l).symm) (info35s (hdL_len l)) (hdL_one l) ?_; intro wz hbz hoz; have HBZ := Lib.hid hbz; have HOZ := Lib.hid (HM14.out.only.then hoz (fun i hi e => by omega)); clear hbz hoz))
        refine bodyPost_ret (ret_cell_tmp rfl rfl HBZ.out agg35 (info35s (hdL_len l))) rfl ?_
        exact HDO.out _ _ ⟨HOZ.out, rfl⟩
 | true =>
  go_wp2_with (first
   | (refine wpList_build0 rfl 35 rfl built35z ?_)
   | (refine wpList_store_blk (cs := zc35) rfl 35 (.tmp 2) (.tmp 80) rfl rfl rfl rfl HM13.out.res rfl (info35s zc35_len) zc35_one ?_; intro wz hbz hoz; have HBZ := Lib.hid hbz; have HOZ := Lib.hid (HM13.out.only.then hoz (fun i hi e => by omega)); clear hbz hoz))
  refine bodyPost_ret (ret_cell_tmp rfl rfl HBZ.out agg35 (info35s zc35_len)) rfl ?_
  exact HDO.out _ _ ⟨HOZ.out, rfl⟩
set_option maxRecDepth 100000 in
set_option maxHeartbeats 6400000 in
theorem takeSct_doc {A : Option Addr} {c : Nat} {l : Bytes} {w : World} (hI : Inp w A l) (hcap : l.length ≤ c) :
  Calls Tryz.prog 6 #[.slice A l.length c] w (SctTake l w) := by
 have HI := Lib.hid hI
 have HC := Lib.hid hcap
 obtain ⟨pn, hpn⟩ : ∃ q, q = (parseM l).isNone := ⟨_, rfl⟩
 have HPN := Lib.hid hpn
 obtain ⟨hs, hhs⟩ : ∃ q, q = hasV (pV l) 5 := ⟨_, rfl⟩
 have HHS := Lib.hid hhs
 obtain ⟨b1, hb1⟩ : ∃ q, q = okK (pV l) nVer 3 := ⟨_, rfl⟩
 have HB1 := Lib.hid hb1
 obtain ⟨b3, hb3⟩ : ∃ q, q = digOk (memB (pV l) nId) (okM (pV l) nId) := ⟨_, rfl⟩
 have HB3 := Lib.hid hb3
 obtain ⟨b2, hb2⟩ : ∃ q, q = okK (pV l) nTime 3 := ⟨_, rfl⟩
 have HB2 := Lib.hid hb2
 obtain ⟨b6, hb6⟩ : ∃ q, q = okM (pV l) nExt := ⟨_, rfl⟩
 have HB6 := Lib.hid hb6
 obtain ⟨b4, hb4⟩ : ∃ q, q = okM (pV l) nSig := ⟨_, rfl⟩
 have HB4 := Lib.hid hb4
 obtain ⟨b7, hb7⟩ : ∃ q, q = decide (numL l nVer ≠ 0) := ⟨_, rfl⟩
 have HB7 := Lib.hid hb7
 obtain ⟨b8, hb8⟩ : ∃ q, q = decide (0 < (memB (pV l) nExt).length) := ⟨_, rfl⟩
 have HB8 := Lib.hid hb8
 obtain ⟨b5, hb5⟩ : ∃ q, q = markB (memB (pV l) nSig) := ⟨_, rfl⟩
 have HB5 := Lib.hid hb5
 have HDO := Lib.hid (show ∀ e w', (Only (fun _ => False) w w' ∧ e = .returned (.tuple #[.agg (if (pn || !hs || !b1 || !b3 || !b2 || !b6 || !b4 || b7 || b8 || !b5) = true then zc28 else sctL l).toArray, .int .i64 (if (pn || !hs || !b1 || !b3 || !b2 || !b6 || !b4 || b7 || b8 || !b5) = true then 5 else 0)])) → SctTake l w e w' from fun e w' h => by unfold SctTake; rw [badSct_eq]; unfold docSct docBad; rw [← hpn, ← hhs, ← hb1, ← hb2, ← hb3, ← hb4, ← hb5, ← hb6, ← hb7, ← hb8]; exact h)
 obtain ⟨nv, hnv⟩ : ∃ n, n = numL l nVer := ⟨_, rfl⟩
 have HNV := Lib.hid (show ((getB (pV l) nVer).getD JV0).num = nv from hnv.symm)
 obtain ⟨nx, hnx⟩ : ∃ n, n = (memB (pV l) nExt).length := ⟨_, rfl⟩
 have HNX := Lib.hid hnx.symm
 have q7 : ((nv : Int) != 0) = b7 := by
  rw [hb7, ← hnv]
  by_cases h : nv = 0
  ·subst h; rfl
  ·have : ¬ (nv : Int) = 0 := by omega
   simp [h, this]
 have q8 : decide ((0 : Int) < (nx : Int)) = b8 := by
  rw [hb8, ← hnx]
  by_cases h : 0 < nx
  ·have : (0 : Int) < (nx : Int) := by omega
   simp [h, this]
  ·have : ¬ (0 : Int) < (nx : Int) := by omega
   simp [h, this]
 have q8n : decide (0 < nx) = b8 := by rw [hb8, ← hnx]
 clear hnv hnx
 have qe : (errP l != 0) = pn := by rw [errP_eq, hpn]
 clear hI hcap hpn hhs hb1 hb3 hb2 hb6 hb4 hb7 hb8 hb5
 go_enter Tryz.func6, Tryz.ntmps6
 go_upto_region 2 with (first
  | (refine wpList_alloc_blk rfl 28 2 rfl rfl zero28 ?_; intro w1 hb1 ho1 hs1; have HR1 := Lib.hid hb1; have HO1 := Lib.hid ho1; clear hb1 ho1 hs1)
  | (go_at_call 32; refine (parse_doc (HI.out.keep HO1.out) HC.out).mono ?_; rintro e w2 ⟨ho2, cs2, rfl, hj2⟩; have HJ2 := Lib.hid hj2; obtain ⟨A2, c2, B2, d2, rfl⟩ := hj2.form; unfold cells5 txt; have HO2 := Lib.hid ho2; clear ho2 hj2)
  | (refine wpList_store_blk rfl 85 (.tmp 4) _ rfl rfl rfl rfl (Blk.new _ Z5 85) rfl info85s rfl ?_; intro w3 hb3 ho3; have HM3 := Lib.hid (TM.start HR1.out HO1.out HO2.out HJ2.out hb3 ho3); clear hb3 ho3))
 obtain ⟨t4, ht4⟩ : ∃ t, t = w2.heap.size := ⟨_, rfl⟩
 rw [← ht4] at HM3 ⊢
 clear ht4
 go_upto_region 3 with (first
  | (refine wpList_load_blk rfl 85 (.tmp 4) rfl rfl HM3.out.val agg85 info85s ?_)
  | (go_at_call 33; refine (number_doc (k := nVer) HM3.out.jis (vk l) (vl l)).mono ?_; rintro e w4 ⟨ho4, rfl⟩; have HM4 := Lib.hid (HM3.out.keep ho4);  clear ho4))
 go_upto_region 4 with (first
  | (refine wpList_load_blk rfl 85 (.tmp 4) rfl rfl HM4.out.val agg85 info85s ?_)
  | (go_at_call 34; refine (member_doc (k := nId) HM4.out.jis (vk l) (vl l) (gs_ l nId)).mono ?_; rintro e w5 ⟨ho5, A5, c5, hf5, rfl⟩; have HM5 := Lib.hid (HM4.out.keep ho5);  have HF5 := Lib.hid hf5; clear ho5 hf5))
 go_upto_region 5 with (first
  | (go_at_call 35; refine (digest_doc HF5.out.1).mono ?_; rintro e w6 ⟨ho6, rfl⟩; have HM6 := Lib.hid (HM5.out.keep ho6);  clear ho6)
  | (refine wpList_alloc_blk rfl 24 10 rfl rfl zero24 ?_; intro w7 hb7 ho7 hs7; have HB7 := Lib.hid hb7; have HO7 := Lib.hid ho7; clear hb7 ho7 hs7)
  | (refine wpList_store_blk (cs := u8s (digR (memB (pV l) nId) (okM (pV l) nId))) rfl 24 (.tmp 10) (.tmp 38) rfl rfl rfl rfl HB7.out (u8s_same (l := zero8 32) (by rw [zero8_length, digR_len])) (info24s (digR_len _ _)) (u8s_one _) ?_; intro w8 hb8 ho8; have hoq := HO7.out.then ho8 (G := fun _ => False) (fun i hi e => by omega); have HM8 := Lib.hid (HM6.out.keep hoq);  have HDG_8 := Lib.hid hb8; clear hb8 ho8 hoq))
 go_upto_region 6 with (first
  | (refine wpList_load_blk rfl 85 (.tmp 4) rfl rfl HM8.out.val agg85 info85s ?_)
  | (go_at_call 33; refine (number_doc (k := nTime) HM8.out.jis (vk l) (vl l)).mono ?_; rintro e w9 ⟨ho9, rfl⟩; have HM9 := Lib.hid (HM8.out.keep ho9); have HDG_9 := Lib.hid (HDG_8.out.only ho9 id); clear ho9))
 go_upto_region 7 with (first
  | (refine wpList_load_blk rfl 85 (.tmp 4) rfl rfl HM9.out.val agg85 info85s ?_)
  | (go_at_call 34; refine (member_doc (k := nExt) HM9.out.jis (vk l) (vl l) (gs_ l nExt)).mono ?_; rintro e w10 ⟨ho10, A10, c10, hf10, rfl⟩; have HM10 := Lib.hid (HM9.out.keep ho10); have HDG_10 := Lib.hid (HDG_9.out.only ho10 id); have HF10 := Lib.hid hf10; clear ho10 hf10))
 go_upto_region 8 with (first
  | (refine wpList_load_blk rfl 85 (.tmp 4) rfl rfl HM10.out.val agg85 info85s ?_)
  | (go_at_call 34; refine (member_doc (k := nSig) HM10.out.jis (vk l) (vl l) (gs_ l nSig)).mono ?_; rintro e w11 ⟨ho11, A11, c11, hf11, rfl⟩; have HM11 := Lib.hid (HM10.out.keep ho11); have HDG_11 := Lib.hid (HDG_10.out.only ho11 id); have HF11 := Lib.hid hf11; clear ho11 hf11))
 go_upto_region 9 with (first
  | (go_at_call 36; refine (unmark_doc HF11.out.1).mono ?_; rintro e w12 ⟨ho12, rfl⟩; have HM12 := Lib.hid (HM11.out.keep ho12); have HDG_12 := Lib.hid (HDG_11.out.only ho12 id); clear ho12)
  | (refine wpList_alloc_blk rfl 26 17 rfl rfl zero26 ?_; intro w13 hb13 ho13 hs13; have HB13 := Lib.hid hb13; have HO13 := Lib.hid ho13; clear hb13 ho13 hs13)
  | (refine wpList_store_blk (cs := u8s (sigB (memB (pV l) nSig))) rfl 26 (.tmp 17) (.tmp 58) rfl rfl rfl rfl HB13.out (u8s_same (l := zero8 64) (by rw [zero8_length, sigB_length])) (info26s (sigB_length _)) (u8s_one _) ?_; intro w14 hb14 ho14; have hoq := HO13.out.then ho14 (G := fun _ => False) (fun i hi e => by omega); have HM14 := Lib.hid (HM12.out.keep hoq); have HDG_14 := Lib.hid (HDG_12.out.only hoq id); have HSG_14 := Lib.hid hb14; clear hb14 ho14 hoq))
 rw [← HB1.out, ← HB2.out, ← HB3.out, ← HB4.out, ← HB5.out, ← HB6.out]
 generalize errP l = ez at qe ⊢
 generalize hz5 : (if b5 = true then (0 : Int) else 5) = z5
 have q5 : (z5 != 0) = !b5 := by rw [← hz5]; cases b5 <;> rfl
 clear hz5
 rw [HNV.out, HNX.out]
 obtain ⟨⟨k0, k1, k2, k3, k4⟩, f0, f1, f2, f3, f4⟩ := HM14.out.val.five
 cases pn with
 | false =>
  cases hs with
  | false =>
   go_wp2_with (first
    | (go_at_call 37; refine (has_doc (n := 5) HM14.out.jis).mono ?_; rintro e w15 ⟨ho15, he15⟩; rw [← HHS.out] at he15; obtain rfl := he15; have HM15 := Lib.hid (HM14.out.keep ho15); have HDG_15 := Lib.hid (HDG_14.out.only ho15 id); have HSG_15 := Lib.hid (HSG_14.out.only ho15 id); clear ho15)
    | (refine wpList_build0 rfl 28 rfl built28z ?_)
    | (refine wpList_store_blk (cs := zc28) rfl 28 (.tmp 2) (.tmp 100) rfl rfl rfl rfl HM15.out.res rfl (info28s zc28_len) zc28_one ?_; intro wz hbz hoz; have HBZ := Lib.hid hbz; have HOZ := Lib.hid (HM15.out.only.then hoz (fun i hi e => by omega)); clear hbz hoz))
   refine bodyPost_ret (ret_cell_tmp rfl rfl HBZ.out agg28 (info28s zc28_len)) rfl ?_
   exact HDO.out _ _ ⟨HOZ.out, rfl⟩
  | true =>
   cases b1 with
   | false =>
    go_wp2_with (first
     | (go_at_call 37; refine (has_doc (n := 5) HM14.out.jis).mono ?_; rintro e w15 ⟨ho15, he15⟩; rw [← HHS.out] at he15; obtain rfl := he15; have HM15 := Lib.hid (HM14.out.keep ho15); have HDG_15 := Lib.hid (HDG_14.out.only ho15 id); have HSG_15 := Lib.hid (HSG_14.out.only ho15 id); clear ho15)
     | (refine wpList_build0 rfl 28 rfl built28z ?_)
     | (refine wpList_store_blk (cs := zc28) rfl 28 (.tmp 2) (.tmp 100) rfl rfl rfl rfl HM15.out.res rfl (info28s zc28_len) zc28_one ?_; intro wz hbz hoz; have HBZ := Lib.hid hbz; have HOZ := Lib.hid (HM15.out.only.then hoz (fun i hi e => by omega)); clear hbz hoz))
    refine bodyPost_ret (ret_cell_tmp rfl rfl HBZ.out agg28 (info28s zc28_len)) rfl ?_
    exact HDO.out _ _ ⟨HOZ.out, rfl⟩
   | true =>
    cases b3 with
    | false =>
     go_wp2_with (first
      | (go_at_call 37; refine (has_doc (n := 5) HM14.out.jis).mono ?_; rintro e w15 ⟨ho15, he15⟩; rw [← HHS.out] at he15; obtain rfl := he15; have HM15 := Lib.hid (HM14.out.keep ho15); have HDG_15 := Lib.hid (HDG_14.out.only ho15 id); have HSG_15 := Lib.hid (HSG_14.out.only ho15 id); clear ho15)
      | (refine wpList_build0 rfl 28 rfl built28z ?_)
      | (refine wpList_store_blk (cs := zc28) rfl 28 (.tmp 2) (.tmp 100) rfl rfl rfl rfl HM15.out.res rfl (info28s zc28_len) zc28_one ?_; intro wz hbz hoz; have HBZ := Lib.hid hbz; have HOZ := Lib.hid (HM15.out.only.then hoz (fun i hi e => by omega)); clear hbz hoz))
     refine bodyPost_ret (ret_cell_tmp rfl rfl HBZ.out agg28 (info28s zc28_len)) rfl ?_
     exact HDO.out _ _ ⟨HOZ.out, rfl⟩
    | true =>
     cases b2 with
     | false =>
      go_wp2_with (first
       | (go_at_call 37; refine (has_doc (n := 5) HM14.out.jis).mono ?_; rintro e w15 ⟨ho15, he15⟩; rw [← HHS.out] at he15; obtain rfl := he15; have HM15 := Lib.hid (HM14.out.keep ho15); have HDG_15 := Lib.hid (HDG_14.out.only ho15 id); have HSG_15 := Lib.hid (HSG_14.out.only ho15 id); clear ho15)
       | (refine wpList_build0 rfl 28 rfl built28z ?_)
       | (refine wpList_store_blk (cs := zc28) rfl 28 (.tmp 2) (.tmp 100) rfl rfl rfl rfl HM15.out.res rfl (info28s zc28_len) zc28_one ?_; intro wz hbz hoz; have HBZ := Lib.hid hbz; have HOZ := Lib.hid (HM15.out.only.then hoz (fun i hi e => by omega)); clear hbz hoz))
      refine bodyPost_ret (ret_cell_tmp rfl rfl HBZ.out agg28 (info28s zc28_len)) rfl ?_
      exact HDO.out _ _ ⟨HOZ.out, rfl⟩
     | true =>
      cases b6 with
      | false =>
       go_wp2_with (first
        | (go_at_call 37; refine (has_doc (n := 5) HM14.out.jis).mono ?_; rintro e w15 ⟨ho15, he15⟩; rw [← HHS.out] at he15; obtain rfl := he15; have HM15 := Lib.hid (HM14.out.keep ho15); have HDG_15 := Lib.hid (HDG_14.out.only ho15 id); have HSG_15 := Lib.hid (HSG_14.out.only ho15 id); clear ho15)
        | (refine wpList_build0 rfl 28 rfl built28z ?_)
        | (refine wpList_store_blk (cs := zc28) rfl 28 (.tmp 2) (.tmp 100) rfl rfl rfl rfl HM15.out.res rfl (info28s zc28_len) zc28_one ?_; intro wz hbz hoz; have HBZ := Lib.hid hbz; have HOZ := Lib.hid (HM15.out.only.then hoz (fun i hi e => by omega)); clear hbz hoz))
       refine bodyPost_ret (ret_cell_tmp rfl rfl HBZ.out agg28 (info28s zc28_len)) rfl ?_
       exact HDO.out _ _ ⟨HOZ.out, rfl⟩
      | true =>
       cases b4 with
       | false =>
        go_wp2_with (first
         | (go_at_call 37; refine (has_doc (n := 5) HM14.out.jis).mono ?_; rintro e w15 ⟨ho15, he15⟩; rw [← HHS.out] at he15; obtain rfl := he15; have HM15 := Lib.hid (HM14.out.keep ho15); have HDG_15 := Lib.hid (HDG_14.out.only ho15 id); have HSG_15 := Lib.hid (HSG_14.out.only ho15 id); clear ho15)
         | (refine wpList_build0 rfl 28 rfl built28z ?_)
         | (refine wpList_store_blk (cs := zc28) rfl 28 (.tmp 2) (.tmp 100) rfl rfl rfl rfl HM15.out.res rfl (info28s zc28_len) zc28_one ?_; intro wz hbz hoz; have HBZ := Lib.hid hbz; have HOZ := Lib.hid (HM15.out.only.then hoz (fun i hi e => by omega)); clear hbz hoz))
        refine bodyPost_ret (ret_cell_tmp rfl rfl HBZ.out agg28 (info28s zc28_len)) rfl ?_
        exact HDO.out _ _ ⟨HOZ.out, rfl⟩
       | true =>
        cases b7 with
        | false =>
         cases b8 with
         | false =>
          cases b5 with
          | false =>
           go_wp2_with (first
            | (go_at_call 37; refine (has_doc (n := 5) HM14.out.jis).mono ?_; rintro e w15 ⟨ho15, he15⟩; rw [← HHS.out] at he15; obtain rfl := he15; have HM15 := Lib.hid (HM14.out.keep ho15); have HDG_15 := Lib.hid (HDG_14.out.only ho15 id); have HSG_15 := Lib.hid (HSG_14.out.only ho15 id); clear ho15)
            | (refine wpList_build0 rfl 28 rfl built28z ?_)
            | (refine wpList_store_blk (cs := zc28) rfl 28 (.tmp 2) (.tmp 100) rfl rfl rfl rfl HM15.out.res rfl (info28s zc28_len) zc28_one ?_; intro wz hbz hoz; have HBZ := Lib.hid hbz; have HOZ := Lib.hid (HM15.out.only.then hoz (fun i hi e => by omega)); clear hbz hoz))
           refine bodyPost_ret (ret_cell_tmp rfl rfl HBZ.out agg28 (info28s zc28_len)) rfl ?_
           exact HDO.out _ _ ⟨HOZ.out, rfl⟩
          | true =>
           rw [show digR (memB (pV l) nId) (okM (pV l) nId) = digB (bsL l nId) from digR_mem HB3.out.symm] at HDG_14
           rw [show memB (pV l) nSig = bsL l nSig from memB_eq HB4.out.symm] at HSG_14
           go_wp2_with (first
            | (go_at_call 37; refine (has_doc (n := 5) HM14.out.jis).mono ?_; rintro e w15 ⟨ho15, he15⟩; rw [← HHS.out] at he15; obtain rfl := he15; have HM15 := Lib.hid (HM14.out.keep ho15); have HDG_15 := Lib.hid (HDG_14.out.only ho15 id); have HSG_15 := Lib.hid (HSG_14.out.only ho15 id); clear ho15)
            | (refine wpList_load_blk (cs := u8s (digB (bsL l nId))) rfl 24 (.tmp 10) rfl rfl HDG_15.out agg24 (info24s (digB_length _)) ?_)
            | (refine wpList_load_blk (cs := u8s (sigB (bsL l nSig))) rfl 26 (.tmp 17) rfl rfl HSG_15.out agg26 (info26s (sigB_length _)) ?_)
            | (refine wpList_buildP rfl 28 _ rfl (sctL_built l) (by simp [Act.eval, Act.put, numL, bsL]) ?_)
            | (refine wpList_store_blk (cs := sctL l) rfl 28 (.tmp 2) (.tmp 104) rfl rfl rfl rfl HM15.out.res (zc28_len.trans (sctL_len l).symm) (info28s (sctL_len l)) (sctL_one l) ?_; intro wz hbz hoz; have HBZ := Lib.hid hbz; have HOZ := Lib.hid (HM15.out.only.then hoz (fun i hi e => by omega)); clear hbz hoz))
           refine bodyPost_ret (ret_cell_tmp rfl rfl HBZ.out agg28 (info28s (sctL_len l))) rfl ?_
           exact HDO.out _ _ ⟨HOZ.out, rfl⟩
         | true =>
          go_wp2_with (first
           | (go_at_call 37; refine (has_doc (n := 5) HM14.out.jis).mono ?_; rintro e w15 ⟨ho15, he15⟩; rw [← HHS.out] at he15; obtain rfl := he15; have HM15 := Lib.hid (HM14.out.keep ho15); have HDG_15 := Lib.hid (HDG_14.out.only ho15 id); have HSG_15 := Lib.hid (HSG_14.out.only ho15 id); clear ho15)
           | (refine wpList_build0 rfl 28 rfl built28z ?_)
           | (refine wpList_store_blk (cs := zc28) rfl 28 (.tmp 2) (.tmp 100) rfl rfl rfl rfl HM15.out.res rfl (info28s zc28_len) zc28_one ?_; intro wz hbz hoz; have HBZ := Lib.hid hbz; have HOZ := Lib.hid (HM15.out.only.then hoz (fun i hi e => by omega)); clear hbz hoz))
          refine bodyPost_ret (ret_cell_tmp rfl rfl HBZ.out agg28 (info28s zc28_len)) rfl ?_
          exact HDO.out _ _ ⟨HOZ.out, rfl⟩
        | true =>
         go_wp2_with (first
          | (go_at_call 37; refine (has_doc (n := 5) HM14.out.jis).mono ?_; rintro e w15 ⟨ho15, he15⟩; rw [← HHS.out] at he15; obtain rfl := he15; have HM15 := Lib.hid (HM14.out.keep ho15); have HDG_15 := Lib.hid (HDG_14.out.only ho15 id); have HSG_15 := Lib.hid (HSG_14.out.only ho15 id); clear ho15)
          | (refine wpList_build0 rfl 28 rfl built28z ?_)
          | (refine wpList_store_blk (cs := zc28) rfl 28 (.tmp 2) (.tmp 100) rfl rfl rfl rfl HM15.out.res rfl (info28s zc28_len) zc28_one ?_; intro wz hbz hoz; have HBZ := Lib.hid hbz; have HOZ := Lib.hid (HM15.out.only.then hoz (fun i hi e => by omega)); clear hbz hoz))
         refine bodyPost_ret (ret_cell_tmp rfl rfl HBZ.out agg28 (info28s zc28_len)) rfl ?_
         exact HDO.out _ _ ⟨HOZ.out, rfl⟩
 | true =>
  go_wp2_with (first
   | (refine wpList_build0 rfl 28 rfl built28z ?_)
   | (refine wpList_store_blk (cs := zc28) rfl 28 (.tmp 2) (.tmp 100) rfl rfl rfl rfl HM14.out.res rfl (info28s zc28_len) zc28_one ?_; intro wz hbz hoz; have HBZ := Lib.hid hbz; have HOZ := Lib.hid (HM14.out.only.then hoz (fun i hi e => by omega)); clear hbz hoz))
  refine bodyPost_ret (ret_cell_tmp rfl rfl HBZ.out agg28 (info28s zc28_len)) rfl ?_
  exact HDO.out _ _ ⟨HOZ.out, rfl⟩
theorem badI_eq (v : JV) : badI v = (!hasV v 2 || !okM v nLeaf || !okM v nExtra) := by
 have e1 : badI v = (badN v (bad0 v [nLeaf, nExtra]) [nLeaf, nExtra] || ((badG v nLeaf 4 || (bytesB v nLeaf).isNone) || (badG v nExtra 4 || (bytesB v nExtra).isNone))) := by
  unfold badI
  simp only [Bool.or_assoc]
 rw [e1, badN_rest]
 ·rw [okM_eq, okM_eq]
  simp only [List.length_cons, List.length_nil, Bool.not_not, Bool.or_assoc]
 ·intro n hn hk
  simp only [List.mem_cons, List.not_mem_nil, or_false] at hn
  rcases hn with rfl | rfl <;> rw [badG_not hk] <;> simp
theorem badEnt_eq (l : Bytes) (k : Bytes) : badL l [k] k okI' = (docBad l 1 || !okK (pV l) k 5 || eachBad okI' ((getB (pV l) k).getD JV0).list) := by
 unfold badL
 rw [Bool.or_assoc, pBad_rest (l := l) (ns := [k]) (rest := badG (pV l) k 5 || eachBad okI' ((getB (pV l) k).getD JV0).list)]
 ·rw [okK_eq]
  simp [Bool.or_assoc]
 ·intro n hn hk
  simp only [List.mem_singleton] at hn
  subst hn
  rw [badG_not hk]; rfl
theorem rkeep {w w' : World} {b o : Nat} {cs : List Value} (h : w.rangeAt b o cs) (ho : Only (fun _ => False) w w') : w'.rangeAt b o cs := fun j x hx => ho.cell (h j x hx) id
theorem eachBad_at {ok : JV → Bool} {L : List JV} {j : Nat} {x : JV} (hx : L[j]? = some x) (h : ok x = false) : eachBad ok L = true :=
 List.any_eq_true.2 ⟨x, List.mem_of_getElem? hx, by simp [h]⟩
set_option maxRecDepth 100000 in
set_option maxHeartbeats 6400000 in
theorem takeEnt_doc {A : Option Addr} {c : Nat} {l : Bytes} {w : World} (hI : Inp w A l) (hcap : l.length ≤ c) :
  Calls Tryz.prog 15 #[.slice A l.length c] w (LTake EI 2 105 (badL l [nEnt] nEnt okI') (elsL l nEnt elI) 5 w) := by
 have HI := Lib.hid hI
 have HC := Lib.hid hcap
 obtain ⟨pn, hpn⟩ : ∃ q, q = (parseM l).isNone := ⟨_, rfl⟩
 have HPN := Lib.hid hpn
 obtain ⟨hs, hhs⟩ : ∃ q, q = hasV (pV l) 1 := ⟨_, rfl⟩
 have HHS := Lib.hid hhs
 obtain ⟨oo, hoo⟩ : ∃ q, q = okK (pV l) nEnt 5 := ⟨_, rfl⟩
 have HOO := Lib.hid hoo
 have HDO := Lib.hid (show ∀ e w', LTake EI 2 105 (pn || !hs || !oo || eachBad okI' ((getB (pV l) nEnt).getD JV0).list) (elsL l nEnt elI) 5 w e w' → LTake EI 2 105 (badL l [nEnt] nEnt okI') (elsL l nEnt elI) 5 w e w' from fun e w' h => by rw [badEnt_eq]; unfold docBad; rw [← hpn, ← hhs, ← hoo]; exact h)
 have qe : (errP l != 0) = pn := by rw [errP_eq, hpn]
 have HNL := Lib.hid (gl_ l nEnt)
 have HSM := Lib.hid (fun x hx => (getB_small (pV_small l) nEnt).mem (u := x) hx)
 obtain ⟨L, hL⟩ : ∃ L, L = ((getB (pV l) nEnt).getD JV0).list := ⟨_, rfl⟩
 have HLL := Lib.hid hL
 have hlz : (L.length : Int) ≤ 3000000 := by rw [hL]; have := gl_ l nEnt; omega
 clear hI hcap hpn hhs hoo hL
 go_enter Tryz.func15, Tryz.ntmps15
 go_upto_region 3 with (first
  | (go_at_call 32; refine (parse_doc HI.out HC.out).mono ?_; rintro e w2 ⟨ho2, cs2, rfl, hj2⟩; have HJ2 := Lib.hid hj2; obtain ⟨A2, c2, B2, d2, rfl⟩ := hj2.form; unfold cells5 txt; have HO2 := Lib.hid ho2; clear ho2 hj2)
  | (refine wpList_store_blk rfl 85 (.tmp 4) _ rfl rfl rfl rfl (Blk.new _ Z5 85) rfl info85s rfl ?_; intro w3 hb3 ho3; have HB3 := Lib.hid hb3; have HO3 := Lib.hid ((HO2.out.alloc _).then ho3 (fun i hi e => by have := HO2.out.size; omega)); have HJ3 := Lib.hid (HJ2.out.only (Y := fun b => w.heap.size ≤ b) (((Only.refl _ w2).alloc _).trans ho3) (fun b hb hx => ⟨by omega, hx⟩)); clear hb3 ho3)
  | (refine wpList_load_blk rfl 85 (.tmp 4) rfl rfl HB3.out agg85 info85s ?_)
  | (go_at_call 46; refine (list_doc (k := nEnt) HJ3.out (vk l) (vl l)).mono ?_; rintro e w4 ⟨ho4, A4, c4, rfl, hl4⟩; have HO4 := Lib.hid (HO3.out.trans ho4); have HB4 := Lib.hid (HB3.out.only ho4 id); have HJ4 := Lib.hid (HJ3.out.keep ho4); have HL4 := Lib.hid hl4; clear ho4 hl4))
 rw [← HOO.out, ← HLL.out]
 rw [← HLL.out] at HL4
 generalize errP l = ez at qe ⊢
 obtain ⟨⟨k0, k1, k2, k3, k4⟩, f0, f1, f2, f3, f4⟩ := HB4.out.five
 cases pn with
 | false =>
  cases hs with
  | false =>
   go_wp2_with (first
    | (go_at_call 37; refine (has_doc (n := 1) HJ4.out).mono ?_; rintro e w5 ⟨ho5, he5⟩; rw [← HHS.out] at he5; obtain rfl := he5; have HO5 := Lib.hid (HO4.out.trans ho5);  clear ho5))
   go_ret2
   exact HDO.out _ _ ⟨HO5.out, none, 0, rfl, RowOwn.nil _ _ _⟩
  | true =>
   cases oo with
   | false =>
    go_wp2_with (first
     | (go_at_call 37; refine (has_doc (n := 1) HJ4.out).mono ?_; rintro e w5 ⟨ho5, he5⟩; rw [← HHS.out] at he5; obtain rfl := he5; have HO5 := Lib.hid (HO4.out.trans ho5);  clear ho5))
    go_ret2
    exact HDO.out _ _ ⟨HO5.out, none, 0, rfl, RowOwn.nil _ _ _⟩
   | true =>
    go_wp2_with (first
     | (go_at_call 37; refine (has_doc (n := 1) HJ4.out).mono ?_; rintro e w5 ⟨ho5, he5⟩; rw [← HHS.out] at he5; obtain rfl := he5; have HO5 := Lib.hid (HO4.out.trans ho5); have HL5 := Lib.hid (HL4.out.only ho5 (fun b hb hx => ⟨id, hx⟩)); clear ho5))
    clear k0 k1 k2 k3 k4 f0 f1 f2 f3 f4
    go_loopw [8, 9] (fun s8 s9 wr => ∃ j : Nat, j ≤ L.length ∧ s9 = .int .i64 (j : Int) ∧ eachBad okI' (L.take j) = false ∧ RowOwn EI 2 105 w5.heap.size wr s8 ((L.take j).map elI) ∧ Only (fun _ => False) w5 wr) (fun _ i _ => L.length - (intOf i).toNat)
    case atStart => exact ⟨0, by omega, rfl, rfl, RowOwn.nil _ _ _, Only.refl _ _⟩
    case round =>
     obtain ⟨j, hj, rfl, hbad, hrow, ho⟩ := hrel
     have HB := Lib.hid hbad
     have HROW := Lib.hid hrow
     have HO := Lib.hid ho
     clear hbad hrow ho
     rcases Nat.lt_or_ge j L.length with hlt | hge
     ·have q : decide ((j : Int) < (L.length : Int)) = true := by simp; omega
      have hjz : (j : Int) < (L.length : Int) := by omega
      obtain ⟨x, hx⟩ : ∃ x, L[j]? = some x := ⟨L[j], List.getElem?_eq_getElem hlt⟩
      obtain ⟨A3, c3, B3, d3, hjx, hlx⟩ := HL5.out j x hx
      obtain ⟨bA, oA, rfl, hXA, hcA⟩ := hlx
      have HRG := Lib.hid (show wr.rangeAt bA (oA + j * 5) (cells5 x.kind x.str x.num (.slice A3 x.list.length c3) (.slice B3 x.keys.length d3)) from fun i y hy => by
       have := HO.out.cell (hcA i y hy) id
       rw [Nat.add_assoc, Nat.mul_comm j 5]; exact this)
      have HJX := Lib.hid (hjx.keep HO.out)
      have hsx := HSM.out x (by rw [← HLL.out]; exact List.mem_of_getElem? hx)
      have HXK := Lib.hid (show x.keys.length ≤ 3000000 by have := hsx.keys; omega)
      have HXL := Lib.hid (show x.list.length ≤ 3000000 by have := hsx.list; omega)
      have HX1 := Lib.hid (show ((getB x nLeaf).getD JV0).str.length ≤ 3000000 by have := (getB_small hsx nLeaf).str; omega)
      have HX2 := Lib.hid (show ((getB x nExtra).getD JV0).str.length ≤ 3000000 by have := (getB_small hsx nExtra).str; omega)
      have HLT := Lib.hid hlt
      have HX := Lib.hid hx
      have HJN := Lib.hid (show ((L.take j).map elI).length = j by rw [List.length_map, List.length_take]; omega)
      obtain ⟨hb, hhb⟩ : ∃ q, q = hasV x 2 := ⟨_, rfl⟩
      obtain ⟨lb, hlb⟩ : ∃ q, q = okM x nLeaf := ⟨_, rfl⟩
      obtain ⟨eb, heb⟩ : ∃ q, q = okM x nExtra := ⟨_, rfl⟩
      have HHB := Lib.hid hhb
      have HLB := Lib.hid hlb
      have HEB := Lib.hid heb
      have hbi : okI' x = !(!hb || !lb || !eb) := by unfold okI'; rw [badI_eq, ← hhb, ← hlb, ← heb]
      have HBI := Lib.hid hbi
      clear hx hjx hcA hXA hlt hhb hlb heb hsx hbi
      cases hb with
      | false =>
       go_upto_region 10 with (first
        | (refine load85 rfl (.tmp 44) rfl rfl HRG.out rfl ?_)
        | (go_at_call 34; refine (member_doc (k := nLeaf) HJX.out HXK.out HXL.out HX1.out).mono ?_; rintro e w6 ⟨ho6, A6, c6, hf6, rfl⟩; rw [← HLB.out]; have HO6 := Lib.hid ho6; have HF6 := Lib.hid hf6; have HJ6 := Lib.hid (HJX.out.keep ho6); have HRG6 := Lib.hid (rkeep HRG.out ho6); clear ho6 hf6))
       go_upto_region 11 with (first
        | (refine load85 rfl (.tmp 52) rfl rfl HRG6.out rfl ?_)
        | (go_at_call 34; refine (member_doc (k := nExtra) HJ6.out HXK.out HXL.out HX2.out).mono ?_; rintro e w7 ⟨ho7, A7, c7, hf7, rfl⟩; rw [← HEB.out]; have HO7 := Lib.hid (HO6.out.trans ho7); have HF7 := Lib.hid (hf7.mono HO6.out.size); have HF67 := Lib.hid (HF6.out.only ho7 (fun _ _ => id)); have HJ7 := Lib.hid (HJ6.out.keep ho7); have HRG7 := Lib.hid (rkeep HRG6.out ho7); clear ho7 hf7))
       go_wp2_with (first
        | (refine load85 rfl (.tmp 59) rfl rfl HRG7.out rfl ?_)
        | (go_at_call 37; refine (has_doc (n := 2) HJ7.out).mono ?_; rintro e w8 ⟨ho8, he8⟩; rw [← HHB.out] at he8; obtain rfl := he8; have HO8 := Lib.hid (HO7.out.trans ho8); have HF78 := Lib.hid (HF7.out.only ho8 (fun _ _ => id)); have HF68 := Lib.hid (HF67.out.only ho8 (fun _ _ => id)); clear ho8))
       go_ret2
       have HBX := Lib.hid (eachBad_at (ok := okI') HX.out (by rw [HBI.out]; rfl))
       rw [HLL.out] at HBX
       exact HDO.out _ _ ⟨(HO5.out.trans HO.out).trans HO8.out, none, 0, by rw [HBX.out]; rfl, by rw [HBX.out]; exact RowOwn.nil _ _ _⟩
      | true =>
       cases lb with
       | false =>
        go_upto_region 10 with (first
         | (refine load85 rfl (.tmp 44) rfl rfl HRG.out rfl ?_)
         | (go_at_call 34; refine (member_doc (k := nLeaf) HJX.out HXK.out HXL.out HX1.out).mono ?_; rintro e w6 ⟨ho6, A6, c6, hf6, rfl⟩; rw [← HLB.out]; have HO6 := Lib.hid ho6; have HF6 := Lib.hid hf6; have HJ6 := Lib.hid (HJX.out.keep ho6); have HRG6 := Lib.hid (rkeep HRG.out ho6); clear ho6 hf6))
        go_upto_region 11 with (first
         | (refine load85 rfl (.tmp 52) rfl rfl HRG6.out rfl ?_)
         | (go_at_call 34; refine (member_doc (k := nExtra) HJ6.out HXK.out HXL.out HX2.out).mono ?_; rintro e w7 ⟨ho7, A7, c7, hf7, rfl⟩; rw [← HEB.out]; have HO7 := Lib.hid (HO6.out.trans ho7); have HF7 := Lib.hid (hf7.mono HO6.out.size); have HF67 := Lib.hid (HF6.out.only ho7 (fun _ _ => id)); have HJ7 := Lib.hid (HJ6.out.keep ho7); have HRG7 := Lib.hid (rkeep HRG6.out ho7); clear ho7 hf7))
        go_wp2_with (first
         | (refine load85 rfl (.tmp 59) rfl rfl HRG7.out rfl ?_)
         | (go_at_call 37; refine (has_doc (n := 2) HJ7.out).mono ?_; rintro e w8 ⟨ho8, he8⟩; rw [← HHB.out] at he8; obtain rfl := he8; have HO8 := Lib.hid (HO7.out.trans ho8); have HF78 := Lib.hid (HF7.out.only ho8 (fun _ _ => id)); have HF68 := Lib.hid (HF67.out.only ho8 (fun _ _ => id)); clear ho8))
        go_ret2
        have HBX := Lib.hid (eachBad_at (ok := okI') HX.out (by rw [HBI.out]; rfl))
        rw [HLL.out] at HBX
        exact HDO.out _ _ ⟨(HO5.out.trans HO.out).trans HO8.out, none, 0, by rw [HBX.out]; rfl, by rw [HBX.out]; exact RowOwn.nil _ _ _⟩
       | true =>
        cases eb with
        | false =>
         go_upto_region 10 with (first
          | (refine load85 rfl (.tmp 44) rfl rfl HRG.out rfl ?_)
          | (go_at_call 34; refine (member_doc (k := nLeaf) HJX.out HXK.out HXL.out HX1.out).mono ?_; rintro e w6 ⟨ho6, A6, c6, hf6, rfl⟩; rw [← HLB.out]; have HO6 := Lib.hid ho6; have HF6 := Lib.hid hf6; have HJ6 := Lib.hid (HJX.out.keep ho6); have HRG6 := Lib.hid (rkeep HRG.out ho6); clear ho6 hf6))
         go_upto_region 11 with (first
          | (refine load85 rfl (.tmp 52) rfl rfl HRG6.out rfl ?_)
          | (go_at_call 34; refine (member_doc (k := nExtra) HJ6.out HXK.out HXL.out HX2.out).mono ?_; rintro e w7 ⟨ho7, A7, c7, hf7, rfl⟩; rw [← HEB.out]; have HO7 := Lib.hid (HO6.out.trans ho7); have HF7 := Lib.hid (hf7.mono HO6.out.size); have HF67 := Lib.hid (HF6.out.only ho7 (fun _ _ => id)); have HJ7 := Lib.hid (HJ6.out.keep ho7); have HRG7 := Lib.hid (rkeep HRG6.out ho7); clear ho7 hf7))
         go_wp2_with (first
          | (refine load85 rfl (.tmp 59) rfl rfl HRG7.out rfl ?_)
          | (go_at_call 37; refine (has_doc (n := 2) HJ7.out).mono ?_; rintro e w8 ⟨ho8, he8⟩; rw [← HHB.out] at he8; obtain rfl := he8; have HO8 := Lib.hid (HO7.out.trans ho8); have HF78 := Lib.hid (HF7.out.only ho8 (fun _ _ => id)); have HF68 := Lib.hid (HF67.out.only ho8 (fun _ _ => id)); clear ho8))
         go_ret2
         have HBX := Lib.hid (eachBad_at (ok := okI') HX.out (by rw [HBI.out]; rfl))
         rw [HLL.out] at HBX
         exact HDO.out _ _ ⟨(HO5.out.trans HO.out).trans HO8.out, none, 0, by rw [HBX.out]; rfl, by rw [HBX.out]; exact RowOwn.nil _ _ _⟩
        | true =>
         go_upto_region 10 with (first
          | (refine load85 rfl (.tmp 44) rfl rfl HRG.out rfl ?_)
          | (go_at_call 34; refine (member_doc (k := nLeaf) HJX.out HXK.out HXL.out HX1.out).mono ?_; rintro e w6 ⟨ho6, A6, c6, hf6, rfl⟩; rw [← HLB.out]; have HO6 := Lib.hid ho6; have HF6 := Lib.hid hf6; have HJ6 := Lib.hid (HJX.out.keep ho6); have HRG6 := Lib.hid (rkeep HRG.out ho6); clear ho6 hf6))
         go_upto_region 11 with (first
          | (refine load85 rfl (.tmp 52) rfl rfl HRG6.out rfl ?_)
          | (go_at_call 34; refine (member_doc (k := nExtra) HJ6.out HXK.out HXL.out HX2.out).mono ?_; rintro e w7 ⟨ho7, A7, c7, hf7, rfl⟩; rw [← HEB.out]; have HO7 := Lib.hid (HO6.out.trans ho7); have HF7 := Lib.hid (hf7.mono HO6.out.size); have HF67 := Lib.hid (HF6.out.only ho7 (fun _ _ => id)); have HJ7 := Lib.hid (HJ6.out.keep ho7); have HRG7 := Lib.hid (rkeep HRG6.out ho7); clear ho7 hf7))
         go_wp2_with (first
          | (refine load85 rfl (.tmp 59) rfl rfl HRG7.out rfl ?_)
          | (go_at_call 37; refine (has_doc (n := 2) HJ7.out).mono ?_; rintro e w8 ⟨ho8, he8⟩; rw [← HHB.out] at he8; obtain rfl := he8; have HO8 := Lib.hid (HO7.out.trans ho8); have HF78 := Lib.hid (HF7.out.only ho8 (fun _ _ => id)); have HF68 := Lib.hid (HF67.out.only ho8 (fun _ _ => id)); clear ho8)
          | (refine wpList_slice1 (cs := [.slice A6 (memB x nLeaf).length c6, .slice A7 (memB x nExtra).length c7]) rfl 50 105 (.tmp 74) rfl under50 info105e rfl (by decide) (by decide) rfl rfl ?_)
          | (refine stop_append (t := 50) rfl ?_))
         refine ⟨?_⟩
         obtain ⟨xs, hown, hrow⟩ := HROW.out
         have hE : EI (fun b => w5.heap.size ≤ b ∧ u8.ownBlock ≠ some b) w8 (elI x) [.slice A6 (memB x nLeaf).length c6, .slice A7 (memB x nExtra).length c7] := by
          have hlt8 : ∀ b, u8.ownBlock = some b → b < wr.heap.size := fun b hb => (World.ownsRow.lt hown b hb).2
          have s5 := HO.out.size
          refine ⟨[.slice A6 (memB x nLeaf).length c6], [.slice A7 (memB x nExtra).length c7], rfl, ?_, ?_⟩
          ·rw [show (elI x).1 = memB x nLeaf from (memB_eq HLB.out.symm).symm]
           exact HF68.out.enc (fun b hb _ => ⟨by omega, fun e => by have := hlt8 b e; omega⟩)
          ·rw [show (elI x).2 = memB x nExtra from (memB_eq HEB.out.symm).symm]
           exact HF78.out.enc (fun b hb _ => ⟨by omega, fun e => by have := hlt8 b e; omega⟩)
         have HE := Lib.hid hE
         clear hE
         refine wpList_appendE rfl (.tmp 71) (.tmp 75) 50 rfl under50 info105e rfl (by decide) (by decide) rfl (own_only hown (HO8.out.alloc _) (fun _ _ h => h)) rfl (Blk.new w8 [.slice A6 (memB x nLeaf).length c6, .slice A7 (memB x nExtra).length c7] 105) rfl rfl (by have := HJN.out; have := HLT.out; omega) (Nat.le_trans HO.out.size (Nat.le_trans HO8.out.size (by simp))) ?_
         intro gg cap w9 hown8 hgr hor
         have HOWN := Lib.hid hown
         have HXS := Lib.hid hrow
         have HOWN8 := Lib.hid hown8
         have HGR := Lib.hid hgr
         have HOR := Lib.hid hor
         clear hown hrow hown8 hgr hor
         go_wp2
         go_roundw
         case rel =>
          have hlt8 : ∀ b, u8.ownBlock = some b → w5.heap.size ≤ b ∧ b < wr.heap.size := fun b hb => World.ownsRow.lt HOWN.out b hb
          refine ⟨j + 1, by have := HLT.out; omega, by push_cast; rfl, ?_, ?_, ?_⟩
          ·rw [take_snoc HX.out, eachBad_snoc, HB.out, HBI.out]; rfl
          ·have hrow8 := HOWN8.out
           rw [take_snoc HX.out, List.map_append, List.map_cons, List.map_nil]
           have hs := RowOwn.snoc (a := elI x) encI (HXS.out.only encI (HO8.out.alloc _) (fun b hb hy => ⟨id, hy⟩)) (encI.only HE.out ((Only.refl (fun _ => False) w8).alloc _) (fun b hb hy => ⟨id, hy⟩)) hrow8 HGR.out rfl HOR.out
           rw [HJN.out] at hs
           exact hs
          ·refine (HO.out.trans HO8.out).then (((Only.refl (fun _ => False) w8).alloc _).mono (fun _ _ h => h.elim) |>.then (Only.ofGrown HGR.out) (fun i _ h => h)) (fun i hi h => ?_)
           have := (hlt8 i h).1
           omega
         case measure => have := HLT.out; simp [intOf]; omega
     ·have q : decide ((j : Int) < (L.length : Int)) = false := by simp; omega
      have qz : ¬ (j : Int) < (L.length : Int) := by omega
      obtain rfl : j = L.length := by omega
      have hbb := HB.out
      rw [List.take_of_length_le (Nat.le_refl _)] at hbb
      have hrow := HROW.out
      rw [List.take_of_length_le (Nat.le_refl _)] at hrow
      have HBB := Lib.hid hbb
      have HR2 := Lib.hid (hrow.mono encI HO5.out.size)
      clear hrow hge hj hbb
      go_wp2
      have hr := HR2.out
      obtain ⟨A9, c9, hu8⟩ := hr.form
      rw [hu8] at hr
      subst hu8
      go_ret2
      refine HDO.out _ _ ⟨HO5.out.trans HO.out, A9, c9, ?_, ?_⟩
      ·rw [← HLL.out, HBB.out]; simp [elsL, ← HLL.out]
      ·rw [← HLL.out, HBB.out]
       rw [show elsL l nEnt elI = L.map elI from by unfold elsL; rw [← HLL.out]]
       exact hr
 | true =>
  go_wp2
  go_ret2
  exact HDO.out _ _ ⟨HO4.out, none, 0, rfl, RowOwn.nil _ _ _⟩
end Go.Proofs.YtjehnejgojgahaaGreatDoor
