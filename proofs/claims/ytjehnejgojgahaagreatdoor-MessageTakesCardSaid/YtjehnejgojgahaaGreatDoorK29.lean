/-
  A part of the proof of MessageTakes: the texts N6 N7 N8 N9 NA NB.
-/
import Derived.Test.YtjehnejgojgahaaGreatDoorK15
import Derived.Test.YtjehnejgojgahaaGreatDoorK23
import Derived.Test.YtjehnejgojgahaaGreatDoorK25
import Derived.Test.YtjehnejgojgahaaGreatDoorK28
namespace Go.Proofs.YtjehnejgojgahaaGreatDoor
open Go.RowKit
set_option linter.unusedVariables false
set_option linter.unusedSimpArgs false
set_option maxRecDepth 100000 in
set_option maxHeartbeats 1600000 in
theorem may_doc {X : Nat → Prop} {v : JV} {cs : List Value} {w : World} (hJ : JIs X w v cs) (hw : WV 8 v) : Calls Tryz.prog 69 #[.agg cs.toArray] w (BoolAt v.nd w) := by
 have hd := deep_any hw (by omega)
 have HDO := Lib.hid (show ∀ w' : World, Only (fun _ => False) w w' → BoolAt v.nd w (.returned (.bool v.nd)) w' from fun w' h => ⟨h, rfl⟩)
 have HJ := Lib.hid (fun o => hd X _ cs (hJ.keep ((Only.refl _ w).alloc o)))
 generalize v.nd = q at HJ HDO ⊢
 obtain ⟨A, c, B, d, rfl⟩ := hJ.form
 unfold cells5 txt at *
 clear hJ hd
 go_enter Tryz.func69, Tryz.ntmps69
 go_wp2_with (go_at_call 93; refine (HJ.out _).mono ?_; rintro e w2 ⟨ho2, rfl⟩; have HO2 := Lib.hid ho2; clear ho2)
 go_ret
 exact HDO.out _ (((Only.refl _ w).alloc _).trans HO2.out)
theorem parseM_short {l : Bytes} (h : l.length ≤ 1048576) : parseM l = ((some l).bind (valB (2 * l.length + 2) 8)).bind fun p => if skipB p.2 = [] ∧ p.1.nd = true then some p.1 else none := by
 unfold parseM
 rw [if_pos h]
 unfold parseD VD
 rw [(valD_eq _).1 8 l, Option.bind_some]
 cases valB (2 * l.length + 2) 8 l with
 | none => rfl
 | some p =>
  rw [Option.bind_some]
  by_cases hn : p.1.nd = true
  ·rw [show (some p).filter (fun p => p.1.nd) = some p by simp [Option.filter, hn], Option.bind_some, behind_nil]
   simp [hn]
  ·rw [show (some p).filter (fun p => p.1.nd) = none by simp [Option.filter, hn]]
   simp [hn]
def errP (l : Bytes) : Int := match parseM l with | some _ => 0 | none => if l.length ≤ 1048576 then 5 else 3
def DParse (l : Bytes) (w : World) (e : Ending) (w' : World) : Prop :=
 Only (fun _ => False) w w' ∧ ∃ cs, e = .returned (.tuple #[.agg cs.toArray, .int .i64 (errP l)]) ∧ JIs (w.heap.size ≤ ·) w' (pV l) cs
theorem DParse.no {l : Bytes} {w w' : World} (h : parseM l = none) (ho : Only (fun _ => False) w w') {z : Int} (hz : z = if l.length ≤ 1048576 then 5 else 3) : DParse l w (.returned (.tuple #[.agg Z5.toArray, .int .i64 z])) w' := by
 refine ⟨ho, Z5, ?_, ?_⟩
 ·unfold errP; rw [h, hz]
 ·unfold pV; rw [h]; exact JIs.plain _ _ 0 [] 0 none none 0 0
theorem DParse.yes {l : Bytes} {w w' : World} {v : JV} {cs : List Value} (h : parseM l = some v) (ho : Only (fun _ => False) w w') (hj : JIs (w.heap.size ≤ ·) w' v cs) : DParse l w (.returned (.tuple #[.agg cs.toArray, .int .i64 0])) w' := by
 refine ⟨ho, cs, ?_, ?_⟩
 ·unfold errP; rw [h]
 ·unfold pV; rw [h]; exact hj
structure PDoc (w : World) (g : Nat) (A : Option Addr) (c : Nat) (l : Bytes) (t5 : Nat) (s : Option Bytes) (cs : List Value) (W : World) : Prop where
 rs : RSo W g A c l s
 b2 : Blk W w.heap.size Z5 85
 b5 : Blk W t5 cs 85
 only : Only (fun _ => False) w W
 gb : w.heap.size < g
 lt : g < t5
 low : LowA A l w.heap.size
theorem PDoc.call {w : World} {g : Nat} {A : Option Addr} {c : Nat} {l : Bytes} {t5 : Nat} {s s2 : Option Bytes} {cs : List Value} {W W2 : World} (h : PDoc w g A c l t5 s cs W) (hr : RSo W2 g A c l s2) (ho : Only (· = g) W W2) : PDoc w g A c l t5 s2 cs W2 :=
 ⟨hr, h.b2.only ho (fun e => by have := h.gb; omega), h.b5.only ho (fun e => by have := h.lt; omega), h.only.then ho (fun i hi e => by have := h.gb; omega), h.gb, h.lt, h.low⟩
theorem docstart {w : World} {A : Option Addr} {c : Nat} {l : Bytes} (hI : Inp w A l) (hl : l.length ≤ 1048576) :
  RSo ((w.alloc (.cells Z5.toArray 85)).alloc (.cells #[.slice A l.length c, .int .i64 0, .bool false] 140)) (w.heap.size + 1) A c l (some l) := by
 have ho : Only (fun _ => False) w ((w.alloc (.cells Z5.toArray 85)).alloc (.cells #[.slice A l.length c, .int .i64 0, .bool false] 140)) := ((Only.refl _ w).alloc _).alloc _
 have hb := Blk.new (w.alloc (.cells Z5.toArray 85)) [.slice A l.length c, .int .i64 0, .bool false] 140
 rw [World.size_alloc] at hb
 exact ⟨0, ⟨hb, hI.at_.only ho (fun _ _ _ => id), fun b o e => by have := hI.low b o e; omega, by omega, hl⟩, rfl⟩
theorem PDoc.start {w : World} {A : Option Addr} {c : Nat} {l : Bytes} {cs : List Value} {W : World} {T : Option (JV × Bytes)} (hI : Inp w A l)
  (hv : ValAt (w.heap.size + 1) A c l T ((w.alloc (.cells Z5.toArray 85)).alloc (.cells #[.slice A l.length c, .int .i64 0, .bool false] 140)) cs W) {W2 : World}
  (hb : Blk W2 W.heap.size cs 85) (ho : Only (· = W.heap.size) (W.alloc (.cells Z5.toArray 85)) W2) : PDoc w (w.heap.size + 1) A c l W.heap.size (T.map (·.2)) cs W2 := by
 obtain ⟨_, hr, ho1, _⟩ := hv
 have hs1 : w.heap.size + 2 ≤ W.heap.size := by have := ho1.size; simpa using this
 have o0 : Only (fun _ => False) w ((w.alloc (.cells Z5.toArray 85)).alloc (.cells #[.slice A l.length c, .int .i64 0, .bool false] 140)) := ((Only.refl _ w).alloc _).alloc _
 have o1 : Only (fun _ => False) w W := o0.then ho1 (fun i hi e => by omega)
 have o2 : Only (· = W.heap.size) W W2 := ((Only.refl _ W).alloc _).trans ho
 have hlow : LowA A l w.heap.size := fun b o e _ => hI.low b o e
 refine ⟨hr.only o2 (by omega) (fun b o e hl => by have := hI.low b o e; omega), ?_, hb, o1.then o2 (fun i hi e => by omega), by omega, by omega, hlow⟩
 exact (((Blk.new w Z5 85).alloc _).only ho1 (by omega)).only o2 (by omega)
theorem PDoc.jis {w : World} {A : Option Addr} {c : Nat} {l : Bytes} {cs : List Value} {W : World} {T : Option (JV × Bytes)}
  (hv : ValAt (w.heap.size + 1) A c l T ((w.alloc (.cells Z5.toArray 85)).alloc (.cells #[.slice A l.length c, .int .i64 0, .bool false] 140)) cs W) {W2 : World}
  (ho : Only (· = W.heap.size) (W.alloc (.cells Z5.toArray 85)) W2) : ∀ p, T = some p → JIs (fun b => w.heap.size < b ∧ ¬ b = w.heap.size + 1) W2 p.1 cs := by
 intro p hp
 have o2 : Only (· = W.heap.size) W W2 := ((Only.refl _ W).alloc _).trans ho
 exact (hv.2.2.2 p hp).only o2 (fun b hb hx => ⟨by omega, by have hx' : _ ≤ b := hx; simp at hx'; omega⟩)
set_option maxRecDepth 100000 in
set_option maxHeartbeats 3200000 in
theorem parse_doc {A : Option Addr} {c : Nat} {l : Bytes} {w : World} (hI : Inp w A l) (hcap : l.length ≤ c) : Calls Tryz.prog 32 #[.slice A l.length c] w (DParse l w) := by
 have HI := Lib.hid hI
 rcases Nat.lt_or_ge 1048576 l.length with hl | hl
 ·have q : decide ((1048576 : Int) < (l.length : Int)) = true := by simp; omega
  have HN := Lib.hid (show parseM l = none by unfold parseM; rw [if_neg (by omega)])
  have HZ := Lib.hid (show (3 : Int) = if l.length ≤ 1048576 then 5 else 3 by rw [if_neg (by omega)])
  clear hI
  go_enter Tryz.func32, Tryz.ntmps32
  go_wp2_with (refine wpList_store_blk (cs := Z5) rfl 85 (.tmp 2) _ rfl rfl rfl rfl (Blk.new w Z5 85) rfl info85s rfl ?_; intro w9 hb9 ho9; have HB9 := Lib.hid hb9; have HO9 := Lib.hid ho9; clear hb9 ho9)
  refine bodyPost_ret (ret_cell_tmp rfl rfl HB9.out agg85 info85s) rfl ?_
  exact DParse.no HN.out (((Only.refl _ w).alloc _).then HO9.out (fun i hi e => by omega)) HZ.out
 ·have q : decide ((1048576 : Int) < (l.length : Int)) = false := by simp; omega
  have HL := Lib.hid hl
  have HZ := Lib.hid (show (5 : Int) = if l.length ≤ 1048576 then 5 else 3 by rw [if_pos hl])
  have HPM := Lib.hid (parseM_short hl)
  obtain ⟨T, hT⟩ : ∃ T, T = (some l).bind (valB (2 * l.length + 2) 8) := ⟨_, rfl⟩
  have HT := Lib.hid hT
  have HV := Lib.hid (docvalue_any (2 * l.length + 2) (w.heap.size + 1) A c l (some l) _ 8 (by omega) (docstart hI hl) (fun r hr => by cases hr; omega))
  clear hI hl hT
  go_enter Tryz.func32, Tryz.ntmps32
  go_upto_region 5 with (first
   | (go_at_call 67; refine HV.out.mono ?_; rintro e w2 ⟨cs, rfl, hval⟩; rw [← HT.out] at hval; obtain ⟨k', t', n', A', a', c', B', b', d', rfl⟩ := hval.1; have HVAL := Lib.hid hval; clear hval)
   | (refine wpList_store_blk rfl 85 (.tmp 5) _ rfl rfl rfl rfl (Blk.new _ Z5 85) rfl info85s rfl ?_; intro w3 hb3 ho3; have HM3 := Lib.hid (PDoc.start HI.out HVAL.out hb3 ho3); have HJ3 := Lib.hid (PDoc.jis HVAL.out ho3); clear hb3 ho3))
  have HLOW := Lib.hid (show w.heap.size + 1 < w2.heap.size from HM3.out.lt)
  clear HV HVAL
  obtain ⟨g, hg⟩ : ∃ g, g = w.heap.size + 1 := ⟨_, rfl⟩
  obtain ⟨t5, ht5⟩ : ∃ t5, t5 = w2.heap.size := ⟨_, rfl⟩
  rw [← ht5, ← hg] at HM3 ⊢
  rw [← hg] at HJ3
  clear hg ht5
  cases T with
  | none =>
   have HN := Lib.hid (show parseM l = none by rw [HPM.out, ← HT.out]; rfl)
   go_upto_region 6 with (go_at_call 68; refine (blanks_o HM3.out.rs).mono ?_; rintro e w4 ⟨rfl, hr4, ho4⟩; obtain ⟨h2, h4⟩ := hr4.bad; have HM4 := Lib.hid (HM3.out.call hr4 ho4); clear hr4 ho4)
   go_wp2_with (refine wpList_store_blk (cs := Z5) rfl 85 (.tmp 2) _ rfl rfl rfl rfl HM4.out.b2 rfl info85s rfl ?_; intro w9 hb9 ho9; have HB9 := Lib.hid hb9; have HO9 := Lib.hid ho9; clear hb9 ho9)
   refine bodyPost_ret (ret_cell_tmp rfl rfl HB9.out agg85 info85s) rfl ?_
   exact DParse.no HN.out (HM4.out.only.then HO9.out (fun i hi e => by omega)) HZ.out
  | some p =>
   obtain ⟨v, q0⟩ := p
   have HWV := Lib.hid ((valB_wv _).1 (show valB (2 * l.length + 2) 8 l = some (v, q0) from HT.out.symm) HL.out).1
   have HJ := Lib.hid (HJ3.out _ rfl)
   clear HJ3
   go_upto_region 6 with (go_at_call 68; refine (blanks_o HM3.out.rs).mono ?_; rintro e w4 ⟨rfl, hr4, ho4⟩; have HJ4 := Lib.hid (HJ.out.only (Y := fun b => w.heap.size < b) ho4 (fun b hb hx => ⟨hx.2, hx.1⟩)); have HM4 := Lib.hid (HM3.out.call hr4 ho4); clear hr4 ho4)
   obtain ⟨j, hj, hd⟩ := HM4.out.rs
   obtain ⟨h0, h1, h2, h3, h4⟩ := hj.cells
   have HD := Lib.hid hd
   have hjl := hj.le
   have hl9 : (l.length : Int) ≤ 1048576 := by have := HL.out; omega
   obtain ⟨⟨c0, c1, c2, c3, c4⟩, f0, f1, f2, f3, f4⟩ := HM4.out.b5.five
   clear hj hd
   by_cases hq : skipB q0 = []
   ·have hge : decide ((j : Int) < (l.length : Int)) = false := by
     have := congrArg List.length HD.out
     simp only [Option.map_some, List.length_drop] at this
     rw [hq] at this; simp at this; simp; omega
    have hge2 : decide (j < l.length) = false := by simpa using hge
    have HQ := Lib.hid hq
    clear hq
    obtain ⟨nb, hnb⟩ : ∃ nb, nb = v.nd := ⟨_, rfl⟩
    have HNB := Lib.hid hnb
    clear hnb
    cases nb with
    | false =>
     have HN := Lib.hid (show parseM l = none by rw [HPM.out, ← HT.out, Option.bind_some, if_neg (by rw [← HNB.out]; simp)])
     go_wp2_with (first
      | (go_at_call 69; refine (may_doc HJ4.out HWV.out).mono ?_; rintro e w5 ⟨ho5, he5⟩; rw [← HNB.out] at he5; obtain rfl := he5; have HB2 := Lib.hid (HM4.out.b2.only ho5 id); have HO5 := Lib.hid ho5; clear ho5)
      | (refine wpList_store_blk (cs := Z5) rfl 85 (.tmp 2) _ rfl rfl rfl rfl HB2.out rfl info85s rfl ?_; intro w9 hb9 ho9; have HB9 := Lib.hid hb9; have HO9 := Lib.hid ho9; clear hb9 ho9))
     refine bodyPost_ret (ret_cell_tmp rfl rfl HB9.out agg85 info85s) rfl ?_
     exact DParse.no HN.out ((HM4.out.only.trans HO5.out).then HO9.out (fun i hi e => by omega)) HZ.out
    | true =>
     have HN := Lib.hid (show parseM l = some v by rw [HPM.out, ← HT.out, Option.bind_some, if_pos ⟨HQ.out, HNB.out.symm⟩])
     go_wp2_with (first
      | (go_at_call 69; refine (may_doc HJ4.out HWV.out).mono ?_; rintro e w5 ⟨ho5, he5⟩; rw [← HNB.out] at he5; obtain rfl := he5; have HB2 := Lib.hid (HM4.out.b2.only ho5 id); have HB5 := Lib.hid (HM4.out.b5.only ho5 id); have HJ5 := Lib.hid (HJ4.out.keep ho5); have HO5 := Lib.hid ho5; clear ho5)
      | (refine wpList_load_blk rfl 85 (.tmp 5) rfl rfl HB5.out agg85 info85s ?_)
      | (refine wpList_store_blk rfl 85 (.tmp 2) _ rfl rfl rfl rfl HB2.out rfl info85s rfl ?_; intro w9 hb9 ho9; have HB9 := Lib.hid hb9; have HO9 := Lib.hid ho9; clear hb9 ho9))
     refine bodyPost_ret (ret_cell_tmp rfl rfl HB9.out agg85 info85s) rfl ?_
     refine DParse.yes HN.out ((HM4.out.only.trans HO5.out).then HO9.out (fun i hi e => by omega)) ?_
     exact HJ5.out.only HO9.out (fun b hb hx => ⟨by omega, Nat.le_of_lt hx⟩)
   ·have hge : decide ((j : Int) < (l.length : Int)) = true := by
     have := congrArg List.length HD.out
     have h9 : 0 < (skipB q0).length := List.length_pos_iff.2 hq
     simp only [Option.map_some, List.length_drop] at this
     simp; omega
    have hge2 : decide (j < l.length) = true := by simpa using hge
    have HN := Lib.hid (show parseM l = none by rw [HPM.out, ← HT.out, Option.bind_some, if_neg (fun h => hq h.1)])
    clear hq
    go_wp2_with (refine wpList_store_blk (cs := Z5) rfl 85 (.tmp 2) _ rfl rfl rfl rfl HM4.out.b2 rfl info85s rfl ?_; intro w9 hb9 ho9; have HB9 := Lib.hid hb9; have HO9 := Lib.hid ho9; clear hb9 ho9)
    refine bodyPost_ret (ret_cell_tmp rfl rfl HB9.out agg85 info85s) rfl ?_
    exact DParse.no HN.out (HM4.out.only.then HO9.out (fun i hi e => by omega)) HZ.out
theorem idxK_first {ks : List Bytes} {k : Bytes} {j : Nat} (h : ks[j]? = some k) (hn : k ∉ ks.take j) : idxK ks k = some j := by
 induction ks generalizing j with
 | nil => simp at h
 | cons a ks ih =>
  cases j with
  | zero => simp at h; subst h; simp [idxK]
  | succ j =>
   simp at h hn
   have hne : ¬ a = k := fun e => hn.1 e.symm
   unfold idxK
   rw [if_neg hne, ih h hn.2]; rfl
theorem idxK_not {ks : List Bytes} {k : Bytes} (hn : k ∉ ks) : idxK ks k = none := by
 induction ks with
 | nil => rfl
 | cons a ks ih =>
  simp at hn
  unfold idxK
  rw [if_neg (fun e => hn.1 e.symm), ih hn.2]; rfl
def hasV (v : JV) (n : Nat) : Bool := decide (v.kind = 6) && decide (v.keys.length = n)
set_option maxRecDepth 100000 in
set_option maxHeartbeats 1600000 in
theorem has_doc {X : Nat → Prop} {v : JV} {cs : List Value} {w : World} {n : Nat} (hJ : JIs X w v cs) : Calls Tryz.prog 37 #[.agg cs.toArray, .int .i64 n] w (BoolAt (hasV v n) w) := by
 obtain ⟨A, c, B, d, rfl⟩ := hJ.form
 have HDO := Lib.hid (show ∀ (a b : Bool) w', a = decide (v.kind = 6) → b = decide (v.keys.length = n) → Only (fun _ => False) w w' → BoolAt (hasV v n) w (.returned (.bool (a && b))) w' from fun a b w' ha hb h => ⟨h, by rw [ha, hb]; rfl⟩)
 clear hJ
 unfold cells5 txt
 obtain ⟨kk, hkk⟩ : ∃ q, q = decide (v.kind = 6) := ⟨_, rfl⟩
 obtain ⟨nn, hnn⟩ : ∃ q, q = decide (v.keys.length = n) := ⟨_, rfl⟩
 have HKK := Lib.hid hkk
 have HNN := Lib.hid hnn
 have q1 : ((v.kind : Int) == 6) = kk := by
  rw [hkk]
  by_cases h : v.kind = 6
  ·rw [h]; rfl
  ·have : ¬ (v.kind : Int) = 6 := by omega
   simp [h, this]
 have q2 : ((v.keys.length : Int) == (n : Int)) = nn := by
  rw [hnn]
  by_cases h : v.keys.length = n
  ·rw [h]; simp
  ·have : ¬ (v.keys.length : Int) = n := by omega
   simp [h, this]
 clear hkk hnn
 generalize v.kind = k at q1 ⊢
 generalize v.keys.length = m at q2 ⊢
 generalize v.list.length = m2
 generalize v.num = nm
 generalize v.str = st
 have q3 : decide ((k : Int) = 6) = kk := q1
 have q4 : decide ((m : Int) = (n : Int)) = nn := q2
 have hz := Only.refl (fun _ => False) w
 cases kk <;> cases nn
 all_goals
  go_enter Tryz.func37, Tryz.ntmps37
  go_wp2
  go_ret
  exact HDO.out _ _ _ HKK.out HNN.out ((Only.refl _ w).alloc _)
def DGet (X : Nat → Prop) (v : JV) (k : Bytes) (w : World) (e : Ending) (w' : World) : Prop :=
 Only (fun _ => False) w w' ∧ ∃ cs, e = .returned (.tuple #[.agg cs.toArray, .bool (getB v k).isSome]) ∧ JIs X w' ((getB v k).getD JV0) cs
theorem DGet.no {X : Nat → Prop} {v : JV} {k : Bytes} {w w' : World} (h : getB v k = none) (ho : Only (fun _ => False) w w') : DGet X v k w (.returned (.tuple #[.agg Z5.toArray, .bool false])) w' := by
 refine ⟨ho, Z5, by rw [h]; rfl, ?_⟩
 rw [h]; exact JIs.plain _ _ 0 [] 0 none none 0 0
theorem DGet.yes {X : Nat → Prop} {v u : JV} {k : Bytes} {w w' : World} {cs : List Value} (h : getB v k = some u) (ho : Only (fun _ => False) w w') (hj : JIs X w' u cs) : DGet X v k w (.returned (.tuple #[.agg cs.toArray, .bool true])) w' := by
 refine ⟨ho, cs, by rw [h]; rfl, ?_⟩
 rw [h]; exact hj
theorem getB_not {kd n : Nat} {s k : Bytes} {l : List JV} {ks : List Bytes} (h : ¬ (kd = 6 ∧ ks.length = l.length)) : getB (.mk kd s n l ks) k = none := by
 unfold getB; exact if_neg h
theorem getB_at {n : Nat} {s k : Bytes} {l : List JV} {ks : List Bytes} (hl : ks.length = l.length) : getB (.mk 6 s n l ks) k = (idxK ks k).bind fun i => l[i]? := by
 unfold getB; exact if_pos ⟨rfl, hl⟩
set_option maxRecDepth 100000 in
set_option maxHeartbeats 3200000 in
theorem get_doc {X : Nat → Prop} {v : JV} {cs : List Value} {k : Bytes} {w : World} (hJ : JIs X w v cs) (hn : v.keys.length ≤ 3000000) (hn2 : v.list.length ≤ 3000000) : Calls Tryz.prog 70 #[.agg cs.toArray, txt k] w (DGet X v k w) := by
 obtain ⟨kd, s, n, l, ks⟩ := v
 obtain ⟨A, c, B, d, rfl, hls, hks⟩ := hJ.parts
 have hkz : (ks.length : Int) ≤ 3000000 := by have : ks.length ≤ 3000000 := hn; omega
 have hlz : (l.length : Int) ≤ 3000000 := by have : l.length ≤ 3000000 := hn2; omega
 have ho1 : Only (fun _ => False) w ((w.alloc (.cells (cells5 kd s n (.slice A l.length c) (.slice B ks.length d)).toArray 85)).alloc (.cells Z5.toArray 85)) := ((Only.refl _ w).alloc _).alloc _
 have HO1 := Lib.hid ho1
 have HB0 := Lib.hid ((Blk.new w (cells5 kd s n (.slice A l.length c) (.slice B ks.length d)) 85).alloc (.cells Z5.toArray 85))
 have hb4 := Blk.new (w.alloc (.cells (cells5 kd s n (.slice A l.length c) (.slice B ks.length d)).toArray 85)) Z5 85
 rw [World.size_alloc] at hb4
 have HB4 := Lib.hid hb4
 have HLS := Lib.hid (show LsAt X w A l from hls)
 have HKS := Lib.hid hks
 clear hJ hn hn2 hls hks ho1 hb4
 by_cases h6 : kd = 6 ∧ ks.length = l.length
 ·obtain ⟨rfl, hl⟩ := h6
  have HL := Lib.hid hl
  have q2 : ((ks.length : Int) == (l.length : Int)) = true := by simp; omega
  clear hl
  unfold cells5 txt at *
  go_enter Tryz.func70, Tryz.ntmps70
  go_wp2
  refine wp_gen (fun W => Only (fun _ => False) w W ∧ Blk W w.heap.size [.int .i64 (6 : Nat), .string ⟨s.toArray⟩, .int .u64 n, .slice A l.length c, .slice B ks.length d] 85 ∧ Blk W (w.heap.size + 1) Z5 85) ⟨HO1.out, HB0.out, HB4.out⟩ ?_
  rintro w1 ⟨ho1, hb0, hb4⟩
  have HO2 := Lib.hid ho1
  have HB2 := Lib.hid hb0
  have HB5 := Lib.hid hb4
  have k0 := hb0.cell 0 rfl
  have k3 := hb0.cell 3 rfl
  have k4 := hb0.cell 4 rfl
  clear ho1 hb0 hb4 HO1 HB0 HB4
  go_loopw [6] (fun s6 wr => ∃ j : Nat, j ≤ ks.length ∧ s6 = .int .i64 (j : Int) ∧ k ∉ ks.take j ∧ wr = w1) (fun i _ => ks.length - (intOf i).toNat)
  case atStart => exact ⟨0, by omega, rfl, by simp, rfl⟩
  case round =>
   obtain ⟨j, hj, rfl, hno, hw⟩ := hrel
   obtain rfl : w1 = wr := hw.symm
   have HNO := Lib.hid hno
   clear hno
   rcases Nat.lt_or_ge j ks.length with hlt | hge
   ·have q : decide ((j : Int) < (ks.length : Int)) = true := by simp; omega
    have hjz : (j : Int) < (ks.length : Int) := by omega
    have hjz2 : (j : Int) < (l.length : Int) := by have := HL.out; omega
    obtain ⟨x, hx⟩ : ∃ x, ks[j]? = some x := ⟨ks[j], List.getElem?_eq_getElem hlt⟩
    obtain ⟨bK, oK, rfl, hXK, hcK⟩ := HKS.out j x hx
    have hcx : w1.cell? ⟨bK, oK + j, none⟩ = some (.string ⟨x.toArray⟩) := by
     have h1 := hcK 0 _ rfl
     have h2 := HO2.out.cell h1 id
     simpa [txt] using h2
    have HX := Lib.hid hx
    have HLT := Lib.hid hlt
    clear hx hcK hXK
    by_cases hxk : x = k
    ·have q9 : (x == k) = true := by simp [hxk]
     obtain ⟨u, hu⟩ : ∃ u, l[j]? = some u := ⟨l[j]'(by have := HL.out; omega), List.getElem?_eq_getElem _⟩
     obtain ⟨A2, c2, B2, d2, hjx, hlx⟩ := HLS.out j u hu
     obtain ⟨bA, oA, rfl, hXA, hcA⟩ := hlx
     have HRG := Lib.hid (show w1.rangeAt bA (oA + j * 5) (cells5 u.kind u.str u.num (.slice A2 u.list.length c2) (.slice B2 u.keys.length d2)) from fun i y hy => by
      have := HO2.out.cell (hcA i y hy) id
      rw [Nat.add_assoc, Nat.mul_comm j 5]; exact this)
     have HJX := Lib.hid (hjx.only (Y := fun b => X b ∧ b < w.heap.size) HO2.out (fun b hb hx => ⟨id, hx, hb⟩))
     have HG := Lib.hid (show getB (.mk 6 s n l ks) k = some u by
      rw [getB_at HL.out, idxK_first (hxk ▸ HX.out) HNO.out, Option.bind_some, hu])
     clear hu hjx hcA hXA
     go_wp2_with (first
      | (refine load85 rfl (.tmp 36) rfl rfl HRG.out rfl ?_)
      | (refine wpList_store_blk (cs := cells5 u.kind u.str u.num (.slice A2 u.list.length c2) (.slice B2 u.keys.length d2)) rfl 85 (.tmp 4) _ rfl rfl rfl rfl HB5.out rfl info85s rfl ?_; intro w9 hb9 ho9; have HB9 := Lib.hid hb9; have HO9 := Lib.hid ho9; clear hb9 ho9))
     refine bodyPost_ret (ret_cell_tmp rfl rfl HB9.out agg85 info85s) rfl ?_
     exact DGet.yes HG.out (HO2.out.then HO9.out (fun i hi e => by omega)) (HJX.out.only HO9.out (fun b hb hx => ⟨by have := hx.2; omega, hx.1⟩))
    ·have q9 : (x == k) = false := by simp [hxk]
     have HNE := Lib.hid hxk
     clear hxk
     go_wp2
     go_roundw
     case rel =>
      refine ⟨j + 1, by omega, by push_cast; rfl, ?_, by first | rfl | trivial⟩
      rw [take_snoc HX.out]
      intro hm
      rcases List.mem_append.1 hm with h1 | h1
      ·exact HNO.out h1
      ·exact HNE.out (List.mem_singleton.1 h1).symm
     case measure => simp [intOf]; omega
   ·have q : decide ((j : Int) < (ks.length : Int)) = false := by simp; omega
    obtain rfl : j = ks.length := by omega
    have HN := Lib.hid (show getB (.mk 6 s n l ks) k = none by
     have := HNO.out
     rw [List.take_of_length_le (Nat.le_refl _)] at this
     rw [getB_at HL.out, idxK_not this]; rfl)
    go_wp2_with (refine wpList_store_blk (cs := Z5) rfl 85 (.tmp 4) _ rfl rfl rfl rfl HB5.out rfl info85s rfl ?_; intro w9 hb9 ho9; have HB9 := Lib.hid hb9; have HO9 := Lib.hid ho9; clear hb9 ho9)
    refine bodyPost_ret (ret_cell_tmp rfl rfl HB9.out agg85 info85s) rfl ?_
    exact DGet.no HN.out (HO2.out.then HO9.out (fun i hi e => by omega))
 ·have HN := Lib.hid (getB_not (k := k) (s := s) (n := n) h6)
  by_cases h : kd = 6
  ·subst h
   have hne : ¬ ks.length = l.length := fun e => h6 ⟨rfl, e⟩
   have q2 : ((ks.length : Int) == (l.length : Int)) = false := by simp; omega
   clear hne h6
   unfold cells5 txt at *
   go_enter Tryz.func70, Tryz.ntmps70
   go_wp2_with (refine wpList_store_blk (cs := Z5) rfl 85 (.tmp 4) _ rfl rfl rfl rfl HB4.out rfl info85s rfl ?_; intro w9 hb9 ho9; have HB9 := Lib.hid hb9; have HO9 := Lib.hid ho9; clear hb9 ho9)
   refine bodyPost_ret (ret_cell_tmp rfl rfl HB9.out agg85 info85s) rfl ?_
   exact DGet.no HN.out (HO1.out.then HO9.out (fun i hi e => by omega))
  ·have q1 : ((kd : Int) == 6) = false := by simp; omega
   clear h h6
   unfold cells5 txt at *
   go_enter Tryz.func70, Tryz.ntmps70
   go_wp2_with (refine wpList_store_blk (cs := Z5) rfl 85 (.tmp 4) _ rfl rfl rfl rfl HB4.out rfl info85s rfl ?_; intro w9 hb9 ho9; have HB9 := Lib.hid hb9; have HO9 := Lib.hid ho9; clear hb9 ho9)
   refine bodyPost_ret (ret_cell_tmp rfl rfl HB9.out agg85 info85s) rfl ?_
   exact DGet.no HN.out (HO1.out.then HO9.out (fun i hi e => by omega))
def okK (v : JV) (k : Bytes) (kd : Nat) : Bool := (getB v k).isSome && decide (((getB v k).getD JV0).kind = kd)
theorem okK_eq (v : JV) (k : Bytes) (kd : Nat) : okK v k kd = !badG v k kd := by
 unfold okK badG
 cases getB v k with
 | none => rfl
 | some u => simp
set_option maxRecDepth 100000 in
set_option maxHeartbeats 1600000 in
theorem number_doc {X : Nat → Prop} {v : JV} {cs : List Value} {k : Bytes} {w : World} (hJ : JIs X w v cs) (hn : v.keys.length ≤ 3000000) (hn2 : v.list.length ≤ 3000000) :
  Calls Tryz.prog 33 #[.agg cs.toArray, txt k] w (fun e w' => Only (fun _ => False) w w' ∧ e = .returned (.tuple #[.int .u64 ((getB v k).getD JV0).num, .bool (okK v k 3)])) := by
 have HDO := Lib.hid (show ∀ (a b : Bool) (z : Int), a = (getB v k).isSome → b = decide (((getB v k).getD JV0).kind = 3) → Ending.returned (.tuple #[.int .u64 z, .bool (a && b)]) = Ending.returned (.tuple #[.int .u64 z, .bool (okK v k 3)]) from fun a b z ha hb => by rw [ha, hb]; rfl)
 have HJ := Lib.hid (fun o => get_doc (k := k) (hJ.keep ((Only.refl _ w).alloc o)) hn hn2)
 obtain ⟨A, c, B, d, rfl⟩ := hJ.form
 obtain ⟨aa, haa⟩ : ∃ q, q = (getB v k).isSome := ⟨_, rfl⟩
 obtain ⟨kk, hkk⟩ : ∃ q, q = decide (((getB v k).getD JV0).kind = 3) := ⟨_, rfl⟩
 have HAA := Lib.hid haa
 have HKK := Lib.hid hkk
 clear hJ hn hn2
 unfold cells5 txt at *
 generalize hu : (getB v k).getD JV0 = u at hkk
 have q1 : ((u.kind : Int) == 3) = kk := by
  rw [hkk]
  by_cases h : u.kind = 3
  ·rw [h]; rfl
  ·have : ¬ (u.kind : Int) = 3 := by omega
   simp [h, this]
 have q3 : decide ((u.kind : Int) = 3) = kk := q1
 have HU := Lib.hid hu
 clear hkk haa hu
 cases aa <;> cases kk
 all_goals
  go_enter Tryz.func33, Tryz.ntmps33
  go_wp2_with (first
   | (go_at_call 70; refine (HJ.out _).mono ?_; rintro e w2 ⟨ho2, cs2, rfl, hj2⟩; rw [HU.out] at hj2; rw [← HAA.out]; obtain ⟨A2, c2, B2, d2, rfl⟩ := hj2.form; unfold cells5 txt; have HO2 := Lib.hid (((Only.refl _ w).alloc _).trans ho2); clear ho2 hj2)
   | (refine wpList_store_blk rfl 85 (.tmp 6) _ rfl rfl rfl rfl (Blk.new _ Z5 85) rfl info85s rfl ?_; intro w3 hb3 ho3; have HO3 := Lib.hid ((HO2.out.alloc _).then ho3 (fun i hi e => by have := HO2.out.size; omega)); obtain ⟨⟨c0, c1, c2, c3, c4⟩, f0, f1, f2, f3, f4⟩ := hb3.five; clear hb3 ho3))
  go_quiet (fail)
  go_wp2
  go_ret2
  exact ⟨HO3.out.drewN _, by rw [← HU.out]; exact HDO.out _ _ _ HAA.out HKK.out⟩
def DList (X : Nat → Prop) (v : JV) (k : Bytes) (w : World) (e : Ending) (w' : World) : Prop :=
 Only (fun _ => False) w w' ∧ ∃ A c, e = .returned (.tuple #[.slice A ((getB v k).getD JV0).list.length c, .bool (okK v k 5)]) ∧ LsAt X w' A ((getB v k).getD JV0).list
theorem JIs.ls {X : Nat → Prop} {w : World} {v : JV} {cs : List Value} (h : JIs X w v cs) : ∃ A c B d, cs = cells5 v.kind v.str v.num (.slice A v.list.length c) (.slice B v.keys.length d) ∧ LsAt X w A v.list := by
 obtain ⟨kd, s, n, l, ks⟩ := v
 obtain ⟨A, c, B, d, rfl, hls, _⟩ := h.parts
 exact ⟨A, c, B, d, rfl, hls⟩
theorem LsAt.only {X Y : Nat → Prop} {w w' : World} {G : Nat → Prop} {A : Option Addr} {l : List JV} (h : LsAt X w A l) (ho : Only G w w') (hX : ∀ b, b < w.heap.size → X b → ¬ G b ∧ Y b) : LsAt Y w' A l := by
 intro i v hv
 obtain ⟨A2, c2, B2, d2, hj, hl⟩ := h i v hv
 exact ⟨A2, c2, B2, d2, hj.only ho hX, hl.only (by simp [cells5]) ho hX⟩
set_option maxRecDepth 100000 in
set_option maxHeartbeats 1600000 in
theorem list_doc {X : Nat → Prop} {v : JV} {cs : List Value} {k : Bytes} {w : World} (hJ : JIs X w v cs) (hn : v.keys.length ≤ 3000000) (hn2 : v.list.length ≤ 3000000) :
  Calls Tryz.prog 46 #[.agg cs.toArray, txt k] w (DList X v k w) := by
 have HDO := Lib.hid (show ∀ (a b : Bool) A c w', a = (getB v k).isSome → b = decide (((getB v k).getD JV0).kind = 5) → Only (fun _ => False) w w' → LsAt X w' A ((getB v k).getD JV0).list →
  DList X v k w (.returned (.tuple #[.slice A ((getB v k).getD JV0).list.length c, .bool (a && b)])) w' from fun a b A c w' ha hb ho hl => ⟨ho, A, c, by rw [ha, hb]; rfl, hl⟩)
 have HJ := Lib.hid (fun o => get_doc (k := k) (hJ.keep ((Only.refl _ w).alloc o)) hn hn2)
 obtain ⟨A, c, B, d, rfl⟩ := hJ.form
 obtain ⟨aa, haa⟩ : ∃ q, q = (getB v k).isSome := ⟨_, rfl⟩
 obtain ⟨kk, hkk⟩ : ∃ q, q = decide (((getB v k).getD JV0).kind = 5) := ⟨_, rfl⟩
 have HAA := Lib.hid haa
 have HKK := Lib.hid hkk
 clear hJ hn hn2
 unfold cells5 txt at *
 generalize hu : (getB v k).getD JV0 = u at hkk
 have q1 : ((u.kind : Int) == 5) = kk := by
  rw [hkk]
  by_cases h : u.kind = 5
  ·rw [h]; rfl
  ·have : ¬ (u.kind : Int) = 5 := by omega
   simp [h, this]
 have q3 : decide ((u.kind : Int) = 5) = kk := q1
 have HU := Lib.hid hu
 clear hkk haa hu
 cases aa <;> cases kk
 all_goals
  go_enter Tryz.func46, Tryz.ntmps46
  go_wp2_with (first
   | (go_at_call 70; refine (HJ.out _).mono ?_; rintro e w2 ⟨ho2, cs2, rfl, hj2⟩; rw [HU.out] at hj2; rw [← HAA.out]; obtain ⟨A2, c2, B2, d2, rfl, hl2⟩ := hj2.ls; unfold cells5 txt; have HL2 := Lib.hid hl2; have HO2 := Lib.hid (((Only.refl _ w).alloc _).trans ho2); clear ho2 hj2 hl2)
   | (refine wpList_store_blk rfl 85 (.tmp 6) _ rfl rfl rfl rfl (Blk.new _ Z5 85) rfl info85s rfl ?_; intro w3 hb3 ho3; have HO3 := Lib.hid ((HO2.out.alloc _).then ho3 (fun i hi e => by have := HO2.out.size; omega)); have HL3 := Lib.hid (HL2.out.only (((Only.refl _ w2).alloc _).trans ho3) (fun b hb hx => ⟨by omega, hx⟩)); obtain ⟨⟨c0, c1, c2, c3, c4⟩, f0, f1, f2, f3, f4⟩ := hb3.five; clear hb3 ho3))
  go_quiet (fail)
  go_wp2
  go_ret2
  rw [← HU.out]
  rw [← HU.out] at HL3
  exact HDO.out _ _ _ _ _ HAA.out HKK.out (HO3.out.drewN _) (HL3.out.only ((Only.refl (fun _ => False) _).drewN _) (fun b hb hx => ⟨id, hx⟩))
theorem doc64 {s : Bytes} {w : World} (hl : s.length ≤ 3000000) : Calls Tryz.prog 94 #[.string ⟨s.toArray⟩] w (T64At s w) := by
 refine (take_doc hl).mono ?_
 rintro e w' ⟨ho, h⟩
 rw [docTake_eq] at h
 exact ⟨ho, h⟩
def rawB (v : JV) : Bytes := if v.kind = 4 then (take64 v.str).getD [] else []
def RawAt (v : JV) (w : World) (e : Ending) (w' : World) : Prop :=
 Only (fun _ => False) w w' ∧ ∃ A c, FreshB w.heap.size w' A c (rawB v) ∧ e = .returned (.tuple #[.slice A (rawB v).length c, .bool (okB v.kind v.str)])
set_option maxRecDepth 100000 in
set_option maxHeartbeats 1600000 in
theorem raw_doc {X : Nat → Prop} {v : JV} {cs : List Value} {w : World} (hJ : JIs X w v cs) (hs : v.str.length ≤ 3000000) : Calls Tryz.prog 71 #[.agg cs.toArray] w (RawAt v w) := by
 obtain ⟨A, c, B, d, rfl⟩ := hJ.form
 clear hJ
 by_cases h4 : v.kind = 4
 ·have HRB := Lib.hid (show rawB v = (take64 v.str).getD [] from if_pos h4)
  have HDO := Lib.hid (show ∀ (nn : Bool) e w', nn = (take64 v.str).isNone → Only (fun _ => False) w w' → (∃ A c, FreshB w.heap.size w' A c ((take64 v.str).getD []) ∧ e = .returned (.tuple #[.slice A ((take64 v.str).getD []).length c, .bool (!nn)])) → RawAt v w e w' from by
   rintro nn e w' hn ho ⟨A, c, hf, rfl⟩
   refine ⟨ho, A, c, by rw [HRB.out]; exact hf, ?_⟩
   rw [HRB.out, hn]
   unfold okB
   rw [h4]
   cases take64 v.str <;> rfl)
  have q1 : ((v.kind : Int) != 4) = false := by rw [h4]; rfl
  have hkz : (v.kind : Int) = 4 := by omega
  clear h4
  have HS := Lib.hid hs
  clear hs
  obtain ⟨nn, hnn⟩ : ∃ q, q = (take64 v.str).isNone := ⟨_, rfl⟩
  have HNN := Lib.hid hnn
  clear hnn
  unfold cells5 txt
  generalize v.str = s at *
  generalize v.kind = k at *
  generalize v.num = n
  generalize v.list.length = m1
  generalize v.keys.length = m2
  cases nn
  all_goals
   go_enter Tryz.func71, Tryz.ntmps71
   go_wp2_with (go_at_call 94; refine (doc64 (s := s) HS.out).mono ?_; rintro e w2 h2; obtain ⟨ho2, A2, c2, hf2, hl2, rfl⟩ := h2.parts; rw [← HNN.out]; have HO2 := Lib.hid ho2; have HF2 := Lib.hid hf2; clear ho2 hf2 hl2 h2)
   go_ret2
   exact HDO.out _ _ _ HNN.out (((Only.refl _ w).alloc _).trans HO2.out) ⟨_, _, HF2.out.mono (by simp), rfl⟩
 ·have HRB := Lib.hid (show rawB v = [] from if_neg h4)
  have HOK := Lib.hid (show okB v.kind v.str = false by unfold okB; rw [decide_eq_false h4]; rfl)
  have HDO := Lib.hid (show ∀ w', Only (fun _ => False) w w' → RawAt v w (.returned (.tuple #[.slice none 0 0, .bool false])) w' from fun w' ho => ⟨ho, none, 0, by rw [HRB.out]; exact FreshB.nil _ _ _, by rw [HRB.out, HOK.out]; rfl⟩)
  have q1 : ((v.kind : Int) != 4) = true := by simp; omega
  have hkz : ¬ (v.kind : Int) = 4 := by omega
  clear h4 HRB HOK hs
  unfold cells5 txt
  generalize v.str = s
  generalize v.kind = k at q1 hkz ⊢
  generalize v.num = n
  generalize v.list.length = m1
  generalize v.keys.length = m2
  go_enter Tryz.func71, Tryz.ntmps71
  go_wp2
  go_ret2
  exact HDO.out _ ((Only.refl _ w).alloc _)
def memB (v : JV) (k : Bytes) : Bytes := rawB ((getB v k).getD JV0)
def okM (v : JV) (k : Bytes) : Bool := okB ((getB v k).getD JV0).kind ((getB v k).getD JV0).str
def MemAt (v : JV) (k : Bytes) (w : World) (e : Ending) (w' : World) : Prop :=
 Only (fun _ => False) w w' ∧ ∃ A c, FreshB w.heap.size w' A c (memB v k) ∧ e = .returned (.tuple #[.slice A (memB v k).length c, .bool (okM v k)])
set_option maxRecDepth 100000 in
set_option maxHeartbeats 1600000 in
theorem member_doc {X : Nat → Prop} {v : JV} {cs : List Value} {k : Bytes} {w : World} (hJ : JIs X w v cs) (hn : v.keys.length ≤ 3000000) (hn2 : v.list.length ≤ 3000000) (hs : ((getB v k).getD JV0).str.length ≤ 3000000) :
  Calls Tryz.prog 34 #[.agg cs.toArray, txt k] w (MemAt v k w) := by
 have HJ := Lib.hid (fun o => get_doc (k := k) (hJ.keep ((Only.refl _ w).alloc o)) hn hn2)
 obtain ⟨A, c, B, d, rfl⟩ := hJ.form
 obtain ⟨aa, haa⟩ : ∃ q, q = (getB v k).isSome := ⟨_, rfl⟩
 have HAA := Lib.hid haa
 have HS := Lib.hid hs
 clear hJ hn hn2 hs haa
 unfold cells5 txt at *
 cases aa with
 | false =>
  have HN := Lib.hid (show getB v k = none by have := HAA.out; cases hg : getB v k with | none => rfl | some u => rw [hg] at this; cases this)
  have HDO := Lib.hid (show ∀ w', Only (fun _ => False) w w' → MemAt v k w (.returned (.tuple #[.slice none 0 0, .bool false])) w' from fun w' ho => ⟨ho, none, 0, by unfold memB; rw [HN.out]; exact FreshB.nil _ _ _, by unfold memB okM; rw [HN.out]; rfl⟩)
  go_enter Tryz.func34, Tryz.ntmps34
  go_wp2_with (first
   | (go_at_call 70; refine (HJ.out _).mono ?_; rintro e w2 ⟨ho2, cs2, rfl, hj2⟩; rw [← HAA.out]; obtain ⟨A2, c2, B2, d2, rfl⟩ := hj2.form; unfold cells5 txt; have HO2 := Lib.hid (((Only.refl _ w).alloc _).trans ho2); clear ho2 hj2)
   | (refine wpList_store_blk rfl 85 (.tmp 6) _ rfl rfl rfl rfl (Blk.new _ Z5 85) rfl info85s rfl ?_; intro w3 hb3 ho3; have HO3 := Lib.hid ((HO2.out.alloc _).then ho3 (fun i hi e => by have := HO2.out.size; omega)); clear hb3 ho3))
  go_ret2
  exact HDO.out _ HO3.out
 | true =>
  have HDO := Lib.hid (show ∀ e w3 w', Only (fun _ => False) w w3 → RawAt ((getB v k).getD JV0) w3 e w' → MemAt v k w e w' from fun e w3 w' ho ⟨ho2, A, c, hf, he⟩ => ⟨ho.trans ho2, A, c, hf.mono ho.size, he⟩)
  go_enter Tryz.func34, Tryz.ntmps34
  go_wp2_with (first
   | (go_at_call 70; refine (HJ.out _).mono ?_; rintro e w2 ⟨ho2, cs2, rfl, hj2⟩; rw [← HAA.out]; have HJ2 := Lib.hid hj2; obtain ⟨A2, c2, B2, d2, rfl⟩ := hj2.form; unfold cells5 txt; have HO2 := Lib.hid (((Only.refl _ w).alloc _).trans ho2); clear ho2 hj2)
   | (refine wpList_store_blk rfl 85 (.tmp 6) _ rfl rfl rfl rfl (Blk.new _ Z5 85) rfl info85s rfl ?_; intro w3 hb3 ho3; have HO3 := Lib.hid ((HO2.out.alloc _).then ho3 (fun i hi e => by have := HO2.out.size; omega)); have HB3 := Lib.hid hb3; have HJ3 := Lib.hid (HJ2.out.only (Y := X) (((Only.refl _ w2).alloc _).trans ho3) (fun b hb hx => ⟨by omega, hx⟩)); clear hb3 ho3)
   | (refine wpList_load_blk rfl 85 (.tmp 6) rfl rfl HB3.out agg85 info85s ?_)
   | (go_at_call 71; refine (raw_doc HJ3.out HS.out).mono ?_; rintro e w4 ⟨ho4, A4, c4, hf4, rfl⟩; have HR4 := Lib.hid (show RawAt _ _ _ w4 from ⟨ho4, A4, c4, hf4, rfl⟩); clear ho4 hf4))
  go_ret2
  exact HDO.out _ _ _ HO3.out HR4.out
theorem Blk.setU {w : World} {g : Nat} {l : Bytes} {T : TypeId} (h : Blk w g (u8s l) T) (i : Nat) (x : UInt8) : Blk (w.setCell ⟨g, i, none⟩ (.int .u8 x.toNat)) g (u8s (l.set i x)) T := by
 refine h.set' i _ ?_
 unfold u8s
 rw [List.map_set]
def fillB (b z : Bytes) (i : Nat) : Bytes := b.take i ++ z.drop i
theorem fillB_set {b z : Bytes} {i : Nat} {x : UInt8} (hb : b[i]? = some x) (hz : i < z.length) : (fillB b z i).set i x = fillB b z (i + 1) := by
 have hi := (List.getElem?_eq_some_iff.1 hb).1
 have hl : (b.take i).length = i := by rw [List.length_take]; omega
 unfold fillB
 have e : z.drop i = z[i] :: z.drop (i + 1) := List.drop_eq_getElem_cons hz
 rw [List.set_append_right _ _ (by omega), hl, Nat.sub_self, List.take_add_one, hb, e, List.set_cons_zero, List.append_assoc]
 rfl
theorem fillB_full {b z : Bytes} {n : Nat} (h : b.length = n) (hz : z.length = n) : fillB b z n = b := by
 unfold fillB
 rw [List.take_of_length_le (by omega), List.drop_of_length_le (by omega), List.append_nil]
theorem fillB_len {b z : Bytes} {i : Nat} (h : b.length = z.length) (hi : i ≤ z.length) : (fillB b z i).length = z.length := by
 unfold fillB; simp; omega
theorem fillB_cell {b z : Bytes} {i : Nat} (h : b.length = z.length) (hi : i < z.length) : ∃ y, (u8s (fillB b z i))[i]? = some (.int .u8 y) := by
 have : i < (fillB b z i).length := by rw [fillB_len h (by omega)]; exact hi
 refine ⟨(((fillB b z i)[i]'this).toNat : Int), ?_⟩
 unfold u8s; rw [List.getElem?_map, List.getElem?_eq_getElem this]; rfl
def digOk (l : Bytes) (ok : Bool) : Bool := ok && decide (l.length = 32)
def digR (l : Bytes) (ok : Bool) : Bytes := if digOk l ok = true then l else zero8 32
theorem digR_len (l : Bytes) (ok : Bool) : (digR l ok).length = 32 := by
 unfold digR digOk
 split
 ·rename_i h; simp at h; exact h.2
 ·exact zero8_length 32
def DigDoc (l : Bytes) (ok : Bool) (w : World) (e : Ending) (w' : World) : Prop :=
 Only (fun _ => False) w w' ∧ e = .returned (.tuple #[.agg (u8s (digR l ok)).toArray, .bool (digOk l ok)])
set_option maxRecDepth 100000 in
set_option maxHeartbeats 1600000 in
theorem digest_no {A : Option Addr} {c : Nat} {l : Bytes} {ok : Bool} {w : World} (h : digOk l ok = false) : Calls Tryz.prog 35 #[.slice A l.length c, .bool ok] w (DigDoc l ok w) := by
 have HD := Lib.hid (show ∀ w', Only (fun _ => False) w w' → DigDoc l ok w (.returned (.tuple #[.agg (u8s (zero8 32)).toArray, .bool false])) w' from fun w' ho => ⟨ho, by unfold digR; rw [if_neg (by rw [h]; simp), h]⟩)
 have hz4 : zero8 32 = zero8 32 := rfl
 cases ok with
 | false =>
  clear h
  generalize l.length = m
  go_enter Tryz.func35, Tryz.ntmps35
  go_wp2_with (first
   | (refine wpList_alloc_blk rfl 24 4 rfl rfl zero24 ?_; intro w1 hb1 ho1 hs1; have HB1 := Lib.hid hb1; have HO1 := Lib.hid ho1; have HS1 := Lib.hid hs1; clear hb1 ho1 hs1)
   | (refine wpList_alloc_blk rfl 24 6 rfl rfl zero24 ?_; intro w2 hb2 ho2 hs2; have HB2 := Lib.hid hb2; have HB1' := Lib.hid (HB1.out.only ho2 id); have HO2 := Lib.hid (HO1.out.trans ho2); clear hb2 ho2 hs2)
   | (refine wpList_load_blk (cs := u8s (zero8 32)) rfl 24 (.tmp 6) rfl rfl HB2.out agg24 (info24s (zero8_length 32)) ?_)
   | (refine wpList_store_blk (cs := u8s (zero8 32)) rfl 24 (.tmp 4) (.tmp 15) rfl rfl rfl rfl HB1'.out rfl (info24s (zero8_length 32)) (u8s_one _) ?_; intro w3 hb3 ho3; have HB3 := Lib.hid hb3; have HO3 := Lib.hid (HO2.out.then ho3 (fun i hi e => by omega)); clear hb3 ho3))
  refine bodyPost_ret (ret_cell_tmp rfl rfl HB3.out agg24 (info24s (zero8_length 32))) rfl ?_
  exact HD.out _ HO3.out
 | true =>
  have hl : ¬ l.length = 32 := by unfold digOk at h; simpa using h
  have q : ((l.length : Int) != 32) = true := by simp; omega
  have qz : ¬ (l.length : Int) = 32 := by omega
  clear h hl
  generalize l.length = m at q qz ⊢
  go_enter Tryz.func35, Tryz.ntmps35
  go_wp2_with (first
   | (refine wpList_alloc_blk rfl 24 4 rfl rfl zero24 ?_; intro w1 hb1 ho1 hs1; have HB1 := Lib.hid hb1; have HO1 := Lib.hid ho1; have HS1 := Lib.hid hs1; clear hb1 ho1 hs1)
   | (refine wpList_alloc_blk rfl 24 6 rfl rfl zero24 ?_; intro w2 hb2 ho2 hs2; have HB2 := Lib.hid hb2; have HB1' := Lib.hid (HB1.out.only ho2 id); have HO2 := Lib.hid (HO1.out.trans ho2); clear hb2 ho2 hs2)
   | (refine wpList_load_blk (cs := u8s (zero8 32)) rfl 24 (.tmp 6) rfl rfl HB2.out agg24 (info24s (zero8_length 32)) ?_)
   | (refine wpList_store_blk (cs := u8s (zero8 32)) rfl 24 (.tmp 4) (.tmp 15) rfl rfl rfl rfl HB1'.out rfl (info24s (zero8_length 32)) (u8s_one _) ?_; intro w3 hb3 ho3; have HB3 := Lib.hid hb3; have HO3 := Lib.hid (HO2.out.then ho3 (fun i hi e => by omega)); clear hb3 ho3))
  refine bodyPost_ret (ret_cell_tmp rfl rfl HB3.out agg24 (info24s (zero8_length 32))) rfl ?_
  exact HD.out _ HO3.out
set_option maxRecDepth 100000 in
set_option maxHeartbeats 1600000 in
theorem digest_yes {A : Option Addr} {c : Nat} {l : Bytes} {w : World} (hB : BytesAt w A l) (h : l.length = 32) : Calls Tryz.prog 35 #[.slice A l.length c, .bool true] w (DigDoc l true w) := by
 have hok : digOk l true = true := by unfold digOk; rw [decide_eq_true h]; rfl
 have HD := Lib.hid (show ∀ w', Only (fun _ => False) w w' → DigDoc l true w (.returned (.tuple #[.agg (u8s l).toArray, .bool true])) w' from fun w' ho => ⟨ho, by unfold digR; rw [if_pos hok, hok]⟩)
 obtain ⟨b, o, rfl⟩ := hB.there (by omega)
 have HB := Lib.hid hB
 have HL := Lib.hid h
 have HLZ := Lib.hid (show l.length = (zero8 32).length by rw [zero8_length, h])
 rw [h]
 clear hB h hok
 go_enter Tryz.func35, Tryz.ntmps35
 go_wp2_with (first
   | (refine wpList_alloc_blk rfl 24 4 rfl rfl zero24 ?_; intro w1 hb1 ho1 hs1; have HB1 := Lib.hid hb1; have HO1 := Lib.hid ho1; have HS1 := Lib.hid hs1; clear hb1 ho1 hs1)
   | (refine wpList_alloc_blk rfl 24 6 rfl rfl zero24 ?_; intro w2 hb2 ho2 hs2; have HB2 := Lib.hid hb2; have HB1' := Lib.hid (HB1.out.only ho2 id); have HO2 := Lib.hid (HO1.out.trans ho2); clear hb2 ho2 hs2))
 have HS := Lib.hid (show w.heap.size < w1.heap.size by have := HB1.out.lt; exact this)
 obtain ⟨H1, hH1⟩ : ∃ H, H = w1.heap.size := ⟨_, rfl⟩
 rw [← hH1] at HB2 HS ⊢
 clear hH1
 go_loopw [7] (fun s7 wr => ∃ i : Nat, i ≤ 32 ∧ s7 = .int .i64 (i : Int) ∧ Only (fun _ => False) w wr ∧ Blk wr w.heap.size (u8s (zero8 32)) 24 ∧ Blk wr H1 (u8s (fillB l (zero8 32) i)) 24) (fun i _ => 32 - (intOf i).toNat)
 case atStart => exact ⟨0, by omega, rfl, HO2.out, HB1'.out, HB2.out⟩
 case round =>
  obtain ⟨i, hi, rfl, ho, hb1, hb6⟩ := hrel
  have HO := Lib.hid ho
  have HBB := Lib.hid hb1
  have HB6 := Lib.hid hb6
  clear ho hb1 hb6
  rcases Nat.lt_or_ge i 32 with hlt | hge
  ·have q : decide ((i : Int) < 32) = true := by simp; omega
   have qz : (i : Int) < 32 := by omega
   obtain ⟨x, hx⟩ : ∃ x, l[i]? = some x := ⟨l[i]'(by have := HL.out; omega), List.getElem?_eq_getElem _⟩
   obtain ⟨b', o', e, hc⟩ := HB.out i x hx
   cases e
   have hcx := HO.out.cell hc id
   obtain ⟨y, hy⟩ := fillB_cell HLZ.out (show i < (zero8 32).length by rw [zero8_length]; exact hlt)
   have k6 := HB6.out.cell i hy
   have f6 := HB6.out.frozen i
   have HX := Lib.hid hx
   have HLT := Lib.hid hlt
   clear hx hc hy
   go_wp2
   go_roundw
   case rel =>
    have hb := HB6.out.setU i x
    rw [fillB_set HX.out (by rw [zero8_length]; exact HLT.out)] at hb
    exact ⟨i + 1, by have := HLT.out; omega, by push_cast; rfl, HO.out.setCell (fun e => by have := HS.out; simp at e; omega) _, HBB.out.far (by have := HS.out; simp; omega) _, hb⟩
   case measure => have := HLT.out; simp [intOf]; omega
  ·have q : decide ((i : Int) < 32) = false := by simp; omega
   have qz : ¬ (i : Int) < 32 := by omega
   obtain rfl : i = 32 := by omega
   have HF := Lib.hid (show Blk wr H1 (u8s l) 24 by
    have := HB6.out
    unfold fillB at this
    rw [List.take_of_length_le (by rw [HL.out]; exact Nat.le_refl _), List.drop_of_length_le (by rw [zero8_length]; exact Nat.le_refl _), List.append_nil] at this
    exact this)
   clear hge hi
   go_wp2_with (first
    | (refine wpList_load_blk (cs := u8s l) rfl 24 (.tmp 6) rfl rfl HF.out agg24 (info24s HL.out) ?_)
    | (refine wpList_store_blk (cs := u8s l) rfl 24 (.tmp 4) (.tmp 26) rfl rfl rfl rfl HBB.out (u8s_same (l := zero8 32) (m := l) HLZ.out.symm) (info24s HL.out) (u8s_one _) ?_; intro w3 hb3 ho3; have HB3 := Lib.hid hb3; have HO3 := Lib.hid (HO.out.then ho3 (fun i hi e => by omega)); clear hb3 ho3))
   refine bodyPost_ret (ret_cell_tmp rfl rfl HB3.out agg24 (info24s HL.out)) rfl ?_
   exact HD.out _ HO3.out
theorem digest_doc {A : Option Addr} {c : Nat} {l : Bytes} {ok : Bool} {w : World} (hB : BytesAt w A l) : Calls Tryz.prog 35 #[.slice A l.length c, .bool ok] w (DigDoc l ok w) := by
 cases h : digOk l ok with
 | false => exact digest_no h
 | true =>
  unfold digOk at h
  simp only [Bool.and_eq_true, decide_eq_true_eq] at h
  obtain ⟨rfl, h2⟩ := h
  exact digest_yes hB h2
theorem mark_no {l : Bytes} (h : ¬ (l.length = 68 ∧ l[0]? = some 8 ∧ l[1]? = some 7 ∧ l[2]? = some 0 ∧ l[3]? = some 64)) : markB l = false := by
 cases hm : markB l with
 | false => rfl
 | true =>
  exfalso
  unfold markB at hm
  simp only [Bool.and_eq_true, decide_eq_true_eq] at hm
  refine h ⟨hm.1, ?_⟩
  have e : ∀ i, i < 4 → l[i]? = ([8, 7, 0, 64] : Bytes)[i]? := by
   intro i hi
   rw [← hm.2, List.getElem?_take, if_pos hi]
  exact ⟨e 0 (by omega), e 1 (by omega), e 2 (by omega), e 3 (by omega)⟩
theorem mark_yes {l : Bytes} (h : l.length = 68) (h0 : l[0]? = some 8) (h1 : l[1]? = some 7) (h2 : l[2]? = some 0) (h3 : l[3]? = some 64) : markB l = true := by
 unfold markB
 rw [decide_eq_true h]
 match l, h0, h1, h2, h3 with
 | a :: b :: c :: d :: t, h0, h1, h2, h3 =>
  simp at h0 h1 h2 h3
  subst h0 h1 h2 h3
  rfl
set_option maxRecDepth 100000 in
set_option maxHeartbeats 3200000 in
theorem unmark_doc {A : Option Addr} {c : Nat} {l : Bytes} {w : World} (hB : BytesAt w A l) : Calls Tryz.prog 36 #[.slice A l.length c] w (UnmAt l w) := by
 have HZ := Lib.hid (zero8_length 64)
 by_cases h : l.length = 68
 ·have q : ((l.length : Int) != 68) = false := by simp; omega
  have get : ∀ i, i < 68 → ∃ x, l[i]? = some x := fun i hi => ⟨l[i]'(by omega), List.getElem?_eq_getElem _⟩
  obtain ⟨b, o, rfl⟩ := hB.there (by omega)
  obtain ⟨x0, e0⟩ := get 0 (by omega)
  obtain ⟨x1, e1⟩ := get 1 (by omega)
  obtain ⟨x2, e2⟩ := get 2 (by omega)
  obtain ⟨x3, e3⟩ := get 3 (by omega)
  have cel : ∀ i x, l[i]? = some x → w.cell? ⟨b, o + i, none⟩ = some (.int .u8 x.toNat) := by
   intro i x hx
   obtain ⟨b', o', e, hc⟩ := hB i x hx
   cases e; exact hc
  have C0 := Lib.hid (show w.cell? ⟨b, o, none⟩ = some (.int .u8 x0.toNat) from cel 0 x0 e0)
  have C1 := Lib.hid (cel 1 x1 e1)
  have C2 := Lib.hid (cel 2 x2 e2)
  have C3 := Lib.hid (cel 3 x3 e3)
  have CEL := Lib.hid cel
  have HL := Lib.hid h
  by_cases hm : x0 = 8 ∧ x1 = 7 ∧ x2 = 0 ∧ x3 = 64
  ·obtain ⟨rfl, rfl, rfl, rfl⟩ := hm
   have hk := mark_yes h e0 e1 e2 e3
   have HD := Lib.hid (show ∀ w', Only (fun _ => False) w w' → UnmAt l w (.returned (.tuple #[.agg (u8s (l.drop 4)).toArray, .int .i64 0])) w' from fun w' ho => ⟨ho, by unfold sigB; rw [if_pos hk, if_pos hk]⟩)
   have HG := Lib.hid get
   clear hB cel get e0 e1 e2 e3 hk q
   rw [h]
   clear h
   go_enter Tryz.func36, Tryz.ntmps36
   go_wp2_with (first
     | (refine wpList_alloc_blk rfl 26 2 rfl rfl zero26 ?_; intro w1 hb1 ho1 hs1; have HB1 := Lib.hid hb1; have HO1 := Lib.hid ho1; have HS1 := Lib.hid hs1; clear hb1 ho1 hs1)
     | (refine wpList_alloc_blk rfl 26 4 rfl rfl zero26 ?_; intro w2 hb2 ho2 hs2; have HB2 := Lib.hid hb2; have HB1' := Lib.hid (HB1.out.only ho2 id); have ho9 := HO1.out.trans ho2; have k0 := ho9.cell C0.out id; have k1 := ho9.cell C1.out id; have k2 := ho9.cell C2.out id; have k3 := ho9.cell C3.out id; have HO2 := Lib.hid ho9; clear hb2 ho2 hs2 ho9))
   have HS := Lib.hid (show w.heap.size < w1.heap.size by have := HB1.out.lt; exact this)
   obtain ⟨H1, hH1⟩ : ∃ H, H = w1.heap.size := ⟨_, rfl⟩
   rw [← hH1] at HB2 HS ⊢
   clear hH1 k0 k1 k2 k3
   have HL4 := Lib.hid (show (l.drop 4).length = 64 by rw [List.length_drop, HL.out])
   have HLZ := Lib.hid (show (l.drop 4).length = (zero8 64).length by rw [zero8_length, HL4.out])
   go_loopw [5] (fun s7 wr => ∃ i : Nat, i ≤ 64 ∧ s7 = .int .i64 (i : Int) ∧ Only (fun _ => False) w wr ∧ Blk wr w.heap.size (u8s (zero8 64)) 26 ∧ Blk wr H1 (u8s (fillB (l.drop 4) (zero8 64) i)) 26) (fun i _ => 64 - (intOf i).toNat)
   case atStart => exact ⟨0, by omega, rfl, HO2.out, HB1'.out, HB2.out⟩
   case round =>
    obtain ⟨i, hi, rfl, ho, hb1, hb6⟩ := hrel
    have HO := Lib.hid ho
    have HBB := Lib.hid hb1
    have HB6 := Lib.hid hb6
    clear ho hb1 hb6
    rcases Nat.lt_or_ge i 64 with hlt | hge
    ·have q : decide ((i : Int) < 64) = true := by simp; omega
     have qz : (i : Int) < 64 := by omega
     obtain ⟨m, hm⟩ : ∃ m, m = 4 + i := ⟨_, rfl⟩
     have hidx : (4 : Int) + (i : Int) = (m : Int) := by omega
     have hmz : (m : Int) < 68 := by omega
     obtain ⟨x, hx⟩ := HG.out m (by omega)
     have hcx := HO.out.cell (CEL.out m x hx) id
     obtain ⟨y, hy⟩ := fillB_cell HLZ.out (show i < (zero8 64).length by rw [zero8_length]; exact hlt)
     have k6 := HB6.out.cell i hy
     have f6 := HB6.out.frozen i
     have HX := Lib.hid (show (l.drop 4)[i]? = some x by rw [List.getElem?_drop, ← hm]; exact hx)
     have HLT := Lib.hid hlt
     clear hx hy hm
     go_wp2
     go_roundw
     case rel =>
      have hb := HB6.out.setU i x
      rw [fillB_set HX.out (by rw [zero8_length]; exact HLT.out)] at hb
      exact ⟨i + 1, by have := HLT.out; omega, by push_cast; rfl, HO.out.setCell (fun e => by have := HS.out; simp at e; omega) _, HBB.out.far (by have := HS.out; simp; omega) _, hb⟩
     case measure => have := HLT.out; simp [intOf]; omega
    ·have q : decide ((i : Int) < 64) = false := by simp; omega
     have qz : ¬ (i : Int) < 64 := by omega
     obtain rfl : i = 64 := by omega
     have HF := Lib.hid (show Blk wr H1 (u8s (l.drop 4)) 26 by
      have := HB6.out
      rw [fillB_full HL4.out (zero8_length 64)] at this
      exact this)
     clear hge hi
     go_wp2_with (first
      | (refine wpList_load_blk (cs := u8s (l.drop 4)) rfl 26 (.tmp 4) rfl rfl HF.out agg26 (info26s HL4.out) ?_)
      | (refine wpList_store_blk (cs := u8s (l.drop 4)) rfl 26 (.tmp 2) (.tmp 45) rfl rfl rfl rfl HBB.out (u8s_same (l := zero8 64) (m := l.drop 4) HLZ.out.symm) (info26s HL4.out) (u8s_one _) ?_; intro w3 hb3 ho3; have HB3 := Lib.hid hb3; have HO3 := Lib.hid (HO.out.then ho3 (fun i hi e => by omega)); clear hb3 ho3))
     refine bodyPost_ret (ret_cell_tmp rfl rfl HB3.out agg26 (info26s HL4.out)) rfl ?_
     exact HD.out _ HO3.out
  ·have hk := mark_no (l := l) (fun hh => hm (by
    obtain ⟨_, a0, a1, a2, a3⟩ := hh
    rw [e0] at a0; rw [e1] at a1; rw [e2] at a2; rw [e3] at a3
    simp only [Option.some.injEq] at a0 a1 a2 a3
    exact ⟨a0, a1, a2, a3⟩))
   have HD := Lib.hid (show ∀ w', Only (fun _ => False) w w' → UnmAt l w (.returned (.tuple #[.agg (u8s (zero8 64)).toArray, .int .i64 5])) w' from fun w' ho => ⟨ho, by unfold sigB; rw [hk]; rfl⟩)
   have hne : ∀ (x : UInt8) (n : Nat), n < 256 → x ≠ n.toUInt8 → ((x.toNat : Int) != (n : Int)) = true := by
    intro x n hn hx
    simp
    intro e
    exact hx (UInt8.toNat_inj.1 (by simp; omega))
   have hcase : x0 ≠ 8 ∨ (x0 = 8 ∧ x1 ≠ 7) ∨ (x0 = 8 ∧ x1 = 7 ∧ x2 ≠ 0) ∨ (x0 = 8 ∧ x1 = 7 ∧ x2 = 0 ∧ x3 ≠ 64) := by
    by_cases h0 : x0 = 8
    ·by_cases h1 : x1 = 7
     ·by_cases h2 : x2 = 0
      ·exact .inr (.inr (.inr ⟨h0, h1, h2, fun h3 => hm ⟨h0, h1, h2, h3⟩⟩))
      ·exact .inr (.inr (.inl ⟨h0, h1, h2⟩))
     ·exact .inr (.inl ⟨h0, h1⟩)
    ·exact .inl h0
   clear hB cel get e0 e1 e2 e3 hk q hm
   rw [h]
   clear h
   rcases hcase with a | ⟨rfl, a⟩ | ⟨rfl, rfl, a⟩ | ⟨rfl, rfl, rfl, a⟩
   ·have q0 : ((x0.toNat : Int) != 8) = true := by simpa using hne x0 8 (by decide) a
    have q0z : ¬ (x0.toNat : Int) = 8 := by simpa using q0
    clear a hne
    go_enter Tryz.func36, Tryz.ntmps36
    go_wp2_with (first
     | (refine wpList_alloc_blk rfl 26 2 rfl rfl zero26 ?_; intro w1 hb1 ho1 hs1; have HB1 := Lib.hid hb1; have HO1 := Lib.hid ho1; have HS1 := Lib.hid hs1; clear hb1 ho1 hs1)
     | (refine wpList_alloc_blk rfl 26 4 rfl rfl zero26 ?_; intro w2 hb2 ho2 hs2; have HB2 := Lib.hid hb2; have HB1' := Lib.hid (HB1.out.only ho2 id); have ho9 := HO1.out.trans ho2; have k0 := ho9.cell C0.out id; have k1 := ho9.cell C1.out id; have k2 := ho9.cell C2.out id; have k3 := ho9.cell C3.out id; have HO2 := Lib.hid ho9; clear hb2 ho2 hs2 ho9)
     | (refine wpList_load_blk (cs := u8s (zero8 64)) rfl 26 (.tmp 4) rfl rfl HB2.out agg26 (info26s (zero8_length 64)) ?_)
     | (refine wpList_store_blk (cs := u8s (zero8 64)) rfl 26 (.tmp 2) (.tmp 33) rfl rfl rfl rfl HB1'.out rfl (info26s (zero8_length 64)) (u8s_one _) ?_; intro w3 hb3 ho3; have HB3 := Lib.hid hb3; have HO3 := Lib.hid (HO2.out.then ho3 (fun i hi e => by omega)); clear hb3 ho3))
    refine bodyPost_ret (ret_cell_tmp rfl rfl HB3.out agg26 (info26s (zero8_length 64))) rfl ?_
    exact HD.out _ HO3.out
   ·have q1 : ((x1.toNat : Int) != 7) = true := by simpa using hne x1 7 (by decide) a
    have q1z : ¬ (x1.toNat : Int) = 7 := by simpa using q1
    clear a hne
    go_enter Tryz.func36, Tryz.ntmps36
    go_wp2_with (first
     | (refine wpList_alloc_blk rfl 26 2 rfl rfl zero26 ?_; intro w1 hb1 ho1 hs1; have HB1 := Lib.hid hb1; have HO1 := Lib.hid ho1; have HS1 := Lib.hid hs1; clear hb1 ho1 hs1)
     | (refine wpList_alloc_blk rfl 26 4 rfl rfl zero26 ?_; intro w2 hb2 ho2 hs2; have HB2 := Lib.hid hb2; have HB1' := Lib.hid (HB1.out.only ho2 id); have ho9 := HO1.out.trans ho2; have k0 := ho9.cell C0.out id; have k1 := ho9.cell C1.out id; have k2 := ho9.cell C2.out id; have k3 := ho9.cell C3.out id; have HO2 := Lib.hid ho9; clear hb2 ho2 hs2 ho9)
     | (refine wpList_load_blk (cs := u8s (zero8 64)) rfl 26 (.tmp 4) rfl rfl HB2.out agg26 (info26s (zero8_length 64)) ?_)
     | (refine wpList_store_blk (cs := u8s (zero8 64)) rfl 26 (.tmp 2) (.tmp 33) rfl rfl rfl rfl HB1'.out rfl (info26s (zero8_length 64)) (u8s_one _) ?_; intro w3 hb3 ho3; have HB3 := Lib.hid hb3; have HO3 := Lib.hid (HO2.out.then ho3 (fun i hi e => by omega)); clear hb3 ho3))
    refine bodyPost_ret (ret_cell_tmp rfl rfl HB3.out agg26 (info26s (zero8_length 64))) rfl ?_
    exact HD.out _ HO3.out
   ·have q2 : ((x2.toNat : Int) != 0) = true := by simpa using hne x2 0 (by decide) a
    have q2z : ¬ (x2.toNat : Int) = 0 := by simpa using q2
    clear a hne
    go_enter Tryz.func36, Tryz.ntmps36
    go_wp2_with (first
     | (refine wpList_alloc_blk rfl 26 2 rfl rfl zero26 ?_; intro w1 hb1 ho1 hs1; have HB1 := Lib.hid hb1; have HO1 := Lib.hid ho1; have HS1 := Lib.hid hs1; clear hb1 ho1 hs1)
     | (refine wpList_alloc_blk rfl 26 4 rfl rfl zero26 ?_; intro w2 hb2 ho2 hs2; have HB2 := Lib.hid hb2; have HB1' := Lib.hid (HB1.out.only ho2 id); have ho9 := HO1.out.trans ho2; have k0 := ho9.cell C0.out id; have k1 := ho9.cell C1.out id; have k2 := ho9.cell C2.out id; have k3 := ho9.cell C3.out id; have HO2 := Lib.hid ho9; clear hb2 ho2 hs2 ho9)
     | (refine wpList_load_blk (cs := u8s (zero8 64)) rfl 26 (.tmp 4) rfl rfl HB2.out agg26 (info26s (zero8_length 64)) ?_)
     | (refine wpList_store_blk (cs := u8s (zero8 64)) rfl 26 (.tmp 2) (.tmp 33) rfl rfl rfl rfl HB1'.out rfl (info26s (zero8_length 64)) (u8s_one _) ?_; intro w3 hb3 ho3; have HB3 := Lib.hid hb3; have HO3 := Lib.hid (HO2.out.then ho3 (fun i hi e => by omega)); clear hb3 ho3))
    refine bodyPost_ret (ret_cell_tmp rfl rfl HB3.out agg26 (info26s (zero8_length 64))) rfl ?_
    exact HD.out _ HO3.out
   ·have q3 : ((x3.toNat : Int) != 64) = true := by simpa using hne x3 64 (by decide) a
    have q3z : ¬ (x3.toNat : Int) = 64 := by simpa using q3
    clear a hne
    go_enter Tryz.func36, Tryz.ntmps36
    go_wp2_with (first
     | (refine wpList_alloc_blk rfl 26 2 rfl rfl zero26 ?_; intro w1 hb1 ho1 hs1; have HB1 := Lib.hid hb1; have HO1 := Lib.hid ho1; have HS1 := Lib.hid hs1; clear hb1 ho1 hs1)
     | (refine wpList_alloc_blk rfl 26 4 rfl rfl zero26 ?_; intro w2 hb2 ho2 hs2; have HB2 := Lib.hid hb2; have HB1' := Lib.hid (HB1.out.only ho2 id); have ho9 := HO1.out.trans ho2; have k0 := ho9.cell C0.out id; have k1 := ho9.cell C1.out id; have k2 := ho9.cell C2.out id; have k3 := ho9.cell C3.out id; have HO2 := Lib.hid ho9; clear hb2 ho2 hs2 ho9)
     | (refine wpList_load_blk (cs := u8s (zero8 64)) rfl 26 (.tmp 4) rfl rfl HB2.out agg26 (info26s (zero8_length 64)) ?_)
     | (refine wpList_store_blk (cs := u8s (zero8 64)) rfl 26 (.tmp 2) (.tmp 33) rfl rfl rfl rfl HB1'.out rfl (info26s (zero8_length 64)) (u8s_one _) ?_; intro w3 hb3 ho3; have HB3 := Lib.hid hb3; have HO3 := Lib.hid (HO2.out.then ho3 (fun i hi e => by omega)); clear hb3 ho3))
    refine bodyPost_ret (ret_cell_tmp rfl rfl HB3.out agg26 (info26s (zero8_length 64))) rfl ?_
    exact HD.out _ HO3.out
 ·have hk := mark_no (l := l) (fun hh => h hh.1)
  have HD := Lib.hid (show ∀ w', Only (fun _ => False) w w' → UnmAt l w (.returned (.tuple #[.agg (u8s (zero8 64)).toArray, .int .i64 5])) w' from fun w' ho => ⟨ho, by unfold sigB; rw [hk]; rfl⟩)
  have q : ((l.length : Int) != 68) = true := by simp; omega
  have qz : ¬ (l.length : Int) = 68 := by omega
  clear hB h hk
  generalize l.length = m at q qz ⊢
  go_enter Tryz.func36, Tryz.ntmps36
  go_wp2_with (first
   | (refine wpList_alloc_blk rfl 26 2 rfl rfl zero26 ?_; intro w1 hb1 ho1 hs1; have HB1 := Lib.hid hb1; have HO1 := Lib.hid ho1; have HS1 := Lib.hid hs1; clear hb1 ho1 hs1)
   | (refine wpList_alloc_blk rfl 26 4 rfl rfl zero26 ?_; intro w2 hb2 ho2 hs2; have HB2 := Lib.hid hb2; have HB1' := Lib.hid (HB1.out.only ho2 id); have ho9 := HO1.out.trans ho2;  have HO2 := Lib.hid ho9; clear hb2 ho2 hs2 ho9)
   | (refine wpList_load_blk (cs := u8s (zero8 64)) rfl 26 (.tmp 4) rfl rfl HB2.out agg26 (info26s (zero8_length 64)) ?_)
   | (refine wpList_store_blk (cs := u8s (zero8 64)) rfl 26 (.tmp 2) (.tmp 33) rfl rfl rfl rfl HB1'.out rfl (info26s (zero8_length 64)) (u8s_one _) ?_; intro w3 hb3 ho3; have HB3 := Lib.hid hb3; have HO3 := Lib.hid (HO2.out.then ho3 (fun i hi e => by omega)); clear hb3 ho3))
  refine bodyPost_ret (ret_cell_tmp rfl rfl HB3.out agg26 (info26s (zero8_length 64))) rfl ?_
  exact HD.out _ HO3.out
theorem digOk_eq (x : JV) : digOk (rawB x) (okB x.kind x.str) = okH' x := by
 unfold digOk okH' okH rawB
 by_cases h : x.kind = 4
 ·rw [if_pos h]
 ·rw [if_neg h]
  unfold okB
  rw [decide_eq_false h]; rfl
theorem digR_eq {x : JV} (h : okH' x = true) : digR (rawB x) (okB x.kind x.str) = elH x := by
 have h2 := h
 rw [← digOk_eq] at h
 unfold digR
 rw [if_pos h]
 unfold okH' okH okB at h2
 simp only [Bool.and_eq_true, decide_eq_true_eq] at h2
 unfold rawB elH elB digB
 rw [if_pos h2.1.1, if_pos h2.2]
def dsOk (v : JV) (k : Bytes) : Bool := okK v k 5 && !eachBad okH' ((getB v k).getD JV0).list
def dsL (v : JV) (k : Bytes) : List Bytes := if dsOk v k = true then ((getB v k).getD JV0).list.map elH else []
def DDig (v : JV) (k : Bytes) (w : World) (e : Ending) (w' : World) : Prop :=
 Only (fun _ => False) w w' ∧ ∃ rv, e = .returned (.tuple #[rv, .bool (dsOk v k)]) ∧ RowOwn ED 32 24 w.heap.size w' rv (dsL v k)
theorem DDig.no {v : JV} {k : Bytes} {w w' : World} (h : dsOk v k = false) (ho : Only (fun _ => False) w w') : DDig v k w (.returned (.tuple #[.slice none 0 0, .bool false])) w' := by
 refine ⟨ho, .slice none 0 0, by rw [h], ?_⟩
 unfold dsL
 rw [if_neg (by rw [h]; simp)]
 exact RowOwn.nil _ _ _
theorem DDig.yes {v : JV} {k : Bytes} {w w' : World} {rv : Value} (h : dsOk v k = true) (ho : Only (fun _ => False) w w') (hr : RowOwn ED 32 24 w.heap.size w' rv (((getB v k).getD JV0).list.map elH)) : DDig v k w (.returned (.tuple #[rv, .bool true])) w' := by
 refine ⟨ho, rv, by rw [h], ?_⟩
 unfold dsL
 rw [if_pos h]
 exact hr
theorem dsOk_bad {v : JV} {k : Bytes} {j : Nat} {x : JV} (hx : ((getB v k).getD JV0).list[j]? = some x) (hb : okH' x = false) : dsOk v k = false := by
 unfold dsOk eachBad
 rw [show (((getB v k).getD JV0).list.any fun u => !okH' u) = true from List.any_eq_true.2 ⟨x, List.mem_of_getElem? hx, by simp [hb]⟩]
 simp
set_option maxRecDepth 100000 in
set_option maxHeartbeats 3200000 in
theorem digests_doc {X : Nat → Prop} {v : JV} {cs : List Value} {k : Bytes} {w : World} (hJ : JIs X w v cs) (hn : v.keys.length ≤ 3000000) (hn2 : v.list.length ≤ 3000000)
  (hn3 : ((getB v k).getD JV0).list.length ≤ 3000000) (hs : ∀ x ∈ ((getB v k).getD JV0).list, x.str.length ≤ 3000000) : Calls Tryz.prog 42 #[.agg cs.toArray, txt k] w (DDig v k w) := by
 have HJ := Lib.hid (fun o => list_doc (k := k) (hJ.keep ((Only.refl _ w).alloc o)) hn hn2)
 obtain ⟨A, c, B, d, rfl⟩ := hJ.form
 have HOKE := Lib.hid (show dsOk v k = (okK v k 5 && !eachBad okH' ((getB v k).getD JV0).list) from rfl)
 have HNO := Lib.hid (fun (h : dsOk v k = false) w' (ho : Only (fun _ => False) w w') => DDig.no (k := k) h ho)
 have HYES := Lib.hid (fun (h : dsOk v k = true) w' (ho : Only (fun _ => False) w w') rv hr => DDig.yes (k := k) (rv := rv) (w' := w') h ho hr)
 have HBAD := Lib.hid (fun j x => @dsOk_bad v k j x)
 obtain ⟨aa, haa⟩ : ∃ q, q = okK v k 5 := ⟨_, rfl⟩
 have HAA := Lib.hid haa
 have HNL := Lib.hid hn3
 have HS := Lib.hid hs
 obtain ⟨L, hL⟩ : ∃ L, L = ((getB v k).getD JV0).list := ⟨_, rfl⟩
 have HLL := Lib.hid hL
 have hlz : (L.length : Int) ≤ 3000000 := by rw [hL]; omega
 clear hJ hn hn2 hn3 hs haa
 unfold cells5 txt at *
 cases aa with
 | false =>
  have HF := Lib.hid (show dsOk v k = false by rw [HOKE.out, ← HAA.out]; rfl)
  clear hlz hL
  go_enter Tryz.func42, Tryz.ntmps42
  go_wp2_with (go_at_call 46; refine (HJ.out _).mono ?_; rintro e w2 ⟨ho2, A2, c2, rfl, hl2⟩; rw [← HAA.out]; have HO2 := Lib.hid (((Only.refl _ w).alloc _).trans ho2); clear ho2 hl2)
  go_ret2
  exact HNO.out HF.out _ HO2.out
 | true =>
  clear hL
  go_enter Tryz.func42, Tryz.ntmps42
  go_wp2_with (go_at_call 46; refine (HJ.out _).mono ?_; rintro e w2 ⟨ho2, A2, c2, rfl, hl2⟩; rw [← HAA.out]; rw [← HLL.out] at hl2 ⊢; have HO2 := Lib.hid (((Only.refl _ w).alloc _).trans ho2); have HL2 := Lib.hid hl2; clear ho2 hl2)
  go_loopw [8, 9] (fun s8 s9 wr => ∃ j : Nat, j ≤ L.length ∧ s9 = .int .i64 (j : Int) ∧ eachBad okH' (L.take j) = false ∧ RowOwn ED 32 24 w2.heap.size wr s8 ((L.take j).map elH) ∧ Only (fun _ => False) w2 wr) (fun _ i _ => L.length - (intOf i).toNat)
  case atStart => exact ⟨0, by omega, rfl, rfl, RowOwn.nil _ _ _, Only.refl _ _⟩
  case round =>
   obtain ⟨j, hj, rfl, hbad, hrow, ho⟩ := hrel
   have HB := Lib.hid hbad
   have HROW := Lib.hid hrow
   have HO := Lib.hid ho
   clear hbad hrow ho
   rcases Nat.lt_or_ge j L.length with hlt | hge
   ·have q : decide ((j : Int) < (L.length : Int)) = true := by simp; omega
    have hjz : (j : Int) < (L.length : Int) := by omega
    obtain ⟨x, hx⟩ : ∃ x, L[j]? = some x := ⟨L[j], List.getElem?_eq_getElem hlt⟩
    obtain ⟨A3, c3, B3, d3, hjx, hlx⟩ := HL2.out j x hx
    obtain ⟨bA, oA, rfl, hXA, hcA⟩ := hlx
    have HRG := Lib.hid (show wr.rangeAt bA (oA + j * 5) (cells5 x.kind x.str x.num (.slice A3 x.list.length c3) (.slice B3 x.keys.length d3)) from fun i y hy => by
     have := HO.out.cell (hcA i y hy) id
     rw [Nat.add_assoc, Nat.mul_comm j 5]; exact this)
    have HJX := Lib.hid (hjx.keep HO.out)
    have HSX := Lib.hid (HS.out x (by rw [← HLL.out]; exact List.mem_of_getElem? hx))
    have HLT := Lib.hid hlt
    have HX := Lib.hid hx
    have HJN := Lib.hid (show ((L.take j).map elH).length = j by rw [List.length_map, List.length_take]; omega)
    obtain ⟨ob, hob⟩ : ∃ q, q = okH' x := ⟨_, rfl⟩
    have HOB := Lib.hid hob
    clear hx hjx hcA hXA hlt hob
    cases ob with
    | false =>
     have HF := Lib.hid (HBAD.out j x (by rw [← HLL.out]; exact HX.out) HOB.out.symm)
     go_wp2_with (first
      | (refine load85 rfl (.tmp 30) rfl rfl HRG.out rfl ?_)
      | (go_at_call 71; refine (raw_doc HJX.out HSX.out).mono ?_; rintro e w4 ⟨ho4, A4, c4, hf4, rfl⟩; have HF4 := Lib.hid hf4; have HO4 := Lib.hid ho4; clear ho4 hf4)
      | (go_at_call 35; refine (digest_doc HF4.out.1).mono ?_; rintro e w5 ⟨ho5, rfl⟩; rw [digOk_eq, ← HOB.out]; have HO5 := Lib.hid (HO4.out.trans ho5); clear ho5)
      | (refine wpList_alloc_blk rfl 24 12 rfl rfl zero24 ?_; intro w6 hb6 ho6 hs6; have HB6 := Lib.hid hb6; have HO6 := Lib.hid (HO5.out.trans ho6); have HS6 := Lib.hid hs6; clear hb6 ho6 hs6)
      | (refine wpList_store_blk (cs := u8s (digR (rawB x) (okB x.kind x.str))) rfl 24 (.tmp 12) (.tmp 39) rfl rfl rfl rfl HB6.out (u8s_same (l := zero8 32) (by rw [zero8_length, digR_len])) (info24s (digR_len _ _)) (u8s_one _) ?_; intro w7 hb7 ho7; have HO7 := Lib.hid (HO6.out.then ho7 (fun i hi e => by have := HO5.out.size; omega)); clear hb7 ho7))
     go_ret2
     exact HNO.out HF.out _ ((HO2.out.trans HO.out).trans HO7.out)
    | true =>
     go_wp2_with (first
      | (refine load85 rfl (.tmp 30) rfl rfl HRG.out rfl ?_)
      | (go_at_call 71; refine (raw_doc HJX.out HSX.out).mono ?_; rintro e w4 ⟨ho4, A4, c4, hf4, rfl⟩; have HF4 := Lib.hid hf4; have HO4 := Lib.hid ho4; clear ho4 hf4)
      | (go_at_call 35; refine (digest_doc HF4.out.1).mono ?_; rintro e w5 ⟨ho5, rfl⟩; rw [digOk_eq, ← HOB.out, digR_eq HOB.out.symm]; have HO5 := Lib.hid (HO4.out.trans ho5); clear ho5)
      | (refine wpList_alloc_blk rfl 24 12 rfl rfl zero24 ?_; intro w6 hb6 ho6 hs6; have HB6 := Lib.hid hb6; have HO6 := Lib.hid (HO5.out.trans ho6); have HS6 := Lib.hid hs6; clear hb6 ho6 hs6)
      | (refine wpList_store_blk (cs := u8s (elH x)) rfl 24 (.tmp 12) (.tmp 39) rfl rfl rfl rfl HB6.out (u8s_same (l := zero8 32) (by rw [zero8_length]; exact (digB_length _).symm)) (info24s (digB_length _)) (u8s_one _) ?_; intro w7 hb7 ho7; have HB7 := Lib.hid hb7; have HO7 := Lib.hid (HO6.out.then ho7 (fun i hi e => by have := HO5.out.size; omega)); clear hb7 ho7)
      | (refine wpList_load_blk (cs := u8s (elH x)) rfl 24 (.tmp 12) rfl rfl HB7.out agg24 (info24s (digB_length _)) ?_)
      | (refine wpList_slice1 (cs := u8s (elH x)) rfl 40 24 (.tmp 44) rfl under40 info24e rfl (by decide) (by decide) (by rw [u8s_length]; exact digB_length _) rfl ?_)
      | (refine stop_append (t := 40) rfl ?_))
     refine ⟨?_⟩
     obtain ⟨xs, hown, hrow⟩ := HROW.out
     refine wpList_appendE rfl (.tmp 43) (.tmp 45) 40 rfl under40 info24e rfl (by decide) (by decide) rfl (own_only hown (HO7.out.alloc _) (fun _ _ h => h)) rfl (Blk.new w7 (u8s (elH x)) 24) (by rw [u8s_length]; exact digB_length _) (u8s_one _) (by have := HJN.out; have := HLT.out; omega) (Nat.le_trans HO.out.size (Nat.le_trans HO7.out.size (by simp))) ?_
     intro gg cap w8 hown8 hgr hor
     have HOWN := Lib.hid hown
     have HXS := Lib.hid hrow
     have HOWN8 := Lib.hid hown8
     have HGR := Lib.hid hgr
     have HOR := Lib.hid hor
     clear hown hrow hown8 hgr hor
     go_wp2
     go_roundw
     case rel =>
      have hlt8 : ∀ b, u8.ownBlock = some b → w2.heap.size ≤ b ∧ b < wr.heap.size := fun b hb => World.ownsRow.lt HOWN.out b hb
      refine ⟨j + 1, by have := HLT.out; omega, by push_cast; rfl, ?_, ?_, ?_⟩
      ·rw [take_snoc HX.out, eachBad_snoc, HB.out, ← HOB.out]; rfl
      ·have hrow8 := HOWN8.out
       rw [take_snoc HX.out, List.map_append, List.map_cons, List.map_nil]
       have hs := RowOwn.snoc (a := elH x) encD (HXS.out.only encD (HO7.out.alloc _) (fun b hb hy => ⟨id, hy⟩)) ⟨rfl, digB_length _⟩ hrow8 HGR.out rfl HOR.out
       rw [HJN.out] at hs
       exact hs
      ·refine (HO.out.trans HO7.out).then (((Only.refl (fun _ => False) w7).alloc _).mono (fun _ _ h => h.elim) |>.then (Only.ofGrown HGR.out) (fun i _ h => h)) (fun i hi h => ?_)
       have := (hlt8 i h).1
       omega
     case measure => have := HLT.out; simp [intOf]; omega
   ·have q : decide ((j : Int) < (L.length : Int)) = false := by simp; omega
    have qz : ¬ (j : Int) < (L.length : Int) := by omega
    obtain rfl : j = L.length := by omega
    have HT := Lib.hid (show dsOk v k = true by
     have := HB.out
     rw [List.take_of_length_le (Nat.le_refl _)] at this
     rw [HOKE.out, ← HAA.out, ← HLL.out, this]; rfl)
    have hrow := HROW.out
    rw [List.take_of_length_le (Nat.le_refl _)] at hrow
    have HR2 := Lib.hid hrow
    clear hrow hge hj
    go_wp2
    go_ret2
    refine HYES.out HT.out _ (HO2.out.trans HO.out) _ ?_
    rw [← HLL.out]
    exact HR2.out.mono encD HO2.out.size
theorem badG_not {v : JV} {k : Bytes} {kd : Nat} (h : k ∉ v.keys) : badG v k kd = true := by
 unfold badG getB
 split
 ·rfl
 ·rename_i u hu
  split at hu
  ·rw [idxK_not h] at hu; cases hu
  ·cases hu
theorem badN_rest {v : JV} {ns : List Bytes} {rest : Bool} (h : ∀ n ∈ ns, n ∉ v.keys → rest = true) : (badN v (bad0 v ns) ns || rest) = (!hasV v ns.length || rest) := by
 have e0 : bad0 v ns = !hasV v ns.length := by
  unfold bad0 hasV
  by_cases h1 : v.kind = 6 <;> by_cases h2 : v.keys.length = ns.length <;> simp [h1, h2]
 unfold badN
 rw [e0]
 cases hr : rest with
 | true => simp
 | false =>
  have hn : ns.any (fun n => !decide (n ∈ v.keys)) = false := by
   rw [List.any_eq_false]
   intro n hn hc
   have := h n hn (by simpa using hc)
   rw [hr] at this; cases this
  rw [hn]; simp
def docBad (l : Bytes) (n : Nat) : Bool := (parseM l).isNone || !hasV (pV l) n
theorem pBad_rest {l : Bytes} {ns : List Bytes} {rest : Bool} (h : ∀ n ∈ ns, n ∉ (pV l).keys → rest = true) : (pBad l ns || rest) = (docBad l ns.length || rest) := by
 unfold pBad docBad
 cases hp : parseM l with
 | none => rfl
 | some v =>
  have hv : pV l = v := by unfold pV; rw [hp]; rfl
  rw [hv] at h ⊢
  simpa using badN_rest h
theorem okM_eq (v : JV) (k : Bytes) : okM v k = !(badG v k 4 || (bytesB v k).isNone) := by
 unfold okM okB badG bytesB
 cases getB v k with
 | none => rfl
 | some u =>
  simp only [Option.getD_some]
  by_cases h : u.kind = 4 <;> simp [h] <;> cases take64 u.str <;> rfl
theorem okM_not {v : JV} {k : Bytes} {b : Bool} (h : okM v k = b) : (badG v k 4 || (bytesB v k).isNone) = !b := by
 have := okM_eq v k
 rw [h] at this
 rw [this, Bool.not_not]
theorem memB_eq {v : JV} {k : Bytes} (h : okM v k = true) : memB v k = (bytesB v k).getD [] := by
 unfold okM okB at h
 simp only [Bool.and_eq_true, decide_eq_true_eq] at h
 unfold memB rawB bytesB
 rw [if_pos h.1]
theorem badCons_eq (l : Bytes) (k : Bytes) : badL l [k] k okH' = (docBad l 1 || !dsOk (pV l) k) := by
 unfold badL
 rw [Bool.or_assoc, pBad_rest (l := l) (ns := [k]) (rest := badG (pV l) k 5 || eachBad okH' ((getB (pV l) k).getD JV0).list)]
 ·unfold dsOk
  rw [okK_eq]
  simp
 ·intro n hn hk
  simp only [List.mem_singleton] at hn
  subst hn
  rw [badG_not hk]; rfl
theorem badE_eq (l : Bytes) : badE l = (docBad l 1 || !okK (pV l) nErr 3 || decide (2147483647 < numL l nErr)) := by
 unfold badE
 rw [Bool.or_assoc, pBad_rest (l := l) (ns := [nErr])]
 ·rw [okK_eq]; simp [Bool.or_assoc]
 ·intro n hn hk
  simp only [List.mem_singleton] at hn
  subst hn
  rw [badG_not hk]; rfl
theorem badP_eq (l : Bytes) : badP l = (docBad l 2 || !okK (pV l) nIdx 3 || !dsOk (pV l) nPath) := by
 unfold badP
 rw [Bool.or_assoc, Bool.or_assoc, pBad_rest (l := l) (ns := [nIdx, nPath])]
 ·unfold dsOk
  rw [okK_eq, okK_eq]; simp [Bool.or_assoc]
 ·intro n hn hk
  simp only [List.mem_cons, List.not_mem_nil, or_false] at hn
  rcases hn with rfl | rfl <;> rw [badG_not hk] <;> simp
def docHd (l : Bytes) : Bool := docBad l 4 || !okK (pV l) nSize 3 || !okK (pV l) nTime 3 || !digOk (memB (pV l) nRoot) (okM (pV l) nRoot) || !okM (pV l) nHsig || !markB (memB (pV l) nHsig)
theorem digOk_mem (v : JV) (k : Bytes) : digOk (memB v k) (okM v k) = !(badG v k 4 || (bytesB v k).isNone || !decide (((bytesB v k).getD []).length = 32)) := by
 unfold digOk
 cases h : okM v k with
 | true =>
  rw [memB_eq h]
  have h2 : (badG v k 4 || (bytesB v k).isNone) = false := okM_not h
  rw [h2]; simp
 | false =>
  have h2 : (badG v k 4 || (bytesB v k).isNone) = true := okM_not h
  rw [h2]; simp
theorem sig_mem (v : JV) (k : Bytes) : (!okM v k || !markB (memB v k)) = (badG v k 4 || (bytesB v k).isNone || !markB ((bytesB v k).getD [])) := by
 cases h : okM v k with
 | true =>
  rw [memB_eq h]
  have h2 : (badG v k 4 || (bytesB v k).isNone) = false := okM_not h
  rw [h2]; simp
 | false =>
  have h2 : (badG v k 4 || (bytesB v k).isNone) = true := okM_not h
  rw [h2]; simp
theorem ext_mem (v : JV) (k : Bytes) : (!okM v k || decide (0 < (memB v k).length)) = (badG v k 4 || (bytesB v k).isNone || decide (0 < ((bytesB v k).getD []).length)) := by
 cases h : okM v k with
 | true =>
  rw [memB_eq h]
  have h2 : (badG v k 4 || (bytesB v k).isNone) = false := okM_not h
  rw [h2]; simp
 | false =>
  have h2 : (badG v k 4 || (bytesB v k).isNone) = true := okM_not h
  rw [h2]; simp
theorem badHd_eq (l : Bytes) : badHd l = docHd l := by
 have e1 : badHd l = (pBad l [nSize, nTime, nRoot, nHsig] || (badG (pV l) nSize 3 || (badG (pV l) nTime 3 || ((badG (pV l) nRoot 4 || (bytesB (pV l) nRoot).isNone || !decide (((bytesB (pV l) nRoot).getD []).length = 32)) || (badG (pV l) nHsig 4 || (bytesB (pV l) nHsig).isNone || !markB ((bytesB (pV l) nHsig).getD [])))))) := by
  unfold badHd
  simp only [Bool.or_assoc]
 rw [e1, pBad_rest]
 ·unfold docHd
  rw [← sig_mem, okK_eq, okK_eq, digOk_mem]
  simp only [List.length_cons, List.length_nil, Bool.not_not, Bool.or_assoc]
 ·intro n hn hk
  simp only [List.mem_cons, List.not_mem_nil, or_false] at hn
  rcases hn with rfl | rfl | rfl | rfl <;> rw [badG_not hk] <;> simp
def docSct (l : Bytes) : Bool := docBad l 5 || !okK (pV l) nVer 3 || !digOk (memB (pV l) nId) (okM (pV l) nId) || !okK (pV l) nTime 3 || !okM (pV l) nExt || !okM (pV l) nSig || decide (numL l nVer ≠ 0) || decide (0 < (memB (pV l) nExt).length) || !markB (memB (pV l) nSig)
theorem badSct_eq (l : Bytes) : badSct l = docSct l := by
 have e1 : badSct l = (pBad l [nVer, nId, nTime, nExt, nSig] || ((badG (pV l) nId 4 || (bytesB (pV l) nId).isNone || !decide (((bytesB (pV l) nId).getD []).length = 32)) || (badG (pV l) nTime 3 || ((badG (pV l) nSig 4 || (bytesB (pV l) nSig).isNone || !markB ((bytesB (pV l) nSig).getD [])) ||
   (badG (pV l) nVer 3 || (decide (numL l nVer ≠ 0) || (badG (pV l) nExt 4 || (bytesB (pV l) nExt).isNone || decide (0 < ((bytesB (pV l) nExt).getD []).length)))))))) := by
  unfold badSct bad3 bsL
  simp only [Bool.or_assoc]
 rw [e1, pBad_rest]
 ·unfold docSct
  rw [← sig_mem, ← ext_mem, okK_eq, okK_eq, digOk_mem]
  simp only [List.length_cons, List.length_nil, Bool.not_not]
  generalize docBad l (0 + 1 + 1 + 1 + 1 + 1) = x0
  generalize (badG (pV l) nId 4 || (bytesB (pV l) nId).isNone || !decide (((bytesB (pV l) nId).getD []).length = 32)) = x1
  generalize badG (pV l) nTime 3 = x2
  generalize okM (pV l) nSig = x3
  generalize markB (memB (pV l) nSig) = x4
  generalize badG (pV l) nVer 3 = x5
  generalize decide (numL l nVer ≠ 0) = x6
  generalize okM (pV l) nExt = x7
  generalize decide (0 < (memB (pV l) nExt).length) = x8
  revert x0 x1 x2 x3 x4 x5 x6 x7 x8
  decide
 ·intro n hn hk
  simp only [List.mem_cons, List.not_mem_nil, or_false] at hn
  rcases hn with rfl | rfl | rfl | rfl | rfl <;> rw [badG_not hk] <;> simp
end Go.Proofs.YtjehnejgojgahaaGreatDoor
