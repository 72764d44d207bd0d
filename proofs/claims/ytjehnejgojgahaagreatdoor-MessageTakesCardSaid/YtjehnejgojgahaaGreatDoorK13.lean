/-
  A part of the proof of MessageTakes: the texts P11 T0 T2 T3 T4.
-/
import Derived.Test.YtjehnejgojgahaaGreatDoorK03
import Derived.Test.YtjehnejgojgahaaGreatDoorK11
import Derived.Test.YtjehnejgojgahaaGreatDoorK12
namespace Go.Proofs.YtjehnejgojgahaaGreatDoor
open Go.RowKit
set_option linter.unusedVariables false
set_option linter.unusedSimpArgs false
theorem PStk.nil (B : Nat) (w : World) : PStk B w [] (.slice none 0 0) :=
 ⟨World.ownsRow_nil _ _ _ _, fun t h => by simp at h, fun t h => by simp at h, fun t h => by simp at h, by simp [blocksOf, blkOf, Value.ownBlock], fun t h => by simp at h⟩
theorem pmid_start {A : Option Addr} {c : Nat} {l : Bytes} {w : World} (hB : BytesAt w A l) (hcap : l.length ≤ c) (hA : ∀ b o, A = some ⟨b, o, none⟩ → b < w.heap.size) (hlen : l.length ≤ 1048576) :
  PMid w A c l 0 l [] (.slice none 0 0) [.int .i64 0, .string ⟨#[]⟩, .int .u64 0, .slice none 0 0, .slice none 0 0]
   (((w.alloc (.cells #[.int .i64 0, .string ⟨#[]⟩, .int .u64 0, .slice none 0 0, .slice none 0 0] 79)).alloc (.cells #[.slice A l.length c, .int .i64 0] 158)).alloc (.cells #[.int .i64 0, .string ⟨#[]⟩, .int .u64 0, .slice none 0 0, .slice none 0 0] 79)) := by
 have o1 : Only (fun _ => False) w (w.alloc (.cells #[.int .i64 0, .string ⟨#[]⟩, .int .u64 0, .slice none 0 0, .slice none 0 0] 79)) := (Only.refl _ _).alloc _
 have o2 := o1.alloc (.cells #[.slice A l.length c, .int .i64 0] 158)
 have o3 := o2.alloc (.cells #[.int .i64 0, .string ⟨#[]⟩, .int .u64 0, .slice none 0 0, .slice none 0 0] 79)
 have s1 : (w.alloc (.cells #[.int .i64 0, .string ⟨#[]⟩, .int .u64 0, .slice none 0 0, .slice none 0 0] 79)).heap.size = w.heap.size + 1 := by simp
 have s2 : ((w.alloc (.cells #[.int .i64 0, .string ⟨#[]⟩, .int .u64 0, .slice none 0 0, .slice none 0 0] 79)).alloc (.cells #[.slice A l.length c, .int .i64 0] 158)).heap.size = w.heap.size + 2 := by simp
 refine ⟨⟨0, ⟨?_, hB.only o3 (fun _ _ _ => id), fun b o e => by have := hA b o e; omega, Nat.zero_le _, hlen, hcap⟩, rfl⟩, ?_, ?_, rfl, PStk.nil _ _, o3, fun b o e _ => hA b o e, by simp, fun t h => by simp at h⟩
 ·have := ((Blk.new (w.alloc (.cells #[.int .i64 0, .string ⟨#[]⟩, .int .u64 0, .slice none 0 0, .slice none 0 0] 79)) [.slice A l.length c, .int .i64 0] 158).alloc (.cells #[.int .i64 0, .string ⟨#[]⟩, .int .u64 0, .slice none 0 0, .slice none 0 0] 79))
  rw [s1] at this
  exact this
 ·exact ((Blk.new w [.int .i64 0, .string ⟨#[]⟩, .int .u64 0, .slice none 0 0, .slice none 0 0] 79).alloc _).alloc _
 ·have := Blk.new ((w.alloc (.cells #[.int .i64 0, .string ⟨#[]⟩, .int .u64 0, .slice none 0 0, .slice none 0 0] 79)).alloc (.cells #[.slice A l.length c, .int .i64 0] 158)) [.int .i64 0, .string ⟨#[]⟩, .int .u64 0, .slice none 0 0, .slice none 0 0] 79
  rw [s2] at this
  exact this
set_option maxRecDepth 100000 in
set_option maxHeartbeats 1600000 in
theorem parse_any (hV : ValidSaid) {A : Option Addr} {c : Nat} {l : Bytes} {w : World} (hB : BytesAt w A l) (hcap : l.length ≤ c) (hA : ∀ b o, A = some ⟨b, o, none⟩ → b < w.heap.size) (hG : Gl w) (hlen : l.length ≤ 1048576) :
  Calls Tryz.prog 61 #[.slice A l.length c] w (ParseAt (parseD l) 5 w) := by
 have HB := Lib.hid hB
 have HA := Lib.hid hA
 have HG := Lib.hid hG
 have HV := Lib.hid hV
 clear hB hA hG hV
 go_enter Tryz.func61, Tryz.ntmps61
 go_wp2
 refine wp_scope_segs (J61 w A c l (parseD l)) (10 * l.length + 100) ?_ ?_
 ·intro fall
  have FALL := Lib.hid fall
  clear fall
  go_wp2_with (fail)
  go_step3
  rename_i hK
  refine hK _ _ ?_
  refine Seg.code (FALL.out 0 (10 * l.length + 9) _ _ (by omega) ?_) rfl
  refine ⟨rfl, rfl, rfl, rfl, rfl, rfl, l, [], _, pmid_start HB.out hcap HA.out hlen, rfl, rfl⟩
 ·intro n k a w' hJ fall
  match k, hJ with
  | 0, hJ => exact parse_value HV.out HG.out n a w' hJ fall
  | 1, hJ => exact parse_open n a w' hJ fall
  | 2, hJ => exact parse_bad n a w' hJ fall
  | 3, hJ => exact parse_behind n a w' hJ fall
  | 4, hJ => exact parse_shut n a w' hJ fall
  | 5, hJ => exact parse_member HV.out HG.out n a w' hJ fall
  | k + 6, hJ => exact hJ.2.2.2.2.2.2.elim
set_option maxRecDepth 100000 in
set_option maxHeartbeats 1600000 in
theorem parse_long {A : Option Addr} {c : Nat} {l : Bytes} {w : World} (hlen : 1048576 < l.length) : Calls Tryz.prog 61 #[.slice A l.length c] w (ParseAt none 3 w) := by
 have q : decide ((1048576 : Int) < (l.length : Int)) = true := by simp; omega
 go_enter Tryz.func61, Tryz.ntmps61
 go_wp2
 go_step3
 go_wp2_with (refine wpList_store_blk rfl 79 (.tmp 2) (.tmp 18) rfl rfl rfl rfl (((Blk.new w [.int .i64 0, .string ⟨#[]⟩, .int .u64 0, .slice none 0 0, .slice none 0 0] 79).alloc _).alloc _) rfl info79s rfl ?_; intro w2 hb2 ho2; have HB2 := Lib.hid hb2; have HO2 := Lib.hid ho2; clear hb2 ho2)
 try rw [Exit.noGoto_ret]
 refine bodyPost_ret (ret_cell_tmp rfl rfl HB2.out agg79 info79s) rfl ⟨?_, rfl⟩
 exact ((((Only.refl (fun _ => False) w).alloc _).alloc _).alloc _).then HO2.out (fun i hi e => by omega)
def TK (X : Nat → Prop) (w : World) (g : Nat) (v : JV) (bad : Bool) : Prop := ∃ cs, JIs X w v cs ∧ Blk w g (cs ++ [.bool bad]) 81
def StrsAt (w : World) (N : Option Addr) (ns : List Bytes) : Prop := ∀ i t, ns[i]? = some t → ∃ b o, N = some ⟨b, o, none⟩ ∧ w.cell? ⟨b, o + i, none⟩ = some (txt t)
def bad0 (v : JV) (ns : List Bytes) : Bool := decide (v.kind ≠ 6) || decide (v.keys.length ≠ ns.length)
def badN (v : JV) (b : Bool) (ns : List Bytes) : Bool := b || ns.any (fun n => !decide (n ∈ v.keys))
def TakeAt (X : Nat → Prop) (v : JV) (bad : Bool) (w : World) (e : Ending) (w' : World) : Prop :=
 Only (fun _ => False) w w' ∧ ∃ g, e = .returned (.pointer (some ⟨g, 0, none⟩)) ∧ w.heap.size ≤ g ∧ TK X w' g v bad
structure TakeMid (w : World) (H T : Nat) (cs : List Value) (b : Bool) (wx : World) : Prop where
 only : Only (fun _ => False) w wx
 val : Blk wx H cs 79
 blk : Blk wx T (cs ++ [.bool b]) 81
def TakeRel (w : World) (H T : Nat) (cs : List Value) (v : JV) (b0 : Bool) (ns : List Bytes) (gk : Nat) (s : Value) (wx : World) : Prop :=
 ∃ j : Nat, s = .int .i64 (j : Int) ∧ j ≤ ns.length ∧ ns.length - j < gk ∧ TakeMid w H T cs (badN v b0 (ns.take j)) wx
theorem badN_snoc (v : JV) (b : Bool) (ns : List Bytes) (t : Bytes) : badN v b (ns ++ [t]) = (badN v b ns || !decide (t ∈ v.keys)) := by
 unfold badN; simp [Bool.or_assoc]
theorem TakeMid.put {w wx : World} {H T : Nat} {cs : List Value} {b b' : Bool} (h : TakeMid w H T cs b wx) (h5 : cs.length = 5) (hT : w.heap.size ≤ T) (hHT : H ≠ T) : TakeMid w H T cs b' (wx.setCell ⟨T, 5, none⟩ (.bool b')) :=
 ⟨h.only.setCell (fun e => by simp at e; omega) _, h.val.far (by simpa using hHT) _, h.blk.set' 5 _ (by rw [List.set_append_right _ _ (by omega), h5]; rfl)⟩
set_option maxRecDepth 100000 in
set_option maxHeartbeats 1600000 in
theorem take_any {X : Nat → Prop} {v : JV} {cs : List Value} {w : World} {N : Option Addr} {c : Nat} {ns : List Bytes} (hj : JIs X w v cs) (hN : StrsAt w N ns) (hns : ns.length ≤ 1000)
  (hX : ∀ b, X b → b < w.heap.size) (hl : v.keys.length ≤ 3000000) :
  Calls Tryz.prog 62 #[.agg cs.toArray, .slice N ns.length c] w (TakeAt X v (badN v (bad0 v ns) ns) w) := by
 have HJ := Lib.hid hj
 have HN := Lib.hid hN
 have HX := Lib.hid hX
 cases hj with
 | @mk kd s n l ks A B ca d ce hjl h5 hc hk =>
  simp only [JV.keys] at hl
  have HK := Lib.hid hk
  clear hjl h5 hc hk hN hX
  unfold cells5
  have hb0 : bad0 (.mk kd s n l ks) ns = (((kd : Int) != 6) || ((ks.length : Int) != (ns.length : Int))) := by
   unfold bad0
   simp only [JV.kind, JV.keys]
   congr 1
   ·by_cases h : kd = 6
    ·simp [h]
    ·have : ¬ (kd : Int) = 6 := by omega
     simp [h, this]
   ·by_cases h : ks.length = ns.length
    ·simp [h]
    ·have : ¬ (ks.length : Int) = ns.length := by omega
     simp [h, this]
  generalize bad0 (.mk kd s n l ks) ns = b0 at hb0 ⊢
  have HB0 := Lib.hid hb0
  clear hb0
  go_enter Tryz.func62, Tryz.ntmps62
  have hB1 := (Blk.new (w.alloc (.cells #[.int .i64 kd, txt s, .int .u64 n, .slice A l.length ca, .slice B ks.length d] 79)) [.int .i64 kd, txt s, .int .u64 n, .slice A l.length ca, .slice B ks.length d, .bool b0] 81)
  rw [show (w.alloc (.cells #[.int .i64 kd, txt s, .int .u64 n, .slice A l.length ca, .slice B ks.length d] 79)).heap.size = w.heap.size + 1 by simp] at hB1
  have HB1 := Lib.hid hB1
  clear hB1
  have hB2 := ((Blk.new w [.int .i64 kd, txt s, .int .u64 n, .slice A l.length ca, .slice B ks.length d] 79).alloc (.cells #[.int .i64 kd, txt s, .int .u64 n, .slice A l.length ca, .slice B ks.length d, .bool b0] 81))
  have HB2 := Lib.hid hB2
  clear hB2
  have hO := ((Only.refl (fun _ => False) w).alloc (.cells #[.int .i64 kd, txt s, .int .u64 n, .slice A l.length ca, .slice B ks.length d] 79)).alloc (.cells #[.int .i64 kd, txt s, .int .u64 n, .slice A l.length ca, .slice B ks.length d, .bool b0] 81)
  have HO := Lib.hid hO
  clear hO
  have hnsz : (ns.length : Int) ≤ 1000 := by omega
  rcases Classical.em (kd = 6) with h6 | h6
  ·have q6 : ((kd : Int) != 6) = false := by simp [h6]
   obtain ⟨ql, hql⟩ : ∃ q, ((ks.length : Int) != (ns.length : Int)) = q := ⟨_, rfl⟩
   have hb := HB0.out
   rw [q6, hql, Bool.false_or] at hb
   subst hb
   clear HB0 h6
   go_upto_region 2 with fail
   refine wp_gen0 (fun W => TakeMid w w.heap.size (w.heap.size + 1) [.int .i64 kd, txt s, .int .u64 n, .slice A l.length ca, .slice B ks.length d] b0 W) (by exact ⟨HO.out, HB2.out, HB1.out⟩) ?_
   intro W1 hm1
   obtain ⟨T, hT⟩ : ∃ T, T = w.heap.size + 1 := ⟨_, rfl⟩
   obtain ⟨H, hH⟩ : ∃ H, H = w.heap.size := ⟨_, rfl⟩
   rw [← hT, ← hH] at hm1
   rw [← hT, ← hH]
   have hTb : w.heap.size ≤ T := by omega
   have hHT : ¬ H = T := by omega
   clear hT hH
   have HM1 := Lib.hid hm1
   clear hm1 HO HB1 HB2
   go_wp2
   go_loopg [24] (ns.length + 1) (fun gk s24 wx => TakeRel w H T [.int .i64 kd, txt s, .int .u64 n, .slice A l.length ca, .slice B ks.length d] (.mk kd s n l ks) b0 ns gk s24 wx)
   case atStart => exact ⟨0, rfl, by omega, by omega, by rw [List.take_zero]; simpa [badN] using HM1.out⟩
   case round =>
    obtain ⟨j, rfl, hjl, hjg, hmj⟩ := hrel
    have HM := Lib.hid hmj
    clear hmj
    rcases Nat.lt_or_ge j ns.length with hlt | hge
    ·obtain ⟨g', rfl⟩ : ∃ g', gk = g' + 1 := ⟨gk - 1, by omega⟩
     obtain ⟨t, ht⟩ : ∃ t, ns[j]? = some t := ⟨ns[j], List.getElem?_eq_getElem hlt⟩
     have hq : decide ((j : Int) < (ns.length : Int)) = true := by simp; omega
     have hjz : (j : Int) < (ns.length : Int) := by omega
     obtain ⟨bn, on, rfl, hnc⟩ := HN.out j t ht
     have hnc1 := HM.out.only.cell hnc id
     have hc5 := HM.out.blk.cell 5 rfl
     have hf5 := HM.out.blk.frozen 5
     have hl4 := HM.out.val.cell 4 rfl
     have HC := Lib.hid (contains_at (w := wr) (d := d) t (fun i u hu => by
      obtain ⟨b', o', e', _, hcc⟩ := HK.out i u hu
      refine ⟨b', o', e', ?_⟩
      have := HM.out.only.cell (hcc 0 _ rfl) id
      simpa using this) hl)
     have HSN := Lib.hid (show badN (.mk kd s n l ks) b0 (ns.take (j + 1)) = (badN (.mk kd s n l ks) b0 (ns.take j) || !decide (t ∈ ks)) by rw [List.take_add_one, ht]; exact badN_snoc _ _ _ _)
     clear hnc hq
     generalize badN (.mk kd s n l ks) b0 (ns.take j) = bb at HM HSN hc5
     have HPUT := Lib.hid (fun b' : Bool => HM.out.put (b' := b') rfl (by omega) (by omega))
     cases bb with
     | true =>
      clear HC
      go_wp2
      go_roundg g'
      case measure => omega
      case rel => exact ⟨j + 1, by push_cast; rfl, by omega, by omega, by rw [HSN.out]; exact HPUT.out _⟩
     | false =>
      go_wp2_with (go_at_call 84; refine HC.out.mono ?_; rintro e w4 ⟨rfl, rfl⟩)
      go_roundg g'
      case measure => omega
      case rel => exact ⟨j + 1, by push_cast; rfl, by omega, by omega, by rw [HSN.out]; simpa using HPUT.out _⟩
    ·obtain rfl : j = ns.length := by omega
     have hq : ¬ ((ns.length : Int) < (ns.length : Int)) := by omega
     go_wp2
     go_ret
     refine ⟨HM.out.only, T, rfl, by omega, _, HJ.out.keep HM.out.only, ?_⟩
     have := HM.out.blk
     rw [List.take_length] at this
     exact this
  ·have q6 : ((kd : Int) != 6) = true := by simp; omega
   have hb := HB0.out
   rw [q6, Bool.true_or] at hb
   subst hb
   clear HB0 h6
   go_upto_region 2 with fail
   refine wp_gen0 (fun W => TakeMid w w.heap.size (w.heap.size + 1) [.int .i64 kd, txt s, .int .u64 n, .slice A l.length ca, .slice B ks.length d] true W) (by exact ⟨HO.out, HB2.out, HB1.out⟩) ?_
   intro W1 hm1
   obtain ⟨T, hT⟩ : ∃ T, T = w.heap.size + 1 := ⟨_, rfl⟩
   obtain ⟨H, hH⟩ : ∃ H, H = w.heap.size := ⟨_, rfl⟩
   rw [← hT, ← hH] at hm1
   rw [← hT, ← hH]
   have hTb : w.heap.size ≤ T := by omega
   have hHT : ¬ H = T := by omega
   clear hT hH
   have HM1 := Lib.hid hm1
   clear hm1 HO HB1 HB2
   go_wp2
   go_loopg [24] (ns.length + 1) (fun gk s24 wx => TakeRel w H T [.int .i64 kd, txt s, .int .u64 n, .slice A l.length ca, .slice B ks.length d] (.mk kd s n l ks) true ns gk s24 wx)
   case atStart => exact ⟨0, rfl, by omega, by omega, by rw [List.take_zero]; simpa [badN] using HM1.out⟩
   case round =>
    obtain ⟨j, rfl, hjl, hjg, hmj⟩ := hrel
    have HM := Lib.hid hmj
    clear hmj
    rcases Nat.lt_or_ge j ns.length with hlt | hge
    ·obtain ⟨g', rfl⟩ : ∃ g', gk = g' + 1 := ⟨gk - 1, by omega⟩
     obtain ⟨t, ht⟩ : ∃ t, ns[j]? = some t := ⟨ns[j], List.getElem?_eq_getElem hlt⟩
     have hq : decide ((j : Int) < (ns.length : Int)) = true := by simp; omega
     have hjz : (j : Int) < (ns.length : Int) := by omega
     obtain ⟨bn, on, rfl, hnc⟩ := HN.out j t ht
     have hnc1 := HM.out.only.cell hnc id
     have hc5 := HM.out.blk.cell 5 rfl
     have hf5 := HM.out.blk.frozen 5
     have hl4 := HM.out.val.cell 4 rfl
     have HC := Lib.hid (contains_at (w := wr) (d := d) t (fun i u hu => by
      obtain ⟨b', o', e', _, hcc⟩ := HK.out i u hu
      refine ⟨b', o', e', ?_⟩
      have := HM.out.only.cell (hcc 0 _ rfl) id
      simpa using this) hl)
     have HSN := Lib.hid (show badN (.mk kd s n l ks) true (ns.take (j + 1)) = (badN (.mk kd s n l ks) true (ns.take j) || !decide (t ∈ ks)) by rw [List.take_add_one, ht]; exact badN_snoc _ _ _ _)
     clear hnc hq
     generalize badN (.mk kd s n l ks) true (ns.take j) = bb at HM HSN hc5
     have HPUT := Lib.hid (fun b' : Bool => HM.out.put (b' := b') rfl (by omega) (by omega))
     cases bb with
     | true =>
      clear HC
      go_wp2
      go_roundg g'
      case measure => omega
      case rel => exact ⟨j + 1, by push_cast; rfl, by omega, by omega, by rw [HSN.out]; exact HPUT.out _⟩
     | false =>
      go_wp2_with (go_at_call 84; refine HC.out.mono ?_; rintro e w4 ⟨rfl, rfl⟩)
      go_roundg g'
      case measure => omega
      case rel => exact ⟨j + 1, by push_cast; rfl, by omega, by omega, by rw [HSN.out]; simpa using HPUT.out _⟩
    ·obtain rfl : j = ns.length := by omega
     have hq : ¬ ((ns.length : Int) < (ns.length : Int)) := by omega
     go_wp2
     go_ret
     refine ⟨HM.out.only, T, rfl, by omega, _, HJ.out.keep HM.out.only, ?_⟩
     have := HM.out.blk
     rw [List.take_length] at this
     exact this
theorem StrsAt.keep {w w' : World} {N : Option Addr} {ns : List Bytes} (h : StrsAt w N ns) (ho : Only (fun _ => False) w w') : StrsAt w' N ns := by
 intro i t ht
 obtain ⟨b, o, e, hc⟩ := h i t ht
 exact ⟨b, o, e, ho.cell hc id⟩
def parseM (l : Bytes) : Option JV := if l.length ≤ 1048576 then parseD l else none
def MParseAt (T : Option JV) (ns : List Bytes) (w : World) (e : Ending) (w' : World) : Prop :=
 Only (fun _ => False) w w' ∧ ∃ g, e = .returned (.pointer (some ⟨g, 0, none⟩)) ∧ w.heap.size ≤ g ∧ match T with
 | some v => TK (· ≠ g) w' g v (badN v (bad0 v ns) ns)
 | none => TK (· ≠ g) w' g (.mk 0 [] 0 [] []) true
theorem parseM_any (hV : ValidSaid) {A : Option Addr} {c : Nat} {l : Bytes} {w : World} (hB : BytesAt w A l) (hcap : l.length ≤ c) (hA : ∀ b o, A = some ⟨b, o, none⟩ → b < w.heap.size) (hG : Gl w) :
  ∃ err : Int, (err != 0) = true ∧ Calls Tryz.prog 61 #[.slice A l.length c] w (ParseAt (parseM l) err w) := by
 unfold parseM
 by_cases h : l.length ≤ 1048576
 ·rw [if_pos h]
  exact ⟨5, by decide, parse_any hV hB hcap hA hG h⟩
 ·rw [if_neg h]
  exact ⟨3, by decide, parse_long (by omega)⟩
theorem parseM_keys {l : Bytes} {v : JV} (h : parseM l = some v) : v.keys.length ≤ 3000000 := by
 unfold parseM at h
 split at h
 ·have := (parseD_small h).keys; omega
 ·cases h
theorem ParseAt.has {v : JV} {err : Int} {w w' : World} {e : Ending} (h : ParseAt (some v) err w e w') : Only (fun _ => False) w w' ∧ ∃ cs, e = .returned (.tuple #[.agg cs.toArray, .int .i64 0]) ∧ JIs (w.heap.size ≤ ·) w' v cs := h
theorem ParseAt.has5 {v : JV} {err : Int} {w w' : World} {e : Ending} (h : ParseAt (some v) err w e w') : Only (fun _ => False) w w' ∧ ∃ A1 c1 B1 d1,
  e = .returned (.tuple #[.agg #[.int .i64 v.kind, txt v.str, .int .u64 v.num, .slice A1 v.list.length c1, .slice B1 v.keys.length d1], .int .i64 0]) ∧
  JIs (fun b => w.heap.size ≤ b ∧ b < w'.heap.size) w' v (cells5 v.kind v.str v.num (.slice A1 v.list.length c1) (.slice B1 v.keys.length d1)) := by
 obtain ⟨ho, cs, rfl, hj⟩ := h.has
 obtain ⟨A1, c1, B1, d1, rfl⟩ := hj.form
 exact ⟨ho, A1, c1, B1, d1, rfl, hj.mono (fun b hb hx => ⟨hx, hb⟩)⟩
theorem ParseAt.no {err : Int} {w w' : World} {e : Ending} (h : ParseAt none err w e w') : Only (fun _ => False) w w' ∧ e = .returned (.tuple #[.agg #[.int .i64 0, .string ⟨#[]⟩, .int .u64 0, .slice none 0 0, .slice none 0 0], .int .i64 err]) := h
theorem TK.put {X Y : Nat → Prop} {w : World} {g : Nat} {v : JV} {b : Bool} {cs : List Value} (hj : JIs X w v cs) (hb : Blk w g (cs ++ [.bool b]) 81) (b' : Bool) (hX : ∀ k, X k → k ≠ g ∧ Y k) : TK Y (w.setCell ⟨g, 5, none⟩ (.bool b')) g v b' :=
 ⟨cs, hj.only ((Only.refl (· = g) w).setCell (fun _ => rfl) _) (fun k _ hx => hX k hx), hb.set' 5 _ (by rw [List.set_append_right _ _ (by rw [hj.len]; exact Nat.le_refl _), hj.len]; rfl)⟩
theorem TK.cell {X : Nat → Prop} {w : World} {g : Nat} {v : JV} {b : Bool} {cs : List Value} (hj : JIs X w v cs) (hb : Blk w g (cs ++ [.bool b]) 81) : w.cell? ⟨g, 5, none⟩ = some (.bool b) :=
 hb.cell 5 (by rw [List.getElem?_append_right (by rw [hj.len]; exact Nat.le_refl _), hj.len]; rfl)
theorem StrsAt.keepG {w w' : World} {N : Option Addr} {ns : List Bytes} {g : Nat} (h : StrsAt w N ns) (ho : Only (· = g) w w') (hg : w.heap.size ≤ g) : StrsAt w' N ns := by
 intro i t ht
 obtain ⟨b, o, e, hc⟩ := h i t ht
 exact ⟨b, o, e, ho.cell hc (fun e => by have := cell_lt hc; simp at this; simp at e; omega)⟩
set_option maxRecDepth 100000 in
set_option maxHeartbeats 1600000 in
theorem msg_parse (hV : ValidSaid) {A N : Option Addr} {c d : Nat} {l : Bytes} {ns : List Bytes} {w : World} (hB : BytesAt w A l) (hcap : l.length ≤ c) (hA : ∀ b o, A = some ⟨b, o, none⟩ → b < w.heap.size) (hG : Gl w)
  (hN : StrsAt w N ns) (hns : ns.length ≤ 1000) : Calls Tryz.prog 26 #[.slice A l.length c, .slice N ns.length d] w (MParseAt (parseM l) ns w) := by
 obtain ⟨err, herr, hp⟩ := parseM_any hV hB hcap hA hG
 have HN := Lib.hid hN
 clear hB hA hG hV hN
 obtain ⟨T, hT⟩ : ∃ T, parseM l = T := ⟨_, rfl⟩
 rw [hT] at hp ⊢
 have HP := Lib.hid hp
 clear hp
 cases T with
 | some v =>
  have HK := Lib.hid (parseM_keys hT)
  clear hT
  obtain ⟨bb, hbb⟩ : ∃ bb, badN v (bad0 v ns) ns = bb := ⟨_, rfl⟩
  have HBB := Lib.hid hbb
  clear hbb
  cases bb
  all_goals
   go_enter Tryz.func26, Tryz.ntmps26
   go_wp2_with (first
    | (go_at_call 61; refine HP.out.mono ?_; rintro e w1 h1; obtain ⟨ho1, A1, c1, B1, d1, rfl, hj1⟩ := h1.has5; have HO1 := Lib.hid ho1; have HJ1 := Lib.hid hj1; clear ho1 h1 hj1)
    | (refine wpList_store_blk (cs := cells5 v.kind v.str v.num (.slice A1 v.list.length c1) (.slice B1 v.keys.length d1)) rfl 79 (.tmp 5) (.tmp 11) rfl rfl rfl rfl (Blk.new w1 [.int .i64 0, .string ⟨#[]⟩, .int .u64 0, .slice none 0 0, .slice none 0 0] 79) rfl info79s rfl ?_; intro w2 hb2 ho2; have HB2 := Lib.hid hb2; have HO2 := Lib.hid (((Only.refl (fun b => b = w1.heap.size) w1).alloc _).trans ho2); have HJ2 := Lib.hid (HJ1.out.only (Y := fun b => w.heap.size ≤ b ∧ b < w2.heap.size) HO2.out (fun b hb hx => ⟨by omega, hx.1, by have := HO2.out.size; omega⟩)); clear hb2 ho2)
    | (refine wpList_load_blk (cs := cells5 v.kind v.str v.num (.slice A1 v.list.length c1) (.slice B1 v.keys.length d1)) rfl 79 (.tmp 5) rfl rfl HB2.out agg79 info79s ?_)
    | (go_at_call 62; refine (take_any HJ2.out ((HN.out.keep HO1.out).keepG HO2.out (Nat.le_refl _)) hns (fun b hb => hb.2) HK.out).mono ?_; rintro e w3 ⟨ho3, g, rfl, hg, cs3, hj3, hb3⟩; rw [HBB.out] at hb3; have HO3 := Lib.hid ho3; have HJ3 := Lib.hid hj3; have HB3 := Lib.hid hb3; have HG3 := Lib.hid hg; have hc5 := TK.cell hj3 hb3; have hf5 := hb3.frozen 5; clear ho3 hj3 hb3 hg))
   go_ret
   have z1 := HO1.out.size
   have z2 := HO2.out.size
   have z3 := HG3.out
   refine ⟨((HO1.out.then HO2.out (fun i hi e => by omega)).then HO3.out (fun _ _ h => h.elim)).setCell (fun e => by simp at e; omega) _, g, rfl, by omega, ?_⟩
   show TK _ _ _ _ (badN v (bad0 v ns) ns)
   rw [HBB.out]
   exact TK.put (Y := (· ≠ g)) HJ3.out HB3.out _ (fun k hk => ⟨by omega, by omega⟩)
 | none =>
  clear hT
  obtain ⟨bb, hbb⟩ : ∃ bb, badN (.mk 0 [] 0 [] []) (bad0 (.mk 0 [] 0 [] []) ns) ns = bb := ⟨_, rfl⟩
  have HBB := Lib.hid hbb
  have HK := Lib.hid (show (JV.mk 0 [] 0 [] []).keys.length ≤ 3000000 by decide)
  clear hbb
  cases bb
  all_goals
   go_enter Tryz.func26, Tryz.ntmps26
   go_wp2_with (first
    | (go_at_call 61; refine HP.out.mono ?_; rintro e w1 h1; obtain ⟨ho1, rfl⟩ := h1.no; have HO1 := Lib.hid ho1; have HJ1 := Lib.hid (JIs.plain (fun b => w.heap.size ≤ b ∧ b < w1.heap.size) w1 0 [] 0 none none 0 0); clear ho1 h1)
    | (refine wpList_store_blk (cs := [.int .i64 0, .string ⟨#[]⟩, .int .u64 0, .slice none 0 0, .slice none 0 0]) rfl 79 (.tmp 5) (.tmp 11) rfl rfl rfl rfl (Blk.new w1 [.int .i64 0, .string ⟨#[]⟩, .int .u64 0, .slice none 0 0, .slice none 0 0] 79) rfl info79s rfl ?_; intro w2 hb2 ho2; have HB2 := Lib.hid hb2; have HO2 := Lib.hid (((Only.refl (fun b => b = w1.heap.size) w1).alloc _).trans ho2); have HJ2 := Lib.hid (HJ1.out.only (Y := fun b => w.heap.size ≤ b ∧ b < w2.heap.size) HO2.out (fun b hb hx => ⟨by omega, hx.1, by have := HO2.out.size; omega⟩)); clear hb2 ho2)
    | (refine wpList_load_blk (cs := [.int .i64 0, .string ⟨#[]⟩, .int .u64 0, .slice none 0 0, .slice none 0 0]) rfl 79 (.tmp 5) rfl rfl HB2.out agg79 info79s ?_)
    | (go_at_call 62; refine (take_any HJ2.out ((HN.out.keep HO1.out).keepG HO2.out (Nat.le_refl _)) hns (fun b hb => hb.2) HK.out).mono ?_; rintro e w3 ⟨ho3, g, rfl, hg, cs3, hj3, hb3⟩; rw [HBB.out] at hb3; have HO3 := Lib.hid ho3; have HJ3 := Lib.hid hj3; have HB3 := Lib.hid hb3; have HG3 := Lib.hid hg; have hc5 := TK.cell hj3 hb3; have hf5 := hb3.frozen 5; clear ho3 hj3 hb3 hg))
   go_ret
   have z1 := HO1.out.size
   have z2 := HO2.out.size
   have z3 := HG3.out
   refine ⟨((HO1.out.then HO2.out (fun i hi e => by omega)).then HO3.out (fun _ _ h => h.elim)).setCell (fun e => by simp at e; omega) _, g, rfl, by omega, ?_⟩
   exact TK.put (Y := (· ≠ g)) HJ3.out HB3.out _ (fun k hk => ⟨by omega, by omega⟩)
def JV0 : JV := .mk 0 [] 0 [] []
theorem GetAt.has {X : Nat → Prop} {u : JV} {w w' : World} {e : Ending} (h : GetAt X (some u) w e w') : Only (fun _ => False) w w' ∧ ∃ A1 c1 B1 d1,
  e = .returned (.tuple #[.agg #[.int .i64 u.kind, txt u.str, .int .u64 u.num, .slice A1 u.list.length c1, .slice B1 u.keys.length d1], .bool true]) ∧
  JIs X w' u (cells5 u.kind u.str u.num (.slice A1 u.list.length c1) (.slice B1 u.keys.length d1)) := by
 obtain ⟨ho, cs, rfl, hj⟩ := h
 obtain ⟨A1, c1, B1, d1, rfl⟩ := hj.form
 exact ⟨ho, A1, c1, B1, d1, rfl, hj⟩
theorem GetAt.no {X : Nat → Prop} {w w' : World} {e : Ending} (h : GetAt X none w e w') : Only (fun _ => False) w w' ∧ ∃ A1 c1 B1 d1,
  e = .returned (.tuple #[.agg #[.int .i64 JV0.kind, txt JV0.str, .int .u64 JV0.num, .slice A1 JV0.list.length c1, .slice B1 JV0.keys.length d1], .bool false]) ∧
  JIs X w' JV0 (cells5 JV0.kind JV0.str JV0.num (.slice A1 JV0.list.length c1) (.slice B1 JV0.keys.length d1)) := by
 obtain ⟨ho, rfl⟩ := h
 exact ⟨ho, none, 0, none, 0, rfl, JIs.plain _ _ _ _ _ _ _ _ _⟩
def badG (v : JV) (k : Bytes) (kd : Nat) : Bool := match getB v k with | none => true | some u => decide (u.kind ≠ kd)
def TValAt (X : Nat → Prop) (g : Nat) (v : JV) (bad : Bool) (k : Bytes) (kd : Nat) (w : World) (e : Ending) (w' : World) : Prop :=
 Only (· = g) w w' ∧ TK X w' g v (bad || badG v k kd) ∧ ∃ cs, e = .returned (.agg cs.toArray) ∧ JIs X w' ((getB v k).getD JV0) cs
structure VMd (w w2 : World) (g H7 : Nat) (c6 cs : List Value) (w3 : World) : Prop where
 only : Only (fun _ => False) w w3
 bad : Blk w3 g c6 81
 res : Blk w3 w.heap.size [.int .i64 0, .string ⟨#[]⟩, .int .u64 0, .slice none 0 0, .slice none 0 0] 79
 new : Blk w3 H7 cs 79
 ne6 : w.heap.size ≠ g
 ne7 : H7 ≠ g
 low : g < w.heap.size
 tail : Only (fun b => b = H7) w2 w3
theorem vmid {w w2 w3 : World} {g : Nat} {c6 cs : List Value} (hb : Blk w g c6 81) (ho2 : Only (fun _ => False) (w.alloc (.cells #[.int .i64 0, .string ⟨#[]⟩, .int .u64 0, .slice none 0 0, .slice none 0 0] 79)) w2)
  (ho3 : Only (· = w2.heap.size) (w2.alloc (.cells #[.int .i64 0, .string ⟨#[]⟩, .int .u64 0, .slice none 0 0, .slice none 0 0] 79)) w3) (hb3 : Blk w3 w2.heap.size cs 79) : VMd w w2 g w2.heap.size c6 cs w3 := by
 have hlt := hb.lt
 have s2 := ho2.size
 have s1 : (w.alloc (.cells #[.int .i64 0, .string ⟨#[]⟩, .int .u64 0, .slice none 0 0, .slice none 0 0] 79)).heap.size = w.heap.size + 1 := by simp
 have o2 : Only (fun _ => False) w w2 := ((Only.refl _ w).alloc _).trans ho2
 have o3 : Only (fun b => b = w2.heap.size) w2 w3 := ((Only.refl _ w2).alloc _).trans ho3
 refine ⟨o2.then o3 (fun i hi e => by omega), (hb.only o2 id).only o3 (by omega), ?_, hb3, by omega, by omega, hlt, o3⟩
 exact ((Blk.new w [.int .i64 0, .string ⟨#[]⟩, .int .u64 0, .slice none 0 0, .slice none 0 0] 79).only ho2 id).only o3 (by omega)
theorem vdone {X : Nat → Prop} {w w2 w3 w5 : World} {g : Nat} {v u : JV} {c6 cs us : List Value} {b0 b1 : Bool} {k : Bytes} {kd : Nat} {T : Option JV}
  (hX : ∀ b, X b → b ≠ g) (hj : JIs X w v cs) (hm : VMd w w2 g w2.heap.size c6 us w3) (ho2 : Only (fun _ => False) (w.alloc (.cells #[.int .i64 0, .string ⟨#[]⟩, .int .u64 0, .slice none 0 0, .slice none 0 0] 79)) w2)
  (hj2 : JIs (fun b => X b ∧ b < w.heap.size) w2 u us) (ho5 : Only (· = w.heap.size) (w3.setCell ⟨g, 5, none⟩ (.bool b1)) w5) (hget : getB v k = T) (hT : T.getD JV0 = u) (hc6 : c6 = cs ++ [.bool b0]) (hbg : (b0 || badG v k kd) = b1) :
  TValAt X g v b0 k kd w (.returned (.agg us.toArray)) w5 := by
 subst hc6
 have hglt := hm.low
 have o5 : Only (fun b => b = g ∨ b = w.heap.size) w3 w5 := ((Only.refl _ w3).setCell (fun _ => .inl rfl) _).then ho5 (fun i hi e => .inr e)
 have s3 := hm.only.size
 have o2 : Only (fun _ => False) w w2 := ((Only.refl _ w).alloc _).trans ho2
 have s2 := o2.size
 have o23 := hm.tail
 refine ⟨(hm.only.mono (H := (· = g)) (fun _ _ h => h.elim)).then o5 (fun i hi e => by rcases e with e | e; exact e; omega), ?_, us, rfl, ?_⟩
 ·rw [hbg]
  refine ⟨cs, ?_, ?_⟩
  ·exact ((hj.only (Y := fun b => X b ∧ b < w.heap.size) hm.only (fun b hb hx => ⟨id, hx, hb⟩)).only o5 (fun b hb hx => ⟨by have := hX _ hx.1; have := hx.2; omega, hx.1⟩))
  ·exact (hm.bad.set' 5 _ (by rw [List.set_append_right _ _ (by rw [hj.len]; exact Nat.le_refl _), hj.len]; rfl)).only ho5 (fun e => hm.ne6 e.symm)
 ·rw [hget, hT]
  exact (hj2.only (Y := fun b => X b ∧ b < w.heap.size) o23 (fun b hb hx => ⟨by have := hx.2; omega, hx⟩)).only o5 (fun b hb hx => ⟨by have := hX _ hx.1; have := hx.2; omega, hx.1⟩)
set_option maxRecDepth 100000 in
set_option maxHeartbeats 1600000 in
theorem value_any {X : Nat → Prop} {g : Nat} {v : JV} {bad : Bool} {k : Bytes} {kd : Nat} {w : World} (hX : ∀ b, X b → b ≠ g) (hT : TK X w g v bad) (hk : v.keys.length ≤ 3000000) (hl : v.list.length ≤ 3000000) :
  Calls Tryz.prog 64 #[.pointer (some ⟨g, 0, none⟩), .string ⟨k.toArray⟩, .int .i64 kd] w (TValAt X g v bad k kd w) := by
 obtain ⟨cs, hj, hb⟩ := hT
 obtain ⟨A, c, B, d, rfl⟩ := hj.form
 have HX := Lib.hid hX
 clear hX
 have HJ := Lib.hid hj
 have HB := Lib.hid hb
 have HK := Lib.hid hk
 have HL := Lib.hid hl
 have HR1 := Lib.hid (show (w.alloc (.cells #[.int .i64 0, .string ⟨#[]⟩, .int .u64 0, .slice none 0 0, .slice none 0 0] 79)).rangeAt g 0 (cells5 v.kind v.str v.num (.slice A v.list.length c) (.slice B v.keys.length d)) from fun j x hx => by
  have h5 : j < 5 := by have := (List.getElem?_eq_some_iff.1 hx).1; simpa [cells5] using this
  rw [Nat.zero_add]
  exact (hb.alloc _).cell j (by rw [List.getElem?_append_left (by simpa [cells5] using h5)]; exact hx))
 have HJ1 := Lib.hid (hj.only (Y := fun b => X b ∧ b < w.heap.size) ((Only.refl (fun _ => False) w).alloc (.cells #[.int .i64 0, .string ⟨#[]⟩, .int .u64 0, .slice none 0 0, .slice none 0 0] 79)) (fun b hb hx => ⟨id, hx, hb⟩))
 clear hj hb hk hl
 cases hg : getB v k with
 | none =>
  have HGET := Lib.hid hg
  have HLT := Lib.hid (show (none : Option JV).getD JV0 = JV0 from rfl)
  cases bad with
  | true =>
   have HBG := Lib.hid (show (true || badG v k kd) = true from rfl)
   clear hg
   go_enter Tryz.func64, Tryz.ntmps64
   go_wp2_with (first
    | (refine load79 rfl (.tmp 12) rfl rfl HR1.out rfl ?_)
    | (go_at_call 85; refine (get_any k HJ1.out (fun b hb => by have := hb.2; simp; omega) HK.out HL.out).mono ?_; rintro e w2 h2; rw [HGET.out] at h2; obtain ⟨ho2, A1, c1, B1, d1, rfl, hj2⟩ := h2.no; have HO2 := Lib.hid ho2; have HJ2 := Lib.hid hj2; clear ho2 h2 hj2)
    | (refine wpList_store_blk (cs := cells5 JV0.kind JV0.str JV0.num (.slice A1 JV0.list.length c1) (.slice B1 JV0.keys.length d1)) rfl 79 (.tmp 7) (.tmp 16) rfl rfl rfl rfl (Blk.new w2 [.int .i64 0, .string ⟨#[]⟩, .int .u64 0, .slice none 0 0, .slice none 0 0] 79) rfl info79s rfl ?_; intro w3 hb3 ho3; have HM3 := Lib.hid (vmid HB.out HO2.out ho3 hb3); have hc5 := HM3.out.bad.cell 5 rfl; have hf5 := HM3.out.bad.frozen 5; have hk0 := hb3.cell 0 rfl; clear hb3 ho3)
    | (refine wpList_load_blk (cs := cells5 JV0.kind JV0.str JV0.num (.slice A1 JV0.list.length c1) (.slice B1 JV0.keys.length d1)) rfl 79 (.tmp 7) rfl rfl (HM3.out.new.far (by simpa using HM3.out.ne7) _) agg79 info79s ?_)
    | (refine wpList_store_blk (cs := cells5 JV0.kind JV0.str JV0.num (.slice A1 JV0.list.length c1) (.slice B1 JV0.keys.length d1)) rfl 79 (.tmp 6) (.tmp 35) rfl rfl rfl rfl (HM3.out.res.far (by simpa using HM3.out.ne6) _) rfl info79s rfl ?_; intro w5 hb5 ho5; have HB5 := Lib.hid hb5; have HO5 := Lib.hid ho5; clear hb5 ho5))
   refine bodyPost_ret (ret_cell rfl rfl HB5.out agg79 info79s) rfl ?_
   exact vdone HX.out HJ.out HM3.out HO2.out HJ2.out HO5.out HGET.out HLT.out rfl HBG.out
  | false =>
   have HBG := Lib.hid (show (false || badG v k kd) = true from (by unfold badG; rw [hg]; rfl))
   clear hg
   go_enter Tryz.func64, Tryz.ntmps64
   go_wp2_with (first
    | (refine load79 rfl (.tmp 12) rfl rfl HR1.out rfl ?_)
    | (go_at_call 85; refine (get_any k HJ1.out (fun b hb => by have := hb.2; simp; omega) HK.out HL.out).mono ?_; rintro e w2 h2; rw [HGET.out] at h2; obtain ⟨ho2, A1, c1, B1, d1, rfl, hj2⟩ := h2.no; have HO2 := Lib.hid ho2; have HJ2 := Lib.hid hj2; clear ho2 h2 hj2)
    | (refine wpList_store_blk (cs := cells5 JV0.kind JV0.str JV0.num (.slice A1 JV0.list.length c1) (.slice B1 JV0.keys.length d1)) rfl 79 (.tmp 7) (.tmp 16) rfl rfl rfl rfl (Blk.new w2 [.int .i64 0, .string ⟨#[]⟩, .int .u64 0, .slice none 0 0, .slice none 0 0] 79) rfl info79s rfl ?_; intro w3 hb3 ho3; have HM3 := Lib.hid (vmid HB.out HO2.out ho3 hb3); have hc5 := HM3.out.bad.cell 5 rfl; have hf5 := HM3.out.bad.frozen 5; have hk0 := hb3.cell 0 rfl; clear hb3 ho3)
    | (refine wpList_load_blk (cs := cells5 JV0.kind JV0.str JV0.num (.slice A1 JV0.list.length c1) (.slice B1 JV0.keys.length d1)) rfl 79 (.tmp 7) rfl rfl (HM3.out.new.far (by simpa using HM3.out.ne7) _) agg79 info79s ?_)
    | (refine wpList_store_blk (cs := cells5 JV0.kind JV0.str JV0.num (.slice A1 JV0.list.length c1) (.slice B1 JV0.keys.length d1)) rfl 79 (.tmp 6) (.tmp 35) rfl rfl rfl rfl (HM3.out.res.far (by simpa using HM3.out.ne6) _) rfl info79s rfl ?_; intro w5 hb5 ho5; have HB5 := Lib.hid hb5; have HO5 := Lib.hid ho5; clear hb5 ho5))
   refine bodyPost_ret (ret_cell rfl rfl HB5.out agg79 info79s) rfl ?_
   exact vdone HX.out HJ.out HM3.out HO2.out HJ2.out HO5.out HGET.out HLT.out rfl HBG.out
 | some u =>
  have HGET := Lib.hid hg
  have HLT := Lib.hid (show (some u : Option JV).getD JV0 = u from rfl)
  have hbg0 : badG v k kd = decide (u.kind ≠ kd) := by unfold badG; rw [hg]
  clear hg
  by_cases hkd : u.kind = kd
  ·have qk : ((u.kind : Int) != (kd : Int)) = false := by simp [hkd]
   have hbg1 : badG v k kd = false := by rw [hbg0]; simp [hkd]
   clear hbg0 hkd
   cases bad with
   | true =>
    have HBG := Lib.hid (show (true || badG v k kd) = true from rfl)
    clear hbg1
    go_enter Tryz.func64, Tryz.ntmps64
    go_wp2_with (first
     | (refine load79 rfl (.tmp 12) rfl rfl HR1.out rfl ?_)
     | (go_at_call 85; refine (get_any k HJ1.out (fun b hb => by have := hb.2; simp; omega) HK.out HL.out).mono ?_; rintro e w2 h2; rw [HGET.out] at h2; obtain ⟨ho2, A1, c1, B1, d1, rfl, hj2⟩ := h2.has; have HO2 := Lib.hid ho2; have HJ2 := Lib.hid hj2; clear ho2 h2 hj2)
     | (refine wpList_store_blk (cs := cells5 u.kind u.str u.num (.slice A1 u.list.length c1) (.slice B1 u.keys.length d1)) rfl 79 (.tmp 7) (.tmp 16) rfl rfl rfl rfl (Blk.new w2 [.int .i64 0, .string ⟨#[]⟩, .int .u64 0, .slice none 0 0, .slice none 0 0] 79) rfl info79s rfl ?_; intro w3 hb3 ho3; have HM3 := Lib.hid (vmid HB.out HO2.out ho3 hb3); have hc5 := HM3.out.bad.cell 5 rfl; have hf5 := HM3.out.bad.frozen 5; have hk0 := hb3.cell 0 rfl; clear hb3 ho3)
     | (refine wpList_load_blk (cs := cells5 u.kind u.str u.num (.slice A1 u.list.length c1) (.slice B1 u.keys.length d1)) rfl 79 (.tmp 7) rfl rfl (HM3.out.new.far (by simpa using HM3.out.ne7) _) agg79 info79s ?_)
     | (refine wpList_store_blk (cs := cells5 u.kind u.str u.num (.slice A1 u.list.length c1) (.slice B1 u.keys.length d1)) rfl 79 (.tmp 6) (.tmp 35) rfl rfl rfl rfl (HM3.out.res.far (by simpa using HM3.out.ne6) _) rfl info79s rfl ?_; intro w5 hb5 ho5; have HB5 := Lib.hid hb5; have HO5 := Lib.hid ho5; clear hb5 ho5))
    refine bodyPost_ret (ret_cell rfl rfl HB5.out agg79 info79s) rfl ?_
    exact vdone HX.out HJ.out HM3.out HO2.out HJ2.out HO5.out HGET.out HLT.out rfl HBG.out
   | false =>
    have HBG := Lib.hid (show (false || badG v k kd) = false by rw [hbg1]; rfl)
    clear hbg1
    go_enter Tryz.func64, Tryz.ntmps64
    go_wp2_with (first
     | (refine load79 rfl (.tmp 12) rfl rfl HR1.out rfl ?_)
     | (go_at_call 85; refine (get_any k HJ1.out (fun b hb => by have := hb.2; simp; omega) HK.out HL.out).mono ?_; rintro e w2 h2; rw [HGET.out] at h2; obtain ⟨ho2, A1, c1, B1, d1, rfl, hj2⟩ := h2.has; have HO2 := Lib.hid ho2; have HJ2 := Lib.hid hj2; clear ho2 h2 hj2)
     | (refine wpList_store_blk (cs := cells5 u.kind u.str u.num (.slice A1 u.list.length c1) (.slice B1 u.keys.length d1)) rfl 79 (.tmp 7) (.tmp 16) rfl rfl rfl rfl (Blk.new w2 [.int .i64 0, .string ⟨#[]⟩, .int .u64 0, .slice none 0 0, .slice none 0 0] 79) rfl info79s rfl ?_; intro w3 hb3 ho3; have HM3 := Lib.hid (vmid HB.out HO2.out ho3 hb3); have hc5 := HM3.out.bad.cell 5 rfl; have hf5 := HM3.out.bad.frozen 5; have hk0 := hb3.cell 0 rfl; clear hb3 ho3)
     | (refine wpList_load_blk (cs := cells5 u.kind u.str u.num (.slice A1 u.list.length c1) (.slice B1 u.keys.length d1)) rfl 79 (.tmp 7) rfl rfl (HM3.out.new.far (by simpa using HM3.out.ne7) _) agg79 info79s ?_)
     | (refine wpList_store_blk (cs := cells5 u.kind u.str u.num (.slice A1 u.list.length c1) (.slice B1 u.keys.length d1)) rfl 79 (.tmp 6) (.tmp 35) rfl rfl rfl rfl (HM3.out.res.far (by simpa using HM3.out.ne6) _) rfl info79s rfl ?_; intro w5 hb5 ho5; have HB5 := Lib.hid hb5; have HO5 := Lib.hid ho5; clear hb5 ho5))
    refine bodyPost_ret (ret_cell rfl rfl HB5.out agg79 info79s) rfl ?_
    exact vdone HX.out HJ.out HM3.out HO2.out HJ2.out HO5.out HGET.out HLT.out rfl HBG.out
  ·have qk : ((u.kind : Int) != (kd : Int)) = true := by simp; omega
   have hbg1 : badG v k kd = true := by rw [hbg0]; simp [hkd]
   clear hbg0 hkd
   cases bad with
   | true =>
    have HBG := Lib.hid (show (true || badG v k kd) = true from rfl)
    clear hbg1
    go_enter Tryz.func64, Tryz.ntmps64
    go_wp2_with (first
     | (refine load79 rfl (.tmp 12) rfl rfl HR1.out rfl ?_)
     | (go_at_call 85; refine (get_any k HJ1.out (fun b hb => by have := hb.2; simp; omega) HK.out HL.out).mono ?_; rintro e w2 h2; rw [HGET.out] at h2; obtain ⟨ho2, A1, c1, B1, d1, rfl, hj2⟩ := h2.has; have HO2 := Lib.hid ho2; have HJ2 := Lib.hid hj2; clear ho2 h2 hj2)
     | (refine wpList_store_blk (cs := cells5 u.kind u.str u.num (.slice A1 u.list.length c1) (.slice B1 u.keys.length d1)) rfl 79 (.tmp 7) (.tmp 16) rfl rfl rfl rfl (Blk.new w2 [.int .i64 0, .string ⟨#[]⟩, .int .u64 0, .slice none 0 0, .slice none 0 0] 79) rfl info79s rfl ?_; intro w3 hb3 ho3; have HM3 := Lib.hid (vmid HB.out HO2.out ho3 hb3); have hc5 := HM3.out.bad.cell 5 rfl; have hf5 := HM3.out.bad.frozen 5; have hk0 := hb3.cell 0 rfl; clear hb3 ho3)
     | (refine wpList_load_blk (cs := cells5 u.kind u.str u.num (.slice A1 u.list.length c1) (.slice B1 u.keys.length d1)) rfl 79 (.tmp 7) rfl rfl (HM3.out.new.far (by simpa using HM3.out.ne7) _) agg79 info79s ?_)
     | (refine wpList_store_blk (cs := cells5 u.kind u.str u.num (.slice A1 u.list.length c1) (.slice B1 u.keys.length d1)) rfl 79 (.tmp 6) (.tmp 35) rfl rfl rfl rfl (HM3.out.res.far (by simpa using HM3.out.ne6) _) rfl info79s rfl ?_; intro w5 hb5 ho5; have HB5 := Lib.hid hb5; have HO5 := Lib.hid ho5; clear hb5 ho5))
    refine bodyPost_ret (ret_cell rfl rfl HB5.out agg79 info79s) rfl ?_
    exact vdone HX.out HJ.out HM3.out HO2.out HJ2.out HO5.out HGET.out HLT.out rfl HBG.out
   | false =>
    have HBG := Lib.hid (show (false || badG v k kd) = true by rw [hbg1]; rfl)
    clear hbg1
    go_enter Tryz.func64, Tryz.ntmps64
    go_wp2_with (first
     | (refine load79 rfl (.tmp 12) rfl rfl HR1.out rfl ?_)
     | (go_at_call 85; refine (get_any k HJ1.out (fun b hb => by have := hb.2; simp; omega) HK.out HL.out).mono ?_; rintro e w2 h2; rw [HGET.out] at h2; obtain ⟨ho2, A1, c1, B1, d1, rfl, hj2⟩ := h2.has; have HO2 := Lib.hid ho2; have HJ2 := Lib.hid hj2; clear ho2 h2 hj2)
     | (refine wpList_store_blk (cs := cells5 u.kind u.str u.num (.slice A1 u.list.length c1) (.slice B1 u.keys.length d1)) rfl 79 (.tmp 7) (.tmp 16) rfl rfl rfl rfl (Blk.new w2 [.int .i64 0, .string ⟨#[]⟩, .int .u64 0, .slice none 0 0, .slice none 0 0] 79) rfl info79s rfl ?_; intro w3 hb3 ho3; have HM3 := Lib.hid (vmid HB.out HO2.out ho3 hb3); have hc5 := HM3.out.bad.cell 5 rfl; have hf5 := HM3.out.bad.frozen 5; have hk0 := hb3.cell 0 rfl; clear hb3 ho3)
     | (refine wpList_load_blk (cs := cells5 u.kind u.str u.num (.slice A1 u.list.length c1) (.slice B1 u.keys.length d1)) rfl 79 (.tmp 7) rfl rfl (HM3.out.new.far (by simpa using HM3.out.ne7) _) agg79 info79s ?_)
     | (refine wpList_store_blk (cs := cells5 u.kind u.str u.num (.slice A1 u.list.length c1) (.slice B1 u.keys.length d1)) rfl 79 (.tmp 6) (.tmp 35) rfl rfl rfl rfl (HM3.out.res.far (by simpa using HM3.out.ne6) _) rfl info79s rfl ?_; intro w5 hb5 ho5; have HB5 := Lib.hid hb5; have HO5 := Lib.hid ho5; clear hb5 ho5))
    refine bodyPost_ret (ret_cell rfl rfl HB5.out agg79 info79s) rfl ?_
    exact vdone HX.out HJ.out HM3.out HO2.out HJ2.out HO5.out HGET.out HLT.out rfl HBG.out
theorem TValAt.five {X : Nat → Prop} {g : Nat} {v : JV} {bad : Bool} {k : Bytes} {kd : Nat} {w w' : World} {e : Ending} (h : TValAt X g v bad k kd w e w') : Only (· = g) w w' ∧ TK X w' g v (bad || badG v k kd) ∧ ∃ u A1 c1 B1 d1, u = (getB v k).getD JV0 ∧
  e = .returned (.agg #[.int .i64 u.kind, (.string ⟨u.str.toArray⟩ : Value), .int .u64 u.num, .slice A1 u.list.length c1, .slice B1 u.keys.length d1]) ∧
  JIs X w' u (cells5 u.kind u.str u.num (.slice A1 u.list.length c1) (.slice B1 u.keys.length d1)) := by
 obtain ⟨ho, ht, cs, rfl, hj⟩ := h
 obtain ⟨A1, c1, B1, d1, rfl⟩ := hj.form
 exact ⟨ho, ht, _, A1, c1, B1, d1, rfl, rfl, hj⟩
theorem field79_2 (k : Int) (s : ByteArray) (n : Int) (A B : Option Addr) (a b c d : Nat) (w : World) : (Instr.field 79 (.agg #[.int .i64 k, .string s, .int .u64 n, .slice A a c, .slice B b d]) 2).run Tryz.prog w = .ok (.int .u64 n) w := by kernel_rfl
theorem field79_1 (k : Int) (s : ByteArray) (n : Int) (A B : Option Addr) (a b c d : Nat) (w : World) : (Instr.field 79 (.agg #[.int .i64 k, .string s, .int .u64 n, .slice A a c, .slice B b d]) 1).run Tryz.prog w = .ok (.string s) w := by kernel_rfl
def TNumAt (X : Nat → Prop) (g : Nat) (v : JV) (bad : Bool) (k : Bytes) (w : World) (e : Ending) (w' : World) : Prop :=
 Only (· = g) w w' ∧ TK X w' g v (bad || badG v k 3) ∧ e = .returned (.int .u64 (((getB v k).getD JV0).num : Int))
set_option maxRecDepth 100000 in
set_option maxHeartbeats 1600000 in
theorem tnum_any {X : Nat → Prop} {g : Nat} {v : JV} {bad : Bool} {k : Bytes} {w : World} (hX : ∀ b, X b → b ≠ g) (hT : TK X w g v bad) (hk : v.keys.length ≤ 3000000) (hl : v.list.length ≤ 3000000) :
  Calls Tryz.prog 28 #[.pointer (some ⟨g, 0, none⟩), .string ⟨k.toArray⟩] w (TNumAt X g v bad k w) := by
 have HV := Lib.hid (value_any (k := k) (kd := 3) hX hT hk hl)
 clear hX hT hk hl
 have hf2 := field79_2
 go_enter Tryz.func28, Tryz.ntmps28
 go_wp2_with (go_at_call 64; refine HV.out.mono ?_; rintro e w1 h1; obtain ⟨ho1, ht1, u, A1, c1, B1, d1, hu, rfl, hj1⟩ := h1.five; have HO1 := Lib.hid ho1; have HT1 := Lib.hid ht1; have HU := Lib.hid hu; clear ho1 ht1 h1 hj1 hu)
 go_ret
 exact ⟨HO1.out, HT1.out, by rw [← HU.out]; rfl⟩
theorem BytesAt.lies {w : World} {b o : Nat} {l : Bytes} (h : BytesAt w (some ⟨b, o, none⟩) l) : ∀ j x, l[j]? = some x → w.cell? ⟨b, o + j, none⟩ = some (.int .u8 x.toNat) := by
 intro j x hx
 obtain ⟨b', o', e, hc⟩ := h j x hx
 cases e; exact hc
end Go.Proofs.YtjehnejgojgahaaGreatDoor
