/-
  A part of the proof of MessageTakes: the texts W2 W3 W4 N1 N2 W5.
-/
import Derived.Test.YtjehnejgojgahaaGreatDoorK03
import Derived.Test.YtjehnejgojgahaaGreatDoorK04
import Derived.Test.YtjehnejgojgahaaGreatDoorK23
import Derived.Test.YtjehnejgojgahaaGreatDoorK24
import Derived.Lib.ValidAsc
import Derived.StringKeys
namespace Go.Proofs.YtjehnejgojgahaaGreatDoor
open Go.RowKit
set_option linter.unusedVariables false
set_option linter.unusedSimpArgs false
def WrOK (v : JV) (t : Bytes) : Prop := ∀ (X : Nat → Prop) (B n c : Nat) (A : Option Addr) (L : Bytes) (w : World) (cs : List Value), WIn X B w L A n c → JIs X w v cs → L.length + t.length ≤ 1000000000000 →
 Calls Tryz.prog 99 #[.agg cs.toArray, .slice A n c] w (JWordAt B (L ++ t) w)
theorem joinP_append (a b : List Bytes) : ∃ x, joinP (a ++ b) = joinP a ++ x := by
 unfold joinP
 rw [List.zipIdx_append, List.map_append, List.flatten_append]
 exact ⟨_, rfl⟩
theorem joinP_take_le (ts : List Bytes) (j : Nat) : (joinP (ts.take j)).length ≤ (joinP ts).length := by
 obtain ⟨x, hx⟩ := joinP_append (ts.take j) (ts.drop j)
 rw [List.take_append_drop] at hx
 rw [hx, List.length_append]
 omega
structure WMid (B Hb : Nat) (cs : List Value) (w : World) (L : Bytes) (rv : Value) (wx : World) : Prop where
 own : ∃ A n c, rv = .slice A n c ∧ OwnB wx B rv L
 wb : WB B w wx
 box : Blk wx Hb cs 79
theorem WMid.snoc {B Hb gg n cap : Nat} {cs : List Value} {w wx wz wy : World} {L : Bytes} {rv : Value} {y : UInt8} (h : WMid B Hb cs w L rv wx) (hz : Only (fun _ => False) wx wz) (ho : OwnB wy B (.slice (some ⟨gg, 0, none⟩) n cap) (L ++ [y])) (hg : wz.grownBy wy rv.ownBlock) :
  WMid B Hb cs w (L ++ [y]) (.slice (some ⟨gg, 0, none⟩) n cap) wy := by
 obtain ⟨A, n0, c, e, hown⟩ := h.own
 have hw : WB B wx wy := (WB.of_false hz).trans (WB.grown (hown.only hz (fun _ _ => id)) hg)
 exact ⟨⟨_, _, _, rfl, ho⟩, h.wb.trans hw, hw.blk h.box (by decide)⟩
theorem WMid.still {B Hb : Nat} {cs : List Value} {w wx wz : World} {L : Bytes} {rv : Value} (h : WMid B Hb cs w L rv wx) (hz : Only (fun _ => False) wx wz) : WMid B Hb cs w L rv wz := by
 obtain ⟨A, n0, c, e, hown⟩ := h.own
 exact ⟨⟨A, n0, c, e, hown.only hz (fun _ _ => id)⟩, h.wb.trans (WB.of_false hz), h.box.only hz id⟩
theorem WMid.next {B Hb : Nat} {cs : List Value} {w wx wy : World} {L T : Bytes} {A : Option Addr} {n c : Nat} {rv : Value} (h : WMid B Hb cs w L rv wx) (ho : OwnB wy B (.slice A n c) T) (hw : WB B wx wy) : WMid B Hb cs w T (.slice A n c) wy :=
 ⟨⟨A, n, c, rfl, ho⟩, h.wb.trans hw, hw.blk h.box (by decide)⟩
set_option maxRecDepth 100000 in
set_option maxHeartbeats 1600000 in
theorem write_arr {l : List JV} {ts : List Bytes} (hn : ts.length = l.length) (hih : ∀ (i : Nat) (v : JV) (t : Bytes), l[i]? = some v → ts[i]? = some t → WrOK v t) (hl3 : l.length ≤ 3000000000) : WrOK (.mk 5 [] 0 l []) (91 :: (joinP (ts) ++ [93])) := by
 intro X B n c A L w cs hI hJ hlen
 obtain ⟨A1, c1, B1, d1, rfl, hls, hks⟩ := hJ.parts
 have HI := Lib.hid hI
 have HLS := Lib.hid hls
 have HKS := Lib.hid hks
 have HTOT := Lib.hid hlen
 have HLOW := Lib.hid hI.low
 have HB8 := Lib.hid hI.b8
 have HIHA := Lib.hid hih
 have HBB := Lib.hid hI.base
 have hl3z : (l.length : Int) ≤ 3000000000 := by omega
 skip
 skip
 clear hI hJ hlen hls hks hih
 unfold cells5 txt
 try simp only [List.length_nil]
 go_enter Tryz.func99, Tryz.ntmps99
 go_wp2_with (refine stop_append (t := 22) rfl ?_)
 refine ⟨?_⟩
 refine wpList_append_z rfl (.tmp 35) (.tmp 38) rfl rfl ((HI.out.own.alloc _).alloc _) rfl (l := L) (y := 91) rfl (by have h9 := new_cells (w.alloc (.cells #[.int .i64 5, .string ⟨#[]⟩, .int .u64 0, .slice A1 l.length c1, .slice B1 0 d1] 79)) [.int .u8 91] 5 (j := 0) rfl; rw [World.size_alloc] at h9; exact h9) (by have h0 := HTOT.out; simp at h0; omega) (by have := HBB.out; simp; omega) ?_
 intro gg ng cap w1 hown1 hgr1 hor1
 have hw1 := (((WB.refl B w).alloc _).alloc _).trans (WB.grown ((HI.out.own.alloc _).alloc _) hgr1)
 have hbx := (WB.trans (WB.alloc (WB.refl B _) _) (WB.grown ((HI.out.own.alloc _).alloc _) hgr1)).blk (Blk.new w [.int .i64 5, .string ⟨#[]⟩, .int .u64 0, .slice A1 l.length c1, .slice B1 0 d1] 79) (by decide)
 have HW1 := Lib.hid hw1
 have HBX := Lib.hid hbx
 have HOWN1 := Lib.hid hown1
 have hx3 := hbx.cell 3 rfl
 have hx0 := hbx.cell 0 rfl
 clear hown1 hgr1 hor1 hw1 hbx
 go_upto_region 15 with fail
 generalize w.heap.size = Hb at HBX hx3 hx0 ⊢
 go_loopw [43, 1] (fun s43 s1 wr => ∃ j : Nat, j ≤ l.length ∧ s43 = .int .i64 (j : Int) ∧ WMid B Hb [.int .i64 5, .string ⟨#[]⟩, .int .u64 0, .slice A1 l.length c1, .slice B1 0 d1] w1 (L ++ 91 :: joinP ((ts).take j)) s1 wr) (fun i _ _ => l.length - (intOf i).toNat)
 case atStart => exact ⟨0, by omega, rfl, ⟨⟨some ⟨gg, 0, none⟩, ng, cap, rfl, by simpa [joinP_nil] using HOWN1.out⟩, WB.refl _ _, HBX.out⟩⟩
 case round =>
  obtain ⟨j, hj, rfl, hm⟩ := hrel
  have HM := Lib.hid hm
  obtain ⟨A0, n0, c0, e0, hown⟩ := hm.own
  subst e0
  have HOWN := Lib.hid hown
  have hk0 := hm.box.cell 0 rfl
  clear hown hm
  rcases Nat.lt_or_ge j l.length with hlt | hge
  ·obtain ⟨x, hx⟩ : ∃ x, l[j]? = some x := ⟨l[j], List.getElem?_eq_getElem hlt⟩
   obtain ⟨tx, htx⟩ : ∃ tx, ts[j]? = some tx := ⟨ts[j]'(by omega), List.getElem?_eq_getElem (by omega)⟩
   have q : decide ((j : Int) < (l.length : Int)) = true := by simp; omega
   have hjz : (j : Int) < (l.length : Int) := by omega
   have h1w := HW1.out.only
   have hGL : ∀ wy, WB B w1 wy → Gl wy := fun wy hw => (HI.out.gl.only h1w (fun b hb => by have := HB8.out; show ¬ B ≤ b; omega)).only hw.only (fun b hb => by have := HB8.out; show ¬ B ≤ b; omega)
   have HGL := Lib.hid hGL
   have HBS := Lib.hid (show ∀ wy, WB B w1 wy → B ≤ wy.heap.size from fun wy hw => by have h1 := hw.only.size; have h2 := h1w.size; have h3 := HBB.out; omega)
   obtain ⟨A2, c2, B2, d2, hjx, hlx⟩ := HLS.out j x hx
   obtain ⟨bA, oA, rfl, hXA, hcA⟩ := hlx
   have hall : ∀ wy, WB B w1 wy → Only (B ≤ ·) w wy := fun wy hw => h1w.trans hw.only
   have HJK := Lib.hid (show ∀ wy, WB B w1 wy → JIs X wy x (cells5 x.kind x.str x.num (.slice A2 x.list.length c2) (.slice B2 x.keys.length d2)) from fun wy hw => hjx.only (hall wy hw) (fun b hb hy => ⟨by have := HLOW.out b hy; show ¬ B ≤ b; omega, hy⟩))
   have HRG := Lib.hid (show wr.rangeAt bA (oA + j * 5) (cells5 x.kind x.str x.num (.slice A2 x.list.length c2) (.slice B2 x.keys.length d2)) from fun i y hy => by
    have := (hall wr HM.out.wb).cell (hcA i y hy) (by have := HLOW.out bA hXA; show ¬ B ≤ _; simp; omega)
    rw [Nat.add_assoc, Nat.mul_comm j 5]; exact this)
   have HIH := Lib.hid (HIHA.out j x tx hx htx)
   have hit : ts[j]? = some tx := htx
   have HST := Lib.hid (show L ++ 91 :: joinP ((ts).take (j + 1)) = L ++ 91 :: (joinP ((ts).take j) ++ ((if ((ts).take j).length = 0 then [] else [44]) ++ tx)) by rw [take_snoc hit, joinP_snoc])
   have HBD := Lib.hid (show (L ++ 91 :: (joinP ((ts).take j) ++ ((if ((ts).take j).length = 0 then [] else [44]) ++ tx))).length + 1 ≤ 1000000000000 by
    rw [← HST.out]
    have h1 := joinP_take_le (ts) (j + 1)
    have h2 := HTOT.out
    simp only [List.length_append, List.length_cons, List.length_nil] at h2 ⊢
    omega)
   have hjn : ((ts).take j).length = j := by rw [List.length_take]; (try simp only [List.length_zipWith]); omega
   rw [hjn] at HST HBD
   have HLT := Lib.hid hlt
   clear hx htx hjx hcA hXA hall hGL h1w hlt hit hjn
   rcases Nat.eq_zero_or_pos j with hj0 | hj0
   ·obtain rfl : j = 0 := by omega
    skip
    have HRG0 := Lib.hid (show wr.rangeAt bA oA (cells5 x.kind x.str x.num (.slice A2 x.list.length c2) (.slice B2 x.keys.length d2)) from by have h := HRG.out; simpa using h)
    have HLEN2 := Lib.hid (show ((L ++ 91 :: joinP ((ts).take 0))).length + tx.length ≤ 1000000000000 by have h1 := HBD.out; simp at h1 ⊢; omega)
    have HLEN := Lib.hid (show (L ++ 91 :: joinP ((ts).take 0)).length + 1 ≤ 2 ^ 40 by have h1 := HBD.out; simp at h1 ⊢; omega)
    go_wp2_with (first
      | (refine load79 rfl (.tmp 46) rfl rfl HRG0.out rfl ?_)
      | (refine wpList_store_blk (cs := cells5 x.kind x.str x.num (.slice A2 x.list.length c2) (.slice B2 x.keys.length d2)) rfl 79 (.tmp 7) (.tmp 47) rfl rfl rfl rfl (Blk.new wr [.int .i64 0, .string ⟨#[]⟩, .int .u64 0, .slice none 0 0, .slice none 0 0] 79) rfl info79s rfl ?_; intro w4 hb4 ho4; have o4 : Only (fun _ => False) wr w4 := ((Only.refl _ wr).alloc _).then ho4 (fun i hi e => by omega); have HB4 := Lib.hid hb4; have HO4 := Lib.hid o4; have hm4 := HM.out.still o4; have HM4 := Lib.hid hm4; have hk4 := hm4.box.cell 0 rfl; have hk44 := hm4.box.cell 4 rfl; clear hb4 ho4 o4 hm4)
      | (refine wpList_load_blk (cs := cells5 x.kind x.str x.num (.slice A2 x.list.length c2) (.slice B2 x.keys.length d2)) rfl 79 (.tmp 7) rfl rfl HB4.out agg79 info79s ?_)
      | (go_at_call 99; refine (HIH.out X B _ _ _ _ _ _ ⟨HLOW.out, HGL.out w4 HM4.out.wb, HB8.out, (HOWN.out.only HO4.out (fun _ _ => id)), HBS.out w4 HM4.out.wb⟩ (HJK.out w4 HM4.out.wb) (HLEN2.out)).mono ?_; rintro e w6 ⟨A6, n6, c6, rfl, ho6, hw6⟩; have HM6 := Lib.hid (HM4.out.next ho6 hw6); clear ho6 hw6))
    go_roundw
    case rel =>
     refine ⟨0 + 1, by have := HLT.out; omega, by push_cast; rfl, ?_⟩
     have h := HM6.out
     have e : L ++ 91 :: joinP ((ts).take (0 + 1)) = _ := HST.out
     rw [e]
     skip
     simpa [List.append_assoc, memP, quoteP, joinP_nil] using h
    case measure => have := HLT.out; simp [intOf]; omega
   ·have qj : decide ((0 : Int) < (j : Int)) = true := by simp; omega
    skip
    have qj2 : (0 : Int) < (j : Int) := by omega
    have HLEN2 := Lib.hid (show (((L ++ 91 :: joinP ((ts).take j)) ++ [44])).length + tx.length ≤ 1000000000000 by have h1 := HBD.out; simp at h1 ⊢; omega)
    have HLEN := Lib.hid (show (L ++ 91 :: joinP ((ts).take j)).length + 1 ≤ 2 ^ 40 by have h1 := HBD.out; simp at h1 ⊢; omega)
    go_wp2_with (first
      | (refine load79 rfl (.tmp 46) rfl rfl HRG.out rfl ?_)
      | (refine wpList_store_blk (cs := cells5 x.kind x.str x.num (.slice A2 x.list.length c2) (.slice B2 x.keys.length d2)) rfl 79 (.tmp 7) (.tmp 47) rfl rfl rfl rfl (Blk.new wr [.int .i64 0, .string ⟨#[]⟩, .int .u64 0, .slice none 0 0, .slice none 0 0] 79) rfl info79s rfl ?_; intro w4 hb4 ho4; have o4 : Only (fun _ => False) wr w4 := ((Only.refl _ wr).alloc _).then ho4 (fun i hi e => by omega); have HB4 := Lib.hid hb4; have HO4 := Lib.hid o4; have hm4 := HM.out.still o4; have HM4 := Lib.hid hm4; have hk4 := hm4.box.cell 0 rfl; have hk44 := hm4.box.cell 4 rfl; clear hb4 ho4 o4 hm4)
      | (refine stop_append (t := 22) rfl ?_))
    refine ⟨?_⟩
    refine wpList_append_z rfl (.tmp 50) (.tmp 51) rfl rfl ((HOWN.out.only HO4.out (fun _ _ => id)).alloc _) rfl (y := 44) rfl (new_cells _ [.int .u8 44] 5 rfl) HLEN.out (by have h1 := HM.out.wb.only.size; have h2 := HO4.out.size; have h3 := HBS.out wr HM.out.wb; simp; omega) ?_
    intro gg5 n5 cap5 w5 hown5 hgr5 hor5
    have hm5 := HM.out.snoc (HO4.out.alloc _) hown5 hgr5
    have HM5 := Lib.hid hm5
    have HOWN5 := Lib.hid hown5
    have hk5 := hm5.box.cell 0 rfl
    have hk54 := hm5.box.cell 4 rfl
    have HB5 := Lib.hid ((WB.trans (WB.alloc (WB.refl B w4) _) (WB.grown ((HOWN.out.only HO4.out (fun _ _ => id)).alloc _) hgr5)).blk HB4.out (by decide))
    clear hown5 hgr5 hor5 hm5
    go_wp2_with (first
      | (refine wpList_load_blk (cs := cells5 x.kind x.str x.num (.slice A2 x.list.length c2) (.slice B2 x.keys.length d2)) rfl 79 (.tmp 7) rfl rfl HB5.out agg79 info79s ?_)
      | (go_at_call 99; refine (HIH.out X B _ _ _ _ _ _ ⟨HLOW.out, HGL.out w5 HM5.out.wb, HB8.out, HOWN5.out, HBS.out w5 HM5.out.wb⟩ (HJK.out w5 HM5.out.wb) (HLEN2.out)).mono ?_; rintro e w6 ⟨A6, n6, c6, rfl, ho6, hw6⟩; have HM6 := Lib.hid (HM5.out.next ho6 hw6); clear ho6 hw6))
    go_roundw
    case rel =>
     refine ⟨j + 1, by have := HLT.out; omega, by push_cast; rfl, ?_⟩
     have h := HM6.out
     have e : L ++ 91 :: joinP ((ts).take (j + 1)) = _ := HST.out
     rw [e]
     have hjn0 : ¬ j = 0 := by omega
     simpa [List.append_assoc, memP, quoteP, joinP_nil, hjn0] using h
    case measure => have := HLT.out; simp [intOf]; omega
  ·have q : decide ((j : Int) < (l.length : Int)) = false := by simp; omega
   obtain rfl : j = l.length := by omega
   have hfull : (ts).take l.length = ts := List.take_of_length_le (by omega)
   have HFU := Lib.hid hfull
   clear hfull
   go_wp2_with (refine stop_append (t := 22) rfl ?_)
   refine ⟨?_⟩
   refine wpList_append_z rfl (.tmp 69) (.tmp 72) rfl rfl (HOWN.out.alloc _) rfl (y := 93) rfl (new_cells _ [.int .u8 93] 5 rfl) (by have h0 := HTOT.out; rw [HFU.out]; simp at h0 ⊢; omega) (by have h1 := HM.out.wb.only.size; have h2 := HW1.out.only.size; have h3 := HBB.out; simp; omega) ?_
   intro gg3 n3 cap3 w3 hown3 hgr3 hor3
   have hm3 := HM.out.snoc ((Only.refl _ wr).alloc _) hown3 hgr3
   have HM3 := Lib.hid hm3
   have HO3 := Lib.hid hown3
   clear hown3 hgr3 hor3 hm3
   go_wp2
   go_ret
   have h3 := HO3.out
   rw [HFU.out, List.append_assoc, List.cons_append] at h3
   exact ⟨_, _, _, rfl, h3, HW1.out.trans HM3.out.wb⟩
set_option maxRecDepth 100000 in
set_option maxHeartbeats 1600000 in
theorem write_obj {l : List JV} {ks ts : List Bytes} (hn : ts.length = l.length) (hkn : ks.length = l.length) (hpk : ∀ k ∈ ks, PlainT k ∧ ∀ x ∈ k, x.toNat < 128) (hih : ∀ (i : Nat) (v : JV) (t : Bytes), l[i]? = some v → ts[i]? = some t → WrOK v t) (hl3 : l.length ≤ 3000000000) : WrOK (.mk 6 [] 0 l ks) (123 :: (joinP (List.zipWith memP ks ts) ++ [125])) := by
 intro X B n c A L w cs hI hJ hlen
 obtain ⟨A1, c1, B1, d1, rfl, hls, hks⟩ := hJ.parts
 have HI := Lib.hid hI
 have HLS := Lib.hid hls
 have HKS := Lib.hid hks
 have HTOT := Lib.hid hlen
 have HLOW := Lib.hid hI.low
 have HB8 := Lib.hid hI.b8
 have HIHA := Lib.hid hih
 have HBB := Lib.hid hI.base
 have hl3z : (l.length : Int) ≤ 3000000000 := by omega
 have HPK := Lib.hid hpk
 have HKN := Lib.hid hkn
 clear hI hJ hlen hls hks hih hpk hkn
 unfold cells5 txt
 try simp only [List.length_nil]
 go_enter Tryz.func99, Tryz.ntmps99
 go_wp2_with (refine stop_append (t := 22) rfl ?_)
 refine ⟨?_⟩
 refine wpList_append_z rfl (.tmp 35) (.tmp 38) rfl rfl ((HI.out.own.alloc _).alloc _) rfl (l := L) (y := 123) rfl (by have h9 := new_cells (w.alloc (.cells #[.int .i64 6, .string ⟨#[]⟩, .int .u64 0, .slice A1 l.length c1, .slice B1 ks.length d1] 79)) [.int .u8 123] 5 (j := 0) rfl; rw [World.size_alloc] at h9; exact h9) (by have h0 := HTOT.out; simp at h0; omega) (by have := HBB.out; simp; omega) ?_
 intro gg ng cap w1 hown1 hgr1 hor1
 have hw1 := (((WB.refl B w).alloc _).alloc _).trans (WB.grown ((HI.out.own.alloc _).alloc _) hgr1)
 have hbx := (WB.trans (WB.alloc (WB.refl B _) _) (WB.grown ((HI.out.own.alloc _).alloc _) hgr1)).blk (Blk.new w [.int .i64 6, .string ⟨#[]⟩, .int .u64 0, .slice A1 l.length c1, .slice B1 ks.length d1] 79) (by decide)
 have HW1 := Lib.hid hw1
 have HBX := Lib.hid hbx
 have HOWN1 := Lib.hid hown1
 have hx3 := hbx.cell 3 rfl
 have hx0 := hbx.cell 0 rfl
 clear hown1 hgr1 hor1 hw1 hbx
 go_upto_region 15 with fail
 generalize w.heap.size = Hb at HBX hx3 hx0 ⊢
 go_loopw [43, 1] (fun s43 s1 wr => ∃ j : Nat, j ≤ l.length ∧ s43 = .int .i64 (j : Int) ∧ WMid B Hb [.int .i64 6, .string ⟨#[]⟩, .int .u64 0, .slice A1 l.length c1, .slice B1 ks.length d1] w1 (L ++ 123 :: joinP ((List.zipWith memP ks ts).take j)) s1 wr) (fun i _ _ => l.length - (intOf i).toNat)
 case atStart => exact ⟨0, by omega, rfl, ⟨⟨some ⟨gg, 0, none⟩, ng, cap, rfl, by simpa [joinP_nil] using HOWN1.out⟩, WB.refl _ _, HBX.out⟩⟩
 case round =>
  obtain ⟨j, hj, rfl, hm⟩ := hrel
  have HM := Lib.hid hm
  obtain ⟨A0, n0, c0, e0, hown⟩ := hm.own
  subst e0
  have HOWN := Lib.hid hown
  have hk0 := hm.box.cell 0 rfl
  clear hown hm
  rcases Nat.lt_or_ge j l.length with hlt | hge
  ·obtain ⟨x, hx⟩ : ∃ x, l[j]? = some x := ⟨l[j], List.getElem?_eq_getElem hlt⟩
   obtain ⟨tx, htx⟩ : ∃ tx, ts[j]? = some tx := ⟨ts[j]'(by omega), List.getElem?_eq_getElem (by omega)⟩
   have q : decide ((j : Int) < (l.length : Int)) = true := by simp; omega
   have hjz : (j : Int) < (l.length : Int) := by omega
   have h1w := HW1.out.only
   have hGL : ∀ wy, WB B w1 wy → Gl wy := fun wy hw => (HI.out.gl.only h1w (fun b hb => by have := HB8.out; show ¬ B ≤ b; omega)).only hw.only (fun b hb => by have := HB8.out; show ¬ B ≤ b; omega)
   have HGL := Lib.hid hGL
   have HBS := Lib.hid (show ∀ wy, WB B w1 wy → B ≤ wy.heap.size from fun wy hw => by have h1 := hw.only.size; have h2 := h1w.size; have h3 := HBB.out; omega)
   obtain ⟨A2, c2, B2, d2, hjx, hlx⟩ := HLS.out j x hx
   obtain ⟨bA, oA, rfl, hXA, hcA⟩ := hlx
   have hall : ∀ wy, WB B w1 wy → Only (B ≤ ·) w wy := fun wy hw => h1w.trans hw.only
   have HJK := Lib.hid (show ∀ wy, WB B w1 wy → JIs X wy x (cells5 x.kind x.str x.num (.slice A2 x.list.length c2) (.slice B2 x.keys.length d2)) from fun wy hw => hjx.only (hall wy hw) (fun b hb hy => ⟨by have := HLOW.out b hy; show ¬ B ≤ b; omega, hy⟩))
   have HRG := Lib.hid (show wr.rangeAt bA (oA + j * 5) (cells5 x.kind x.str x.num (.slice A2 x.list.length c2) (.slice B2 x.keys.length d2)) from fun i y hy => by
    have := (hall wr HM.out.wb).cell (hcA i y hy) (by have := HLOW.out bA hXA; show ¬ B ≤ _; simp; omega)
    rw [Nat.add_assoc, Nat.mul_comm j 5]; exact this)
   have HIH := Lib.hid (HIHA.out j x tx hx htx)
   obtain ⟨kx, hkx⟩ : ∃ kx, ks[j]? = some kx := ⟨ks[j]'(by have := HKN.out; omega), List.getElem?_eq_getElem (by have := HKN.out; omega)⟩
   obtain ⟨bK, oK, rfl, hXK, hcK⟩ := HKS.out j kx hkx
   have hjkz : (j : Int) < (ks.length : Int) := by have := HKN.out; omega
   have hjkn : j < ks.length := by have := HKN.out; omega
   have HKC := Lib.hid (show ∀ wy, WB B w1 wy → wy.cell? ⟨bK, oK + j, none⟩ = some (.string ⟨kx.toArray⟩) from fun wy hw => by
    have h := hcK 0 _ rfl
    have h2 := hw.only.cell (h1w.cell h (by have := HLOW.out bK hXK; show ¬ B ≤ _; simp; omega)) (by have := HLOW.out bK hXK; show ¬ B ≤ _; simp; omega)
    simpa [txt] using h2)
   have HPL := Lib.hid (HPK.out kx (List.mem_of_getElem? hkx)).1
   have hit : (List.zipWith memP ks ts)[j]? = some (memP kx tx) := by rw [List.getElem?_zipWith, hkx, htx]
   have HST := Lib.hid (show L ++ 123 :: joinP ((List.zipWith memP ks ts).take (j + 1)) = L ++ 123 :: (joinP ((List.zipWith memP ks ts).take j) ++ ((if ((List.zipWith memP ks ts).take j).length = 0 then [] else [44]) ++ memP kx tx)) by rw [take_snoc hit, joinP_snoc])
   have HBD := Lib.hid (show (L ++ 123 :: (joinP ((List.zipWith memP ks ts).take j) ++ ((if ((List.zipWith memP ks ts).take j).length = 0 then [] else [44]) ++ memP kx tx))).length + 1 ≤ 1000000000000 by
    rw [← HST.out]
    have h1 := joinP_take_le (List.zipWith memP ks ts) (j + 1)
    have h2 := HTOT.out
    simp only [List.length_append, List.length_cons, List.length_nil] at h2 ⊢
    omega)
   have hjn : ((List.zipWith memP ks ts).take j).length = j := by rw [List.length_take]; (try simp only [List.length_zipWith]); have := HKN.out; omega
   rw [hjn] at HST HBD
   have HLT := Lib.hid hlt
   clear hx htx hjx hcA hXA hall hGL h1w hlt hit hjn
   rcases Nat.eq_zero_or_pos j with hj0 | hj0
   ·obtain rfl : j = 0 := by omega
    replace HKC := Lib.hid (show ∀ wy, WB B w1 wy → wy.cell? ⟨bK, oK, none⟩ = some (.string ⟨kx.toArray⟩) from fun wy hw => by have h := HKC.out wy hw; simpa using h)
    have HRG0 := Lib.hid (show wr.rangeAt bA oA (cells5 x.kind x.str x.num (.slice A2 x.list.length c2) (.slice B2 x.keys.length d2)) from by have h := HRG.out; simpa using h)
    have HLEN3 := Lib.hid (show ((L ++ 123 :: joinP ((List.zipWith memP ks ts).take 0))).length + kx.length ≤ 1000000000000 by have h1 := HBD.out; simp [memP, quoteP] at h1 ⊢; omega)
    have HLEN4 := Lib.hid (show ((L ++ 123 :: joinP ((List.zipWith memP ks ts).take 0)) ++ 34 :: (kx ++ [34])).length + 1 ≤ 2 ^ 40 by have h1 := HBD.out; simp [memP, quoteP] at h1 ⊢; omega)
    have HLEN2 := Lib.hid (show (((L ++ 123 :: joinP ((List.zipWith memP ks ts).take 0)) ++ 34 :: (kx ++ [34])) ++ [58]).length + tx.length ≤ 1000000000000 by have h1 := HBD.out; simp [memP, quoteP] at h1 ⊢; omega)
    have HLEN := Lib.hid (show (L ++ 123 :: joinP ((List.zipWith memP ks ts).take 0)).length + 1 ≤ 2 ^ 40 by have h1 := HBD.out; simp at h1 ⊢; omega)
    go_wp2_with (first
      | (refine load79 rfl (.tmp 46) rfl rfl HRG0.out rfl ?_)
      | (refine wpList_store_blk (cs := cells5 x.kind x.str x.num (.slice A2 x.list.length c2) (.slice B2 x.keys.length d2)) rfl 79 (.tmp 7) (.tmp 47) rfl rfl rfl rfl (Blk.new wr [.int .i64 0, .string ⟨#[]⟩, .int .u64 0, .slice none 0 0, .slice none 0 0] 79) rfl info79s rfl ?_; intro w4 hb4 ho4; have o4 : Only (fun _ => False) wr w4 := ((Only.refl _ wr).alloc _).then ho4 (fun i hi e => by omega); have HB4 := Lib.hid hb4; have HO4 := Lib.hid o4; have hm4 := HM.out.still o4; have HM4 := Lib.hid hm4; have hk4 := hm4.box.cell 0 rfl; have hk44 := hm4.box.cell 4 rfl; have hkc4 := HKC.out w4 hm4.wb; clear hb4 ho4 o4 hm4)
      | (go_at_call 123; refine (jword_any (HOWN.out.only HO4.out (fun _ _ => id)) (HBS.out w4 HM4.out.wb) HPL.out HLEN3.out).mono ?_; rintro e w7 ⟨A7, n7, c7, rfl, ho7, hw7⟩; have HM7 := Lib.hid (HM4.out.next ho7 hw7); have HO7 := Lib.hid ho7; have HB7 := Lib.hid (hw7.blk HB4.out (by decide)); clear ho7 hw7)
      | (refine stop_append (t := 22) rfl ?_))
    refine ⟨?_⟩
    refine wpList_append_z rfl (.tmp 62) (.tmp 63) rfl rfl (HO7.out.alloc _) rfl (y := 58) rfl (new_cells _ [.int .u8 58] 5 rfl) HLEN4.out (by have h1 := HBS.out w7 HM7.out.wb; simp; omega) ?_
    intro gg8 n8 cap8 w8 hown8 hgr8 hor8
    have hm8 := HM7.out.snoc ((Only.refl _ w7).alloc _) hown8 hgr8
    have HM8 := Lib.hid hm8
    have HO8 := Lib.hid hown8
    have HB8x := Lib.hid ((WB.trans (WB.alloc (WB.refl B w7) _) (WB.grown (HO7.out.alloc _) hgr8)).blk HB7.out (by decide))
    clear hown8 hgr8 hor8 hm8
    go_wp2_with (first
      | (refine wpList_load_blk (cs := cells5 x.kind x.str x.num (.slice A2 x.list.length c2) (.slice B2 x.keys.length d2)) rfl 79 (.tmp 7) rfl rfl HB8x.out agg79 info79s ?_)
      | (go_at_call 99; refine (HIH.out X B _ _ _ _ _ _ ⟨HLOW.out, HGL.out w8 HM8.out.wb, HB8.out, HO8.out, HBS.out w8 HM8.out.wb⟩ (HJK.out w8 HM8.out.wb) (HLEN2.out)).mono ?_; rintro e w6 ⟨A6, n6, c6, rfl, ho6, hw6⟩; have HM6 := Lib.hid (HM8.out.next ho6 hw6); clear ho6 hw6))
    go_roundw
    case rel =>
     refine ⟨0 + 1, by have := HLT.out; omega, by push_cast; rfl, ?_⟩
     have h := HM6.out
     have e : L ++ 123 :: joinP ((List.zipWith memP ks ts).take (0 + 1)) = _ := HST.out
     rw [e]
     skip
     simpa [List.append_assoc, memP, quoteP, joinP_nil] using h
    case measure => have := HLT.out; simp [intOf]; omega
   ·have qj : decide ((0 : Int) < (j : Int)) = true := by simp; omega
    skip
    have qj2 : (0 : Int) < (j : Int) := by omega
    have HLEN3 := Lib.hid (show (((L ++ 123 :: joinP ((List.zipWith memP ks ts).take j)) ++ [44])).length + kx.length ≤ 1000000000000 by have h1 := HBD.out; simp [memP, quoteP] at h1 ⊢; omega)
    have HLEN4 := Lib.hid (show (((L ++ 123 :: joinP ((List.zipWith memP ks ts).take j)) ++ [44]) ++ 34 :: (kx ++ [34])).length + 1 ≤ 2 ^ 40 by have h1 := HBD.out; simp [memP, quoteP] at h1 ⊢; omega)
    have HLEN2 := Lib.hid (show ((((L ++ 123 :: joinP ((List.zipWith memP ks ts).take j)) ++ [44]) ++ 34 :: (kx ++ [34])) ++ [58]).length + tx.length ≤ 1000000000000 by have h1 := HBD.out; simp [memP, quoteP] at h1 ⊢; omega)
    have HLEN := Lib.hid (show (L ++ 123 :: joinP ((List.zipWith memP ks ts).take j)).length + 1 ≤ 2 ^ 40 by have h1 := HBD.out; simp at h1 ⊢; omega)
    go_wp2_with (first
      | (refine load79 rfl (.tmp 46) rfl rfl HRG.out rfl ?_)
      | (refine wpList_store_blk (cs := cells5 x.kind x.str x.num (.slice A2 x.list.length c2) (.slice B2 x.keys.length d2)) rfl 79 (.tmp 7) (.tmp 47) rfl rfl rfl rfl (Blk.new wr [.int .i64 0, .string ⟨#[]⟩, .int .u64 0, .slice none 0 0, .slice none 0 0] 79) rfl info79s rfl ?_; intro w4 hb4 ho4; have o4 : Only (fun _ => False) wr w4 := ((Only.refl _ wr).alloc _).then ho4 (fun i hi e => by omega); have HB4 := Lib.hid hb4; have HO4 := Lib.hid o4; have hm4 := HM.out.still o4; have HM4 := Lib.hid hm4; have hk4 := hm4.box.cell 0 rfl; have hk44 := hm4.box.cell 4 rfl; have hkc4 := HKC.out w4 hm4.wb; clear hb4 ho4 o4 hm4)
      | (refine stop_append (t := 22) rfl ?_))
    refine ⟨?_⟩
    refine wpList_append_z rfl (.tmp 50) (.tmp 51) rfl rfl ((HOWN.out.only HO4.out (fun _ _ => id)).alloc _) rfl (y := 44) rfl (new_cells _ [.int .u8 44] 5 rfl) HLEN.out (by have h1 := HM.out.wb.only.size; have h2 := HO4.out.size; have h3 := HBS.out wr HM.out.wb; simp; omega) ?_
    intro gg5 n5 cap5 w5 hown5 hgr5 hor5
    have hm5 := HM.out.snoc (HO4.out.alloc _) hown5 hgr5
    have HM5 := Lib.hid hm5
    have HOWN5 := Lib.hid hown5
    have hk5 := hm5.box.cell 0 rfl
    have hk54 := hm5.box.cell 4 rfl
    have hkc5 := HKC.out w5 hm5.wb
    have HB5 := Lib.hid ((WB.trans (WB.alloc (WB.refl B w4) _) (WB.grown ((HOWN.out.only HO4.out (fun _ _ => id)).alloc _) hgr5)).blk HB4.out (by decide))
    clear hown5 hgr5 hor5 hm5
    go_wp2_with (first
      | (go_at_call 123; refine (jword_any HOWN5.out (HBS.out w5 HM5.out.wb) HPL.out HLEN3.out).mono ?_; rintro e w7 ⟨A7, n7, c7, rfl, ho7, hw7⟩; have HM7 := Lib.hid (HM5.out.next ho7 hw7); have HO7 := Lib.hid ho7; have HB7 := Lib.hid (hw7.blk HB5.out (by decide)); clear ho7 hw7)
      | (refine stop_append (t := 22) rfl ?_))
    refine ⟨?_⟩
    refine wpList_append_z rfl (.tmp 62) (.tmp 63) rfl rfl (HO7.out.alloc _) rfl (y := 58) rfl (new_cells _ [.int .u8 58] 5 rfl) HLEN4.out (by have h1 := HBS.out w7 HM7.out.wb; simp; omega) ?_
    intro gg8 n8 cap8 w8 hown8 hgr8 hor8
    have hm8 := HM7.out.snoc ((Only.refl _ w7).alloc _) hown8 hgr8
    have HM8 := Lib.hid hm8
    have HO8 := Lib.hid hown8
    have HB8x := Lib.hid ((WB.trans (WB.alloc (WB.refl B w7) _) (WB.grown (HO7.out.alloc _) hgr8)).blk HB7.out (by decide))
    clear hown8 hgr8 hor8 hm8
    go_wp2_with (first
      | (refine wpList_load_blk (cs := cells5 x.kind x.str x.num (.slice A2 x.list.length c2) (.slice B2 x.keys.length d2)) rfl 79 (.tmp 7) rfl rfl HB8x.out agg79 info79s ?_)
      | (go_at_call 99; refine (HIH.out X B _ _ _ _ _ _ ⟨HLOW.out, HGL.out w8 HM8.out.wb, HB8.out, HO8.out, HBS.out w8 HM8.out.wb⟩ (HJK.out w8 HM8.out.wb) (HLEN2.out)).mono ?_; rintro e w6 ⟨A6, n6, c6, rfl, ho6, hw6⟩; have HM6 := Lib.hid (HM8.out.next ho6 hw6); clear ho6 hw6))
    go_roundw
    case rel =>
     refine ⟨j + 1, by have := HLT.out; omega, by push_cast; rfl, ?_⟩
     have h := HM6.out
     have e : L ++ 123 :: joinP ((List.zipWith memP ks ts).take (j + 1)) = _ := HST.out
     rw [e]
     have hjn0 : ¬ j = 0 := by omega
     simpa [List.append_assoc, memP, quoteP, joinP_nil, hjn0] using h
    case measure => have := HLT.out; simp [intOf]; omega
  ·have q : decide ((j : Int) < (l.length : Int)) = false := by simp; omega
   obtain rfl : j = l.length := by omega
   have hfull : (List.zipWith memP ks ts).take l.length = List.zipWith memP ks ts := List.take_of_length_le (by rw [List.length_zipWith]; have := HKN.out; omega)
   have HFU := Lib.hid hfull
   clear hfull
   go_wp2_with (refine stop_append (t := 22) rfl ?_)
   refine ⟨?_⟩
   refine wpList_append_z rfl (.tmp 69) (.tmp 72) rfl rfl (HOWN.out.alloc _) rfl (y := 125) rfl (new_cells _ [.int .u8 125] 5 rfl) (by have h0 := HTOT.out; rw [HFU.out]; simp at h0 ⊢; omega) (by have h1 := HM.out.wb.only.size; have h2 := HW1.out.only.size; have h3 := HBB.out; simp; omega) ?_
   intro gg3 n3 cap3 w3 hown3 hgr3 hor3
   have hm3 := HM.out.snoc ((Only.refl _ wr).alloc _) hown3 hgr3
   have HM3 := Lib.hid hm3
   have HO3 := Lib.hid hown3
   clear hown3 hgr3 hor3 hm3
   go_wp2
   go_ret
   have h3 := HO3.out
   rw [HFU.out, List.append_assoc, List.cons_append] at h3
   exact ⟨_, _, _, rfl, h3, HW1.out.trans HM3.out.wb⟩
theorem write_any {m : Nat} {v : JV} {t : Bytes} (h : GW m v t) : WrOK v t := by
 induction h with
 | num hu =>
  intro X B n c A L w cs hI hJ hlen
  obtain ⟨A1, c1, B1, d1, rfl, _, _⟩ := hJ.parts
  exact write_num hI hu (by simpa using hlen)
 | str hp ha =>
  intro X B n c A L w cs hI hJ hlen
  obtain ⟨A1, c1, B1, d1, rfl, _, _⟩ := hJ.parts
  exact write_str hI hp (by simp [quoteP] at hlen; omega)
 | arr hl hn hg ih => exact write_arr hn (fun i v t hv ht => ih i v t hv ht) hl
 | obj hl hn hk hd hp hg ih => exact write_obj hn hk hp (fun i v t hv ht => ih i v t hv ht) hl
def BoolAt (q : Bool) (w : World) (e : Ending) (w' : World) : Prop := Only (fun _ => False) w w' ∧ e = .returned (.bool q)
def MayS (v : JV) (m : Nat) : Prop := ∀ (X : Nat → Prop) (w : World) (cs : List Value) (d : Nat), m ≤ d → d ≤ 1000 → JIs X w v cs → Gl w → Calls Tryz.prog 121 #[.agg cs.toArray, .int .i64 d] w (BoolAt true w)
set_option maxRecDepth 100000 in
set_option maxHeartbeats 1600000 in
theorem may_closure {X : Nat → Prop} {v : JV} {m d Hd : Nat} {A B : Option Addr} {c e : Nat} {w : World} (h : MayS v m) (hm : m + 1 ≤ d) (hd : d ≤ 1000) (hj : JIs X w v (cells5 v.kind v.str v.num (.slice A v.list.length c) (.slice B v.keys.length e))) (hc : w.cell? ⟨Hd, 0, none⟩ = some (.int .i64 d)) (hG : Gl w) :
  Calls Tryz.prog 144 #[.agg (cells5 v.kind v.str v.num (.slice A v.list.length c) (.slice B v.keys.length e)).toArray, .pointer (some ⟨Hd, 0, none⟩)] w (BoolAt false w) := by
 have HG := Lib.hid hG
 clear hG
 have HJ := Lib.hid hj
 have HM := Lib.hid hm
 have HD := Lib.hid hd
 obtain ⟨k, rfl⟩ : ∃ k, d = k + 1 := ⟨d - 1, by omega⟩
 have hsub : (((k + 1 : Nat) : Int)) - 1 = (k : Int) := by omega
 have hkz : (k : Int) ≤ 1000 := by omega
 have hlt := cell_lt hc
 have hc1 : (w.alloc (.cells (cells5 v.kind v.str v.num (.slice A v.list.length c) (.slice B v.keys.length e)).toArray 79)).cell? ⟨Hd, 0, none⟩ = some (.int .i64 ((k + 1 : Nat) : Int)) := ((Only.refl (fun _ => False) w).alloc _).cell hc id
 clear hj hm hd hc
 go_enter Tryz.func144, Tryz.ntmps144
 go_wp2_with (first
  | (refine wpList_load_blk (cs := cells5 v.kind v.str v.num (.slice A v.list.length c) (.slice B v.keys.length e)) rfl 79 (.tmp 2) rfl rfl (Blk.new w _ 79) agg79 info79s ?_)
  | (go_at_call 121; refine (h X _ _ k (by have := HM.out; omega) (by have := HD.out; omega) (HJ.out.keep ((Only.refl _ w).alloc _)) (HG.out.alloc _)).mono ?_; rintro e2 w2 ⟨ho2, rfl⟩; have HO2 := Lib.hid ho2; clear ho2))
 go_ret
 exact ⟨((Only.refl _ w).alloc _).trans HO2.out, rfl⟩
set_option maxRecDepth 100000 in
set_option maxHeartbeats 1600000 in
theorem may_index {X : Nat → Prop} {l : List JV} {m d Hd c : Nat} {A : Option Addr} {w : World} (h : ∀ x ∈ l, MayS x m) (hm : m + 1 ≤ d ∨ l = []) (hd : d ≤ 1000) (hl : l.length ≤ 3000000000)
  (hls : ∀ i v, l[i]? = some v → ∃ A2 c2 B2 d2, JIs X w v (cells5 v.kind v.str v.num (.slice A2 v.list.length c2) (.slice B2 v.keys.length d2)) ∧ LieAt X w A 5 i (cells5 v.kind v.str v.num (.slice A2 v.list.length c2) (.slice B2 v.keys.length d2))) (hc : w.cell? ⟨Hd, 0, none⟩ = some (.int .i64 d)) (hG : Gl w) :
  Calls Tryz.prog 165 #[.slice A l.length c, .func (.func 144) #[] #[.pointer (some ⟨Hd, 0, none⟩)]] w (fun e w' => Only (fun _ => False) w w' ∧ e = .returned (.int .i64 (-1))) := by
 have HG := Lib.hid hG
 clear hG
 have HH := Lib.hid h
 have HM := Lib.hid hm
 have HD := Lib.hid hd
 have HLS := Lib.hid hls
 have HC := Lib.hid hc
 have hlz : (l.length : Int) ≤ 3000000000 := by omega
 clear h hm hd hl hls hc
 go_enter Tryz.func165, Tryz.ntmps165
 go_wp2
 go_loopw [8] (fun s8 wr => ∃ j : Nat, j ≤ l.length ∧ s8 = .int .i64 (j : Int) ∧ Only (fun _ => False) w wr) (fun i _ => l.length - (intOf i).toNat)
 case atStart => exact ⟨0, by omega, rfl, Only.refl _ _⟩
 case round =>
  obtain ⟨j, hj, rfl, ho⟩ := hrel
  have HO := Lib.hid ho
  clear ho
  rcases Nat.lt_or_ge j l.length with hlt | hge
  ·obtain ⟨x, hx⟩ : ∃ x, l[j]? = some x := ⟨l[j], List.getElem?_eq_getElem hlt⟩
   have q : decide ((j : Int) < (l.length : Int)) = true := by simp; omega
   have hjz : (j : Int) < (l.length : Int) := by omega
   obtain ⟨A2, c2, B2, d2, hjx, hlx⟩ := HLS.out j x hx
   obtain ⟨bA, oA, rfl, hXA, hcA⟩ := hlx
   have HRG := Lib.hid (show wr.rangeAt bA (oA + j * 5) (cells5 x.kind x.str x.num (.slice A2 x.list.length c2) (.slice B2 x.keys.length d2)) from fun i y hy => by
    have := HO.out.cell (hcA i y hy) id
    rw [Nat.add_assoc, Nat.mul_comm j 5]; exact this)
   have HMX := Lib.hid (HH.out x (List.mem_of_getElem? hx))
   have HJX := Lib.hid (hjx.keep HO.out)
   have hm' : m + 1 ≤ d := by
    rcases HM.out with h1 | h1
    ·exact h1
    ·rw [h1] at hx; simp at hx
   have HM' := Lib.hid hm'
   have HLT := Lib.hid hlt
   clear hx hjx hcA hXA hlt hm'
   go_wp2_with (first
    | (refine load79 rfl (.tmp 14) rfl rfl HRG.out rfl ?_)
    | (go_at_call 144; refine (may_closure HMX.out HM'.out HD.out HJX.out (HO.out.cell HC.out id) (HG.out.only HO.out (fun _ _ => id))).mono ?_; rintro e2 w2 ⟨ho2, rfl⟩; have HO2 := Lib.hid ho2; clear ho2))
   go_roundw
   case rel => exact ⟨j + 1, by have := HLT.out; omega, by push_cast; rfl, HO.out.trans HO2.out⟩
   case measure => have := HLT.out; simp [intOf]; omega
  ·have q : decide ((j : Int) < (l.length : Int)) = false := by simp; omega
   go_wp2
   go_ret
   exact ⟨HO.out, rfl⟩
set_option maxRecDepth 100000 in
set_option maxHeartbeats 1600000 in
theorem may_contains {X : Nat → Prop} {l : List JV} {m d Hd c : Nat} {A : Option Addr} {w : World} (h : ∀ x ∈ l, MayS x m) (hm : m + 1 ≤ d ∨ l = []) (hd : d ≤ 1000) (hl : l.length ≤ 3000000000)
  (hls : ∀ i v, l[i]? = some v → ∃ A2 c2 B2 d2, JIs X w v (cells5 v.kind v.str v.num (.slice A2 v.list.length c2) (.slice B2 v.keys.length d2)) ∧ LieAt X w A 5 i (cells5 v.kind v.str v.num (.slice A2 v.list.length c2) (.slice B2 v.keys.length d2))) (hc : w.cell? ⟨Hd, 0, none⟩ = some (.int .i64 d)) (hG : Gl w) :
  Calls Tryz.prog 143 #[.slice A l.length c, .func (.func 144) #[] #[.pointer (some ⟨Hd, 0, none⟩)]] w (BoolAt false w) := by
 have hi := may_index (c := c) h hm hd hl hls hc hG
 have HI := Lib.hid hi
 clear h hm hd hl hls hc hi hG
 go_enter Tryz.func143, Tryz.ntmps143
 go_wp2_with (go_at_call 165; refine HI.out.mono ?_; rintro e2 w2 ⟨ho2, rfl⟩; have HO2 := Lib.hid ho2; clear ho2)
 go_ret
 exact ⟨HO2.out, rfl⟩
theorem validD_ascii {t : Bytes} (h : ∀ x ∈ t, x.toNat < 128) : Lib.validD t = true := by
 have h1 := Lib.valid_skip ⟨t.toArray⟩ t.length (fun b hb => h b (by have := List.mem_of_mem_take hb; simpa using this))
 have e : ((⟨t.toArray⟩ : ByteArray).extract t.length (⟨t.toArray⟩ : ByteArray).size).data.toList = [] := by
  rw [Lib.ext_list]; simp
 rw [e, show Lib.validD [] = true from rfl] at h1
 have h2 : (⟨t.toArray⟩ : ByteArray).data.toList = t := by simp
 rw [h2] at h1
 exact h1.symm
theorem valid_asc {t : Bytes} {w : World} (h : ∀ x ∈ t, x.toNat < 128) (hl : t.length ≤ 1000000000000) (hG : Gl w) : Calls Tryz.prog 142 #[.string ⟨t.toArray⟩] w (BoolAt true w) := by
 refine (Tryz.utf8_ValidString ⟨t.toArray⟩ w (by show t.toArray.size ≤ _; simp; omega) hG.utf).mono ?_
 rintro e w' ⟨rfl, hb⟩
 refine ⟨Only.ofBelow hb, ?_⟩
 have : Lib.validD (⟨t.toArray⟩ : ByteArray).data.toList = true := validD_ascii (by simpa using h)
 rw [this]
set_option maxRecDepth 100000 in
set_option maxHeartbeats 3200000 in
theorem may_num {n : Nat} : MayS (.mk 3 [] n [] []) 0 := by
 intro X w cs d hmd hd hJ hG
 obtain ⟨A1, c1, B1, d1, rfl, hls, _⟩ := hJ.parts
 have HLS := Lib.hid hls
 have HG := Lib.hid hG
 have HD := Lib.hid hd
 have HMD := Lib.hid hmd
 have hdz : (d : Int) ≤ 1000 := by omega
 clear hJ hls hG hd hmd
 unfold cells5 txt
 try simp only [List.length_nil]
 go_enter Tryz.func121, Tryz.ntmps121
 have hmm := @run_makeMap Tryz.prog
 go_upto_region 10 with (go_at_call 142; refine (valid_asc (t := []) (by simp) (by simp) ((HG.out.alloc _).alloc _)).mono ?_; rintro e w2 ⟨ho2, rfl⟩; have HO2 := Lib.hid (((((Only.refl _ w).alloc _).alloc _).trans ho2)); have hb0 := (((Blk.new w [.int .i64 3, .string ⟨#[]⟩, .int .u64 n, .slice A1 0 c1, .slice B1 0 d1] 79).alloc (Obj.cells #[.int .i64 d] 3)).only ho2 id); have hd0 := (Blk.new (w.alloc (Obj.cells #[.int .i64 3, .string ⟨#[]⟩, .int .u64 n, .slice A1 0 c1, .slice B1 0 d1] 79)) [.int .i64 d] 3).only ho2 id; rw [World.size_alloc] at hd0; have HB0 := Lib.hid hb0; have HD0 := Lib.hid hd0; have kd0 := hd0.cell 0 rfl; have k0 := hb0.cell 0 rfl; have k3 := hb0.cell 3 rfl; have k4 := hb0.cell 4 rfl; have k3m := (hb0.alloc (Obj.map #[] 0)).cell 3 rfl; have k4m := (hb0.alloc (Obj.map #[] 0)).cell 4 rfl; clear ho2 hb0 hd0)
 have hmz := @World.ownsMap_made Unit w2 Tryz.prog 9 (plainElem Tryz.prog 3)
 have o3 : Only (fun _ => False) w (w2.alloc (.map #[] 0)) := HO2.out.alloc _
 have hb3 : Blk (w2.alloc (.map #[] 0)) w.heap.size [.int .i64 3, .string ⟨#[]⟩, .int .u64 n, .slice A1 0 c1, .slice B1 0 d1] 79 := HB0.out.alloc _
 have hd3 := (HD0.out.alloc (.map #[] 0)).cell 0 rfl
 generalize w2.alloc (.map #[] 0) = w3 at o3 hb3 hd3 hmz ⊢
 have HO3 := Lib.hid o3
 have HB3 := Lib.hid hb3
 have HD3 := Lib.hid hd3
 clear o3 hb3 hd3 hmz hmm k3m k4m
 go_loopw [90] (fun s90 wr => s90 = .int .i64 0 ∧ wr = w3) (fun _ _ => 0)
 case atStart => exact ⟨rfl, rfl⟩
 case round =>
  obtain ⟨rfl, rfl⟩ := hrel
  have k3 := HB3.out.cell 3 rfl
  have hct := may_contains (X := X) (l := ([] : List JV)) (m := 0) (A := A1) (c := c1) (fun x hx => by simp at hx) (.inr rfl) HD.out (by simp) (fun i v hv => by simp at hv) HD3.out (HG.out.only HO3.out (fun _ _ => id))
  have HCT := Lib.hid hct
  clear hct
  go_wp2_with (go_at_call 143; refine HCT.out.mono ?_; rintro e w4 ⟨ho4, rfl⟩; have HO4 := Lib.hid ho4; clear ho4)
  go_ret
  exact ⟨HO3.out.trans HO4.out, rfl⟩
set_option maxRecDepth 100000 in
set_option maxHeartbeats 3200000 in
theorem may_str {s : Bytes} (ha : ∀ x ∈ s, x.toNat < 128) (hl : s.length ≤ 1000000000000) : MayS (.mk 4 s 0 [] []) 0 := by
 intro X w cs d hmd hd hJ hG
 obtain ⟨A1, c1, B1, d1, rfl, hls, _⟩ := hJ.parts
 have HLS := Lib.hid hls
 have HG := Lib.hid hG
 have HD := Lib.hid hd
 have HMD := Lib.hid hmd
 have hdz : (d : Int) ≤ 1000 := by omega
 have HA := Lib.hid ha
 have HLN := Lib.hid hl
 clear ha hl
 clear hJ hls hG hd hmd
 unfold cells5 txt
 try simp only [List.length_nil]
 go_enter Tryz.func121, Tryz.ntmps121
 have hmm := @run_makeMap Tryz.prog
 go_upto_region 10 with (go_at_call 142; refine (valid_asc (t := s) HA.out (by exact HLN.out) ((HG.out.alloc _).alloc _)).mono ?_; rintro e w2 ⟨ho2, rfl⟩; have HO2 := Lib.hid (((((Only.refl _ w).alloc _).alloc _).trans ho2)); have hb0 := (((Blk.new w [.int .i64 4, .string ⟨s.toArray⟩, .int .u64 0, .slice A1 0 c1, .slice B1 0 d1] 79).alloc (Obj.cells #[.int .i64 d] 3)).only ho2 id); have hd0 := (Blk.new (w.alloc (Obj.cells #[.int .i64 4, .string ⟨s.toArray⟩, .int .u64 0, .slice A1 0 c1, .slice B1 0 d1] 79)) [.int .i64 d] 3).only ho2 id; rw [World.size_alloc] at hd0; have HB0 := Lib.hid hb0; have HD0 := Lib.hid hd0; have kd0 := hd0.cell 0 rfl; have k0 := hb0.cell 0 rfl; have k3 := hb0.cell 3 rfl; have k4 := hb0.cell 4 rfl; have k3m := (hb0.alloc (Obj.map #[] 0)).cell 3 rfl; have k4m := (hb0.alloc (Obj.map #[] 0)).cell 4 rfl; clear ho2 hb0 hd0)
 have hmz := @World.ownsMap_made Unit w2 Tryz.prog 9 (plainElem Tryz.prog 3)
 have o3 : Only (fun _ => False) w (w2.alloc (.map #[] 0)) := HO2.out.alloc _
 have hb3 : Blk (w2.alloc (.map #[] 0)) w.heap.size [.int .i64 4, .string ⟨s.toArray⟩, .int .u64 0, .slice A1 0 c1, .slice B1 0 d1] 79 := HB0.out.alloc _
 have hd3 := (HD0.out.alloc (.map #[] 0)).cell 0 rfl
 generalize w2.alloc (.map #[] 0) = w3 at o3 hb3 hd3 hmz ⊢
 have HO3 := Lib.hid o3
 have HB3 := Lib.hid hb3
 have HD3 := Lib.hid hd3
 clear o3 hb3 hd3 hmz hmm k3m k4m
 go_loopw [90] (fun s90 wr => s90 = .int .i64 0 ∧ wr = w3) (fun _ _ => 0)
 case atStart => exact ⟨rfl, rfl⟩
 case round =>
  obtain ⟨rfl, rfl⟩ := hrel
  have k3 := HB3.out.cell 3 rfl
  have hct := may_contains (X := X) (l := ([] : List JV)) (m := 0) (A := A1) (c := c1) (fun x hx => by simp at hx) (.inr rfl) HD.out (by simp) (fun i v hv => by simp at hv) HD3.out (HG.out.only HO3.out (fun _ _ => id))
  have HCT := Lib.hid hct
  clear hct
  go_wp2_with (go_at_call 143; refine HCT.out.mono ?_; rintro e w4 ⟨ho4, rfl⟩; have HO4 := Lib.hid ho4; clear ho4)
  go_ret
  exact ⟨HO3.out.trans HO4.out, rfl⟩
set_option maxRecDepth 100000 in
set_option maxHeartbeats 3200000 in
theorem may_arr {l : List JV} {m : Nat} (h : ∀ x ∈ l, MayS x m) (hl : l.length ≤ 3000000000) : MayS (.mk 5 [] 0 l []) (m + 1) := by
 intro X w cs d hmd hd hJ hG
 obtain ⟨A1, c1, B1, d1, rfl, hls, _⟩ := hJ.parts
 have HLS := Lib.hid hls
 have HG := Lib.hid hG
 have HD := Lib.hid hd
 have HMD := Lib.hid hmd
 have hdz : (d : Int) ≤ 1000 := by omega
 have HH := Lib.hid h
 have HLL := Lib.hid hl
 have hd0 : ((d : Int) == 0) = false := by simp; omega
 have hd01 : ¬ (d : Int) = 0 := by omega
 have hlz : (l.length : Int) ≤ 3000000000 := by omega
 clear h hl
 clear hJ hls hG hd hmd
 unfold cells5 txt
 try simp only [List.length_nil]
 go_enter Tryz.func121, Tryz.ntmps121
 have hmm := @run_makeMap Tryz.prog
 go_upto_region 10 with (go_at_call 142; refine (valid_asc (t := []) (by simp) (by simp) ((HG.out.alloc _).alloc _)).mono ?_; rintro e w2 ⟨ho2, rfl⟩; have HO2 := Lib.hid (((((Only.refl _ w).alloc _).alloc _).trans ho2)); have hb0 := (((Blk.new w [.int .i64 5, .string ⟨#[]⟩, .int .u64 0, .slice A1 l.length c1, .slice B1 0 d1] 79).alloc (Obj.cells #[.int .i64 d] 3)).only ho2 id); have hd0 := (Blk.new (w.alloc (Obj.cells #[.int .i64 5, .string ⟨#[]⟩, .int .u64 0, .slice A1 l.length c1, .slice B1 0 d1] 79)) [.int .i64 d] 3).only ho2 id; rw [World.size_alloc] at hd0; have HB0 := Lib.hid hb0; have HD0 := Lib.hid hd0; have kd0 := hd0.cell 0 rfl; have k0 := hb0.cell 0 rfl; have k3 := hb0.cell 3 rfl; have k4 := hb0.cell 4 rfl; have k3m := (hb0.alloc (Obj.map #[] 0)).cell 3 rfl; have k4m := (hb0.alloc (Obj.map #[] 0)).cell 4 rfl; clear ho2 hb0 hd0)
 have hmz := @World.ownsMap_made Unit w2 Tryz.prog 9 (plainElem Tryz.prog 3)
 have o3 : Only (fun _ => False) w (w2.alloc (.map #[] 0)) := HO2.out.alloc _
 have hb3 : Blk (w2.alloc (.map #[] 0)) w.heap.size [.int .i64 5, .string ⟨#[]⟩, .int .u64 0, .slice A1 l.length c1, .slice B1 0 d1] 79 := HB0.out.alloc _
 have hd3 := (HD0.out.alloc (.map #[] 0)).cell 0 rfl
 generalize w2.alloc (.map #[] 0) = w3 at o3 hb3 hd3 hmz ⊢
 have HO3 := Lib.hid o3
 have HB3 := Lib.hid hb3
 have HD3 := Lib.hid hd3
 clear o3 hb3 hd3 hmz hmm k3m k4m
 go_loopw [90] (fun s90 wr => s90 = .int .i64 0 ∧ wr = w3) (fun _ _ => 0)
 case atStart => exact ⟨rfl, rfl⟩
 case round =>
  obtain ⟨rfl, rfl⟩ := hrel
  have k3 := HB3.out.cell 3 rfl
  go_wp2_with (go_at_call 143; refine (may_contains (l := l) HH.out (.inl HMD.out) HD.out (by exact HLL.out) (fun i v hv => (by obtain ⟨A2, c2, B2, d2, h1, h2⟩ := HLS.out i v hv; exact ⟨A2, c2, B2, d2, h1.keep HO3.out, h2.only (by simp [cells5]) HO3.out (fun b hb hx => ⟨id, hx⟩)⟩)) HD3.out (HG.out.only HO3.out (fun _ _ => id))).mono ?_; rintro e w4 ⟨ho4, rfl⟩; have HO4 := Lib.hid ho4; clear ho4)
  go_ret
  exact ⟨HO3.out.trans HO4.out, rfl⟩
theorem n85r : (Tryz.prog.underlying 85).map (·.isRow) = some true := by kernel_rfl
theorem n85i : (Tryz.prog.info? 85).map (·.size) = some 5 := by kernel_rfl
theorem load85 {ops : Array Oper} {rest : List Oper} {op : Oper} {a : Act} {w : World} {Q : Exit → Act → World → Prop} (hgd : op.guard = none) (x : Operand) (ho : op.op = .load 85 x)
  {b o : Nat} (hx : a.eval x = .pointer (some ⟨b, o, none⟩)) {cs : List Value} (hc : w.rangeAt b o cs) (hl : cs.length = 5)
  (h : wpList Tryz.prog ops Q rest (a.put op.dst (.agg cs.toArray)) w) : wpList Tryz.prog ops Q (op :: rest) a w := by
 cases hd : Tryz.prog.underlying 85 with
 | none => have := n85r; rw [hd] at this; cases this
 | some d =>
  have h2 := n85r
  rw [hd] at h2
  exact wpList_load_mid hgd 85 x ho b o hx cs d hc hd (by simpa using h2) (by rw [hl]; exact n85i) h
def DeepS (v : JV) (m : Nat) : Prop := ∀ (X : Nat → Prop) (w : World) (cs : List Value), JIs X w v cs → Calls Tryz.prog 93 #[.agg cs.toArray, .int .i64 m] w (BoolAt v.nd w)
theorem utf_good {t : Bytes} {w : World} (h : Lib.validD t = true) (hl : t.length ≤ 1048576) : Calls Tryz.prog 115 #[.string ⟨t.toArray⟩] w (fun e w' => e = .returned (.bool true) ∧ w = w') := by
 refine (utf8_any ⟨t.toArray⟩ w (by show t.toArray.size ≤ _; unfold maxLen; simp; omega)).mono ?_
 rintro e w' ⟨he, hw⟩
 have e1 : (⟨t.toArray⟩ : ByteArray).data.toList = t := by simp
 rw [e1, h] at he
 exact ⟨he, hw⟩
set_option maxRecDepth 100000 in
set_option maxHeartbeats 3200000 in
theorem deep_leaf0  {m : Nat} : DeepS (.mk 0 [] 0 [] []) m := by
 intro X w cs hJ
 obtain ⟨A1, c1, B1, d1, rfl, hls, hks⟩ := hJ.parts
 clear hJ hls hks
 unfold cells5 txt
 try simp only [List.length_nil]
 obtain ⟨H, hH⟩ : ∃ H, H = w.heap.size := ⟨_, rfl⟩
 have hb0 := Blk.new w [.int .i64 0, .string ⟨#[]⟩, .int .u64 0, .slice A1 0 c1, .slice B1 0 d1] 85
 have k0 := hb0.cell 0 rfl
 have k1 := hb0.cell 1 rfl
 have k2 := hb0.cell 2 rfl
 have k3 := hb0.cell 3 rfl
 have k4 := hb0.cell 4 rfl
 rw [← hH] at k0 k1 k2 k3 k4
 clear hb0
 go_enter Tryz.func93, Tryz.ntmps93
 go_wp2_with (go_at_call 115; refine (utf_good (t := []) (by rfl) (by simp)).mono ?_; rintro e w2 ⟨rfl, rfl⟩)
 go_loopw [5] (fun s5 wr => s5 = .int .i64 0 ∧ wr = w.alloc (.cells #[.int .i64 0, .string ⟨#[]⟩, .int .u64 0, .slice A1 0 c1, .slice B1 0 d1] 85)) (fun _ _ => 0)
 case atStart => exact ⟨rfl, rfl⟩
 case round =>
  obtain ⟨rfl, rfl⟩ := hrel
  go_wp2
  go_loopw [7] (fun s7 wr => s7 = .int .i64 0 ∧ wr = w.alloc (.cells #[.int .i64 0, .string ⟨#[]⟩, .int .u64 0, .slice A1 0 c1, .slice B1 0 d1] 85)) (fun _ _ => 0)
  case atStart => exact ⟨rfl, rfl⟩
  case round =>
   obtain ⟨rfl, rfl⟩ := hrel
   go_wp2
   go_ret
   exact ⟨(Only.refl _ w).alloc _, rfl⟩
set_option maxRecDepth 100000 in
set_option maxHeartbeats 3200000 in
theorem deep_leaf1  {m : Nat} : DeepS (.mk 1 [] 0 [] []) m := by
 intro X w cs hJ
 obtain ⟨A1, c1, B1, d1, rfl, hls, hks⟩ := hJ.parts
 clear hJ hls hks
 unfold cells5 txt
 try simp only [List.length_nil]
 obtain ⟨H, hH⟩ : ∃ H, H = w.heap.size := ⟨_, rfl⟩
 have hb0 := Blk.new w [.int .i64 1, .string ⟨#[]⟩, .int .u64 0, .slice A1 0 c1, .slice B1 0 d1] 85
 have k0 := hb0.cell 0 rfl
 have k1 := hb0.cell 1 rfl
 have k2 := hb0.cell 2 rfl
 have k3 := hb0.cell 3 rfl
 have k4 := hb0.cell 4 rfl
 rw [← hH] at k0 k1 k2 k3 k4
 clear hb0
 go_enter Tryz.func93, Tryz.ntmps93
 go_wp2_with (go_at_call 115; refine (utf_good (t := []) (by rfl) (by simp)).mono ?_; rintro e w2 ⟨rfl, rfl⟩)
 go_loopw [5] (fun s5 wr => s5 = .int .i64 0 ∧ wr = w.alloc (.cells #[.int .i64 1, .string ⟨#[]⟩, .int .u64 0, .slice A1 0 c1, .slice B1 0 d1] 85)) (fun _ _ => 0)
 case atStart => exact ⟨rfl, rfl⟩
 case round =>
  obtain ⟨rfl, rfl⟩ := hrel
  go_wp2
  go_loopw [7] (fun s7 wr => s7 = .int .i64 0 ∧ wr = w.alloc (.cells #[.int .i64 1, .string ⟨#[]⟩, .int .u64 0, .slice A1 0 c1, .slice B1 0 d1] 85)) (fun _ _ => 0)
  case atStart => exact ⟨rfl, rfl⟩
  case round =>
   obtain ⟨rfl, rfl⟩ := hrel
   go_wp2
   go_ret
   exact ⟨(Only.refl _ w).alloc _, rfl⟩
set_option maxRecDepth 100000 in
set_option maxHeartbeats 3200000 in
theorem deep_leaf2  {m : Nat} : DeepS (.mk 2 [] 0 [] []) m := by
 intro X w cs hJ
 obtain ⟨A1, c1, B1, d1, rfl, hls, hks⟩ := hJ.parts
 clear hJ hls hks
 unfold cells5 txt
 try simp only [List.length_nil]
 obtain ⟨H, hH⟩ : ∃ H, H = w.heap.size := ⟨_, rfl⟩
 have hb0 := Blk.new w [.int .i64 2, .string ⟨#[]⟩, .int .u64 0, .slice A1 0 c1, .slice B1 0 d1] 85
 have k0 := hb0.cell 0 rfl
 have k1 := hb0.cell 1 rfl
 have k2 := hb0.cell 2 rfl
 have k3 := hb0.cell 3 rfl
 have k4 := hb0.cell 4 rfl
 rw [← hH] at k0 k1 k2 k3 k4
 clear hb0
 go_enter Tryz.func93, Tryz.ntmps93
 go_wp2_with (go_at_call 115; refine (utf_good (t := []) (by rfl) (by simp)).mono ?_; rintro e w2 ⟨rfl, rfl⟩)
 go_loopw [5] (fun s5 wr => s5 = .int .i64 0 ∧ wr = w.alloc (.cells #[.int .i64 2, .string ⟨#[]⟩, .int .u64 0, .slice A1 0 c1, .slice B1 0 d1] 85)) (fun _ _ => 0)
 case atStart => exact ⟨rfl, rfl⟩
 case round =>
  obtain ⟨rfl, rfl⟩ := hrel
  go_wp2
  go_loopw [7] (fun s7 wr => s7 = .int .i64 0 ∧ wr = w.alloc (.cells #[.int .i64 2, .string ⟨#[]⟩, .int .u64 0, .slice A1 0 c1, .slice B1 0 d1] 85)) (fun _ _ => 0)
  case atStart => exact ⟨rfl, rfl⟩
  case round =>
   obtain ⟨rfl, rfl⟩ := hrel
   go_wp2
   go_ret
   exact ⟨(Only.refl _ w).alloc _, rfl⟩
set_option maxRecDepth 100000 in
set_option maxHeartbeats 3200000 in
theorem deep_num {n : Nat} {m : Nat} : DeepS (.mk 3 [] n [] []) m := by
 intro X w cs hJ
 obtain ⟨A1, c1, B1, d1, rfl, hls, hks⟩ := hJ.parts
 clear hJ hls hks
 unfold cells5 txt
 try simp only [List.length_nil]
 obtain ⟨H, hH⟩ : ∃ H, H = w.heap.size := ⟨_, rfl⟩
 have hb0 := Blk.new w [.int .i64 3, .string ⟨#[]⟩, .int .u64 n, .slice A1 0 c1, .slice B1 0 d1] 85
 have k0 := hb0.cell 0 rfl
 have k1 := hb0.cell 1 rfl
 have k2 := hb0.cell 2 rfl
 have k3 := hb0.cell 3 rfl
 have k4 := hb0.cell 4 rfl
 rw [← hH] at k0 k1 k2 k3 k4
 clear hb0
 go_enter Tryz.func93, Tryz.ntmps93
 go_wp2_with (go_at_call 115; refine (utf_good (t := []) (by rfl) (by simp)).mono ?_; rintro e w2 ⟨rfl, rfl⟩)
 go_loopw [5] (fun s5 wr => s5 = .int .i64 0 ∧ wr = w.alloc (.cells #[.int .i64 3, .string ⟨#[]⟩, .int .u64 n, .slice A1 0 c1, .slice B1 0 d1] 85)) (fun _ _ => 0)
 case atStart => exact ⟨rfl, rfl⟩
 case round =>
  obtain ⟨rfl, rfl⟩ := hrel
  go_wp2
  go_loopw [7] (fun s7 wr => s7 = .int .i64 0 ∧ wr = w.alloc (.cells #[.int .i64 3, .string ⟨#[]⟩, .int .u64 n, .slice A1 0 c1, .slice B1 0 d1] 85)) (fun _ _ => 0)
  case atStart => exact ⟨rfl, rfl⟩
  case round =>
   obtain ⟨rfl, rfl⟩ := hrel
   go_wp2
   go_ret
   exact ⟨(Only.refl _ w).alloc _, rfl⟩
set_option maxRecDepth 100000 in
set_option maxHeartbeats 3200000 in
theorem deep_str {s : Bytes} (hs : Lib.validD s = true) (hl : s.length ≤ 1048576) {m : Nat} : DeepS (.mk 4 s 0 [] []) m := by
 intro X w cs hJ
 obtain ⟨A1, c1, B1, d1, rfl, hls, hks⟩ := hJ.parts
 clear hJ hls hks
 unfold cells5 txt
 try simp only [List.length_nil]
 obtain ⟨H, hH⟩ : ∃ H, H = w.heap.size := ⟨_, rfl⟩
 have hb0 := Blk.new w [.int .i64 4, .string ⟨s.toArray⟩, .int .u64 0, .slice A1 0 c1, .slice B1 0 d1] 85
 have k0 := hb0.cell 0 rfl
 have k1 := hb0.cell 1 rfl
 have k2 := hb0.cell 2 rfl
 have k3 := hb0.cell 3 rfl
 have k4 := hb0.cell 4 rfl
 rw [← hH] at k0 k1 k2 k3 k4
 clear hb0
 go_enter Tryz.func93, Tryz.ntmps93
 go_wp2_with (go_at_call 115; refine (utf_good (t := s) hs hl).mono ?_; rintro e w2 ⟨rfl, rfl⟩)
 go_loopw [5] (fun s5 wr => s5 = .int .i64 0 ∧ wr = w.alloc (.cells #[.int .i64 4, .string ⟨s.toArray⟩, .int .u64 0, .slice A1 0 c1, .slice B1 0 d1] 85)) (fun _ _ => 0)
 case atStart => exact ⟨rfl, rfl⟩
 case round =>
  obtain ⟨rfl, rfl⟩ := hrel
  go_wp2
  go_loopw [7] (fun s7 wr => s7 = .int .i64 0 ∧ wr = w.alloc (.cells #[.int .i64 4, .string ⟨s.toArray⟩, .int .u64 0, .slice A1 0 c1, .slice B1 0 d1] 85)) (fun _ _ => 0)
  case atStart => exact ⟨rfl, rfl⟩
  case round =>
   obtain ⟨rfl, rfl⟩ := hrel
   go_wp2
   go_ret
   exact ⟨(Only.refl _ w).alloc _, rfl⟩
theorem ndAll_take {l : List JV} {j : Nat} {x : JV} (h : l[j]? = some x) : ndAll (l.take (j + 1)) = (ndAll (l.take j) && x.nd) := by
 rw [take_snoc h, ndAll_append]; simp [ndAll]
theorem ndAll_false {l : List JV} {j : Nat} {x : JV} (h : l[j]? = some x) (hx : x.nd = false) : ndAll l = false := by
 induction l generalizing j with
 | nil => simp at h
 | cons a l ih =>
  cases j with
  | zero => simp at h; subst h; simp [ndAll, hx]
  | succ j => simp at h; simp [ndAll, ih h]
def LsAt (X : Nat → Prop) (w : World) (A : Option Addr) (l : List JV) : Prop :=
 ∀ i v, l[i]? = some v → ∃ A2 c2 B2 d2, JIs X w v (cells5 v.kind v.str v.num (.slice A2 v.list.length c2) (.slice B2 v.keys.length d2)) ∧ LieAt X w A 5 i (cells5 v.kind v.str v.num (.slice A2 v.list.length c2) (.slice B2 v.keys.length d2))
set_option maxRecDepth 100000 in
set_option maxHeartbeats 3200000 in
theorem deep_arr {l : List JV} {m : Nat} (h : ∀ x ∈ l, DeepS x m) (hl : l.length ≤ 1048576) (hm : m ≤ 8) : DeepS (.mk 5 [] 0 l []) (m + 1) := by
 intro X w cs hJ
 obtain ⟨A1, c1, B1, d1, rfl, hls, hks⟩ := hJ.parts
 have HLS := Lib.hid (show LsAt X w A1 l from hls)
 have HH := Lib.hid h
 have HLL := Lib.hid hl
 have hlz : (l.length : Int) ≤ 1048576 := by omega
 generalize hn : m + 1 = n
 have hmz : ((n : Int) == 0) = false := by simp; omega
 have hnz : ¬ (n : Int) = 0 := by omega
 have hsub : (n : Int) - 1 = (m : Int) := by omega
 have hn8 : (n : Int) ≤ 9 := by omega
 clear hn
 have hmz2 : (m : Int) ≤ 8 := by omega
 clear hJ hls hks h hl
 unfold cells5 txt
 try simp only [List.length_nil]
 obtain ⟨H, hH⟩ : ∃ H, H = w.heap.size := ⟨_, rfl⟩
 have hb0 := Blk.new w [.int .i64 5, .string ⟨#[]⟩, .int .u64 0, .slice A1 l.length c1, .slice B1 0 d1] 85
 have HB0 := Lib.hid hb0
 have k0 := hb0.cell 0 rfl
 have k1 := hb0.cell 1 rfl
 have k2 := hb0.cell 2 rfl
 have k3 := hb0.cell 3 rfl
 have k4 := hb0.cell 4 rfl
 clear hb0
 go_enter Tryz.func93, Tryz.ntmps93
 go_wp2_with (go_at_call 115; refine (utf_good (t := []) (by rfl) (by simp)).mono ?_; rintro e w2 ⟨rfl, rfl⟩)
 have ho1 : Only (fun _ => False) w (w.alloc (.cells #[.int .i64 5, .string ⟨#[]⟩, .int .u64 0, .slice A1 l.length c1, .slice B1 0 d1] 85)) := (Only.refl _ w).alloc _
 have HO1 := Lib.hid ho1
 generalize w.alloc (.cells #[.int .i64 5, .string ⟨#[]⟩, .int .u64 0, .slice A1 l.length c1, .slice B1 0 d1] 85) = w1 at HO1 HB0 k0 k1 k2 k3 k4 ⊢
 rw [← hH] at HB0 k0 k1 k2 k3 k4 ⊢
 clear hH ho1
 go_loopw [5] (fun s5 wr => s5 = .int .i64 0 ∧ wr = w1) (fun _ _ => 0)
 case atStart => exact ⟨rfl, rfl⟩
 case round =>
  obtain ⟨rfl, hwr⟩ := hrel
  obtain rfl : w1 = wr := hwr.symm
  go_wp2
  clear k0 k1 k2 k3 k4
  go_loopw [7] (fun s7 w3 => ∃ j : Nat, j ≤ l.length ∧ s7 = .int .i64 (j : Int) ∧ ndAll (l.take j) = true ∧ Only (fun _ => False) w1 w3) (fun i _ => l.length - (intOf i).toNat)
  case atStart => exact ⟨0, by omega, rfl, rfl, Only.refl _ _⟩
  case round =>
   obtain ⟨j, hj, rfl, hnd, ho3⟩ := hrel
   have HND := Lib.hid hnd
   have HO3 := Lib.hid ho3
   have k3 := (HB0.out.only ho3 id).cell 3 rfl
   clear hnd ho3
   rcases Nat.lt_or_ge j l.length with hlt | hge
   ·obtain ⟨x, hx⟩ : ∃ x, l[j]? = some x := ⟨l[j], List.getElem?_eq_getElem hlt⟩
    have q : decide ((j : Int) < (l.length : Int)) = true := by simp; omega
    have hjz : (j : Int) < (l.length : Int) := by omega
    obtain ⟨A2, c2, B2, d2, hjx, hlx⟩ := HLS.out j x hx
    obtain ⟨bA, oA, rfl, hXA, hcA⟩ := hlx
    have HRG := Lib.hid (show wr.rangeAt bA (oA + j * 5) (cells5 x.kind x.str x.num (.slice A2 x.list.length c2) (.slice B2 x.keys.length d2)) from fun i y hy => by
     have := (HO1.out.trans HO3.out).cell (hcA i y hy) id
     rw [Nat.add_assoc, Nat.mul_comm j 5]; exact this)
    have HMX := Lib.hid (HH.out x (List.mem_of_getElem? hx))
    have HJX := Lib.hid (hjx.keep (HO1.out.trans HO3.out))
    have HLT := Lib.hid hlt
    have HX := Lib.hid hx
    clear hx hjx hcA hXA hlt
    obtain ⟨nb, hnb⟩ : ∃ nb, nb = x.nd := ⟨_, rfl⟩
    have HNB := Lib.hid hnb
    clear hnb
    go_upto_region 18 with (fail)
    cases nb
    ·go_wp2_with (first
      | (refine load85 rfl (.tmp 125) rfl rfl HRG.out rfl ?_)
      | (go_at_call 93; refine (HMX.out X _ _ HJX.out).mono ?_; rintro e w4 ⟨ho4, he4⟩; rw [← HNB.out] at he4; obtain rfl := he4; have HO4 := Lib.hid ho4; clear ho4))
     go_ret
     refine ⟨(HO1.out.trans HO3.out).trans HO4.out, ?_⟩
     rw [show JV.nd (.mk 5 [] 0 l []) = false from by simp [JV.nd, ndAll_false HX.out HNB.out.symm]]; rfl
    ·go_wp2_with (first
      | (refine load85 rfl (.tmp 125) rfl rfl HRG.out rfl ?_)
      | (go_at_call 93; refine (HMX.out X _ _ HJX.out).mono ?_; rintro e w4 ⟨ho4, he4⟩; rw [← HNB.out] at he4; obtain rfl := he4; have HO4 := Lib.hid ho4; clear ho4))
     go_roundw
     case rel => exact ⟨j + 1, by have := HLT.out; omega, by push_cast; rfl, by rw [ndAll_take HX.out, HND.out, ← HNB.out]; rfl, HO3.out.trans HO4.out⟩
     case measure => have := HLT.out; simp [intOf]; omega
   ·have q : decide ((j : Int) < (l.length : Int)) = false := by simp; omega
    obtain rfl : j = l.length := by omega
    go_wp2
    go_ret
    refine ⟨HO1.out.trans HO3.out, ?_⟩
    have := HND.out
    rw [List.take_of_length_le (Nat.le_refl _)] at this
    rw [show JV.nd (.mk 5 [] 0 l []) = true from by simp [JV.nd, this]]; rfl
theorem nd_dup {l : List JV} {ks : List Bytes} {i j : Nat} {x : Bytes} (hi : ks[i]? = some x) (hj : ks[j]? = some x) (hij : i < j) : JV.nd (.mk 6 [] 0 l ks) = false := by
 have : ¬ ks.Nodup := by
  intro h
  obtain ⟨p1, q1⟩ := List.getElem?_eq_some_iff.1 hi
  obtain ⟨p2, q2⟩ := List.getElem?_eq_some_iff.1 hj
  exact List.pairwise_iff_getElem.1 h i j p1 p2 hij (q1.trans q2.symm)
 simp [JV.nd, this]
set_option maxRecDepth 100000 in
set_option maxHeartbeats 3200000 in
theorem deep_obj {l : List JV} {ks : List Bytes} {m : Nat} (h : ∀ x ∈ l, DeepS x m) (hl : l.length ≤ 1048576) (hkn : ks.length = l.length) (hpk : ∀ k ∈ ks, Lib.validD k = true ∧ k.length ≤ 1048576) (hm : m ≤ 8) : DeepS (.mk 6 [] 0 l ks) (m + 1) := by
 intro X w cs hJ
 obtain ⟨A1, c1, B1, d1, rfl, hls, hks⟩ := hJ.parts
 have HLS := Lib.hid (show LsAt X w A1 l from hls)
 have HKS := Lib.hid hks
 have HPK := Lib.hid hpk
 have HH := Lib.hid h
 have HLL := Lib.hid hl
 have hlz : (l.length : Int) ≤ 1048576 := by omega
 have hkz : (ks.length : Int) ≤ 1048576 := by omega
 have hkl : ((ks.length : Int) != (l.length : Int)) = false := by simp; omega
 generalize hn : m + 1 = n
 have hmz : ((n : Int) == 0) = false := by simp; omega
 have hnz : ¬ (n : Int) = 0 := by omega
 have hsub : (n : Int) - 1 = (m : Int) := by omega
 have hn8 : (n : Int) ≤ 9 := by omega
 clear hn
 have hmz2 : (m : Int) ≤ 8 := by omega
 clear hJ hls hks h hl hpk hkn
 unfold cells5 txt
 try simp only [List.length_nil]
 obtain ⟨H, hH⟩ : ∃ H, H = w.heap.size := ⟨_, rfl⟩
 have hb0 := Blk.new w [.int .i64 6, .string ⟨#[]⟩, .int .u64 0, .slice A1 l.length c1, .slice B1 ks.length d1] 85
 have HB0 := Lib.hid hb0
 have k0 := hb0.cell 0 rfl
 have k1 := hb0.cell 1 rfl
 have k2 := hb0.cell 2 rfl
 have k3 := hb0.cell 3 rfl
 have k4 := hb0.cell 4 rfl
 clear hb0
 go_enter Tryz.func93, Tryz.ntmps93
 go_wp2_with (go_at_call 115; refine (utf_good (t := []) (by rfl) (by simp)).mono ?_; rintro e w2 ⟨rfl, rfl⟩)
 have ho1 : Only (fun _ => False) w (w.alloc (.cells #[.int .i64 6, .string ⟨#[]⟩, .int .u64 0, .slice A1 l.length c1, .slice B1 ks.length d1] 85)) := (Only.refl _ w).alloc _
 have HO1 := Lib.hid ho1
 generalize w.alloc (.cells #[.int .i64 6, .string ⟨#[]⟩, .int .u64 0, .slice A1 l.length c1, .slice B1 ks.length d1] 85) = w1 at HO1 HB0 k0 k1 k2 k3 k4 ⊢
 rw [← hH] at HB0 k0 k1 k2 k3 k4 ⊢
 clear hH ho1 k0 k1 k2 k3 k4
 go_loopw [5] (fun s5 w3 => ∃ j : Nat, j ≤ ks.length ∧ s5 = .int .i64 (j : Int) ∧ (ks.take j).Nodup ∧ Only (fun _ => False) w1 w3) (fun i _ => ks.length - (intOf i).toNat)
 case atStart => exact ⟨0, by omega, rfl, by simp, Only.refl _ _⟩
 case round =>
  obtain ⟨j, hj, rfl, hnd, ho3⟩ := hrel
  have HND := Lib.hid hnd
  have HO3 := Lib.hid ho3
  have k3 := (HB0.out.only ho3 id).cell 3 rfl
  have k4 := (HB0.out.only ho3 id).cell 4 rfl
  clear hnd ho3
  rcases Nat.lt_or_ge j ks.length with hlt | hge
  ·obtain ⟨x, hx⟩ : ∃ x, ks[j]? = some x := ⟨ks[j], List.getElem?_eq_getElem hlt⟩
   have q : decide ((j : Int) < (ks.length : Int)) = true := by simp; omega
   have hjz : (j : Int) < (ks.length : Int) := by omega
   obtain ⟨bK, oK, rfl, hXK, hcK⟩ := HKS.out j x hx
   have hcx : wr.cell? ⟨bK, oK + j, none⟩ = some (.string ⟨x.toArray⟩) := by
    have h1 := hcK 0 _ rfl
    have h2 := (HO1.out.trans HO3.out).cell h1 id
    simpa [txt] using h2
   have hpx := HPK.out x (List.mem_of_getElem? hx)
   have HPX := Lib.hid hpx
   have HX := Lib.hid hx
   have HLT := Lib.hid hlt
   have HJ := Lib.hid hj
   have HCX := Lib.hid hcx
   clear hx hcK hXK hpx
   go_wp2_with (go_at_call 115; refine (utf_good (t := x) HPX.out.1 HPX.out.2).mono ?_; rintro e w2 ⟨rfl, rfl⟩)
   have ho4 := Only.refl (fun _ => False) wr
   clear k3 k4 hcx
   go_loopw [6] (fun s6 w3 => ∃ i : Nat, i ≤ j ∧ s6 = .int .i64 (i : Int) ∧ x ∉ ks.take i ∧ Only (fun _ => False) wr w3) (fun i _ => j - (intOf i).toNat)
   case atStart => exact ⟨0, by omega, rfl, by simp, Only.refl _ _⟩
   case round =>
    obtain ⟨i, hi, rfl, hni, ho5⟩ := hrel
    have HNI := Lib.hid hni
    have HO5 := Lib.hid ho5
    clear hni ho5 ho4
    rcases Nat.lt_or_ge i j with hlt2 | hge2
    ·have q2 : decide ((i : Int) < (j : Int)) = true := by simp; omega
     have hiz : (i : Int) < (ks.length : Int) := by have := HLT.out; omega
     obtain ⟨y, hy⟩ : ∃ y, ks[i]? = some y := ⟨ks[i]'(by have := HLT.out; omega), List.getElem?_eq_getElem _⟩
     have HY := Lib.hid hy
     obtain ⟨bY, oY, eY, hXY, hcY⟩ := HKS.out i y hy
     cases eY
     have hcy : wr.cell? ⟨bK, oK + i, none⟩ = some (.string ⟨y.toArray⟩) := by
      have h1 := hcY 0 _ rfl
      have h2 := ((HO1.out.trans HO3.out).trans HO5.out).cell h1 id
      simpa [txt] using h2
     have hcx := HO5.out.cell HCX.out id
     have k4 := (HB0.out.only (HO3.out.trans HO5.out) id).cell 4 rfl
     clear hcY hXY hy
     by_cases hyx : y = x
     ·have q9 : (y == x) = true := by simp [hyx]
      have HYX := Lib.hid hyx
      clear hyx
      go_wp2
      go_quiet (fail)
      go_wp2
      go_ret
      refine ⟨((HO1.out.trans HO3.out).trans HO5.out).drewN _, ?_⟩
      rw [nd_dup (i := i) (j := j) (by rw [← HYX.out]; exact HY.out) HX.out hlt2]; rfl
     ·have q9 : (y == x) = false := by simp [hyx]
      have HYX := Lib.hid hyx
      clear hyx
      go_wp2
      go_quiet (fail)
      go_wp2
      go_roundw
      case rel =>
       refine ⟨i + 1, by omega, by push_cast; rfl, ?_, HO5.out.drewN _⟩
       rw [take_snoc HY.out]
       intro hm
       rcases List.mem_append.1 hm with h1 | h1
       ·exact HNI.out h1
       ·exact HYX.out (List.mem_singleton.1 h1).symm
      case measure => simp [intOf]; omega
    ·have q2 : decide ((i : Int) < (j : Int)) = false := by simp; omega
     obtain rfl : i = j := by omega
     go_wp2
     go_roundw
     case rel =>
      refine ⟨i + 1, by have := HLT.out; omega, by push_cast; rfl, ?_, HO3.out.trans HO5.out⟩
      rw [take_snoc HX.out]
      exact List.nodup_append.2 ⟨HND.out, by simp, fun a ha b hb => by rw [List.mem_singleton.1 hb]; rintro rfl; exact HNI.out ha⟩
     case measure => have := HLT.out; simp [intOf]; omega
  ·have q : decide ((j : Int) < (ks.length : Int)) = false := by simp; omega
   obtain rfl : j = ks.length := by omega
   have hndk := HND.out
   rw [List.take_of_length_le (Nat.le_refl _)] at hndk
   have HNDK := Lib.hid hndk
   have HO2 := Lib.hid (HO1.out.trans HO3.out)
   have HBR := Lib.hid (HB0.out.only HO3.out id)
   clear hndk
   go_wp2
   clear k3 k4
   go_loopw [7] (fun s7 w3 => ∃ j : Nat, j ≤ l.length ∧ s7 = .int .i64 (j : Int) ∧ ndAll (l.take j) = true ∧ Only (fun _ => False) wr w3) (fun i _ => l.length - (intOf i).toNat)
   case atStart => exact ⟨0, by omega, rfl, rfl, Only.refl _ _⟩
   case round =>
    obtain ⟨j, hj, rfl, hnd, ho3⟩ := hrel
    have HNA := Lib.hid hnd
    have HO5 := Lib.hid ho3
    have k3 := (HBR.out.only ho3 id).cell 3 rfl
    clear hnd ho3
    rcases Nat.lt_or_ge j l.length with hlt | hge
    ·obtain ⟨x, hx⟩ : ∃ x, l[j]? = some x := ⟨l[j], List.getElem?_eq_getElem hlt⟩
     have q : decide ((j : Int) < (l.length : Int)) = true := by simp; omega
     have hjz : (j : Int) < (l.length : Int) := by omega
     obtain ⟨A2, c2, B2, d2, hjx, hlx⟩ := HLS.out j x hx
     obtain ⟨bA, oA, rfl, hXA, hcA⟩ := hlx
     have HRG := Lib.hid (show wr.rangeAt bA (oA + j * 5) (cells5 x.kind x.str x.num (.slice A2 x.list.length c2) (.slice B2 x.keys.length d2)) from fun i y hy => by
      have := (HO2.out.trans HO5.out).cell (hcA i y hy) id
      rw [Nat.add_assoc, Nat.mul_comm j 5]; exact this)
     have HMX := Lib.hid (HH.out x (List.mem_of_getElem? hx))
     have HJX := Lib.hid (hjx.keep (HO2.out.trans HO5.out))
     have HLT := Lib.hid hlt
     have HX := Lib.hid hx
     clear hx hjx hcA hXA hlt
     obtain ⟨nb, hnb⟩ : ∃ nb, nb = x.nd := ⟨_, rfl⟩
     have HNB := Lib.hid hnb
     clear hnb
     go_upto_region 18 with (fail)
     cases nb
     ·go_wp2_with (first
       | (refine load85 rfl (.tmp 125) rfl rfl HRG.out rfl ?_)
       | (go_at_call 93; refine (HMX.out X _ _ HJX.out).mono ?_; rintro e w4 ⟨ho4, he4⟩; rw [← HNB.out] at he4; obtain rfl := he4; have HO4 := Lib.hid ho4; clear ho4))
      go_ret
      refine ⟨(HO2.out.trans HO5.out).trans HO4.out, ?_⟩
      rw [show JV.nd (.mk 6 [] 0 l ks) = false from by simp [JV.nd, ndAll_false HX.out HNB.out.symm]]; rfl
     ·go_wp2_with (first
       | (refine load85 rfl (.tmp 125) rfl rfl HRG.out rfl ?_)
       | (go_at_call 93; refine (HMX.out X _ _ HJX.out).mono ?_; rintro e w4 ⟨ho4, he4⟩; rw [← HNB.out] at he4; obtain rfl := he4; have HO4 := Lib.hid ho4; clear ho4))
      go_roundw
      case rel => exact ⟨j + 1, by have := HLT.out; omega, by push_cast; rfl, by rw [ndAll_take HX.out, HNA.out, ← HNB.out]; rfl, HO5.out.trans HO4.out⟩
      case measure => have := HLT.out; simp [intOf]; omega
    ·have q : decide ((j : Int) < (l.length : Int)) = false := by simp; omega
     obtain rfl : j = l.length := by omega
     go_wp2
     go_ret
     refine ⟨HO2.out.trans HO5.out, ?_⟩
     have := HNA.out
     rw [List.take_of_length_le (Nat.le_refl _)] at this
     rw [show JV.nd (.mk 6 [] 0 l ks) = true from by simp [JV.nd, this, HNDK.out]]; rfl
theorem deep_any {m : Nat} {v : JV} (h : WV m v) : m ≤ 8 → DeepS v m := by
 induction h with
 | @leaf m k hk =>
  intro _
  match k, hk with
  | 0, _ => exact deep_leaf0
  | 1, _ => exact deep_leaf1
  | 2, _ => exact deep_leaf2
 | num => intro _; exact deep_num
 | str hs hl => intro _; exact deep_str hs hl
 | arr hl hn ih => intro hm; exact deep_arr (fun x hx => ih x hx (by omega)) hn (by omega)
 | obj hl hk hs hn ih => intro hm; exact deep_obj (fun x hx => ih x hx (by omega)) hn hk hs (by omega)
theorem only_grown {w w' : World} (ho : Only (fun _ => False) w w') : w.grownBy w' none := ⟨ho.os, ho.tape, ho.output, ho.size, fun k hk _ => ho.block k hk id⟩
theorem under244 : Tryz.prog.underlying 244 = some (.map 9 3) := by kernel_rfl
theorem keyed9 : Maps.Keyed Tryz.prog 9 := Maps.string_keyed under9
def seenD (ks : List Bytes) : DataW Unit := ks.foldl (fun D k => D.put (.string k) (.lit (.int .i64 1))) (.map [])
theorem seenD_snoc (ks : List Bytes) (k : Bytes) : seenD (ks ++ [k]) = (seenD ks).put (.string k) (.lit (.int .i64 1)) := by unfold seenD; rw [List.foldl_append]; rfl
theorem fold_not {k : Bytes} (z : DataW Unit) : ∀ (ks : List Bytes) (D : DataW Unit), k ∉ ks → (ks.foldl (fun D k => D.put (.string k) (.lit (.int .i64 1))) D).atKey (.string k) z = D.atKey (.string k) z
 | [], D, _ => rfl
 | a :: ks, D, h => by
  rw [List.foldl_cons, fold_not z ks _ (fun hm => h (List.mem_cons_of_mem _ hm)), Maps.atKey_put_other]
  intro e
  have : k = a := by injection e
  exact h (by rw [this]; simp)
theorem seenD_not {k : Bytes} {ks : List Bytes} (h : k ∉ ks) (z : DataW Unit) : (seenD ks).atKey (.string k) z = z := fold_not z ks _ h
theorem nodup_take {ks : List Bytes} (h : ks.Nodup) {j : Nat} {k : Bytes} (hk : ks[j]? = some k) : k ∉ ks.take j := by
 intro hm
 obtain ⟨i, hi⟩ := List.getElem?_of_mem hm
 rw [List.getElem?_take] at hi
 split at hi
 ·rename_i hij
  obtain ⟨p1, q1⟩ := List.getElem?_eq_some_iff.1 hk
  obtain ⟨p2, q2⟩ := List.getElem?_eq_some_iff.1 hi
  exact List.pairwise_iff_getElem.1 h i j p2 p1 hij (q2.trans q1.symm)
 ·cases hi
structure MMid (Hm : Nat) (w : World) (ks : List Bytes) (wr : World) : Prop where
 map : wr.ownsMap Tryz.prog 9 (plainElem (H := Unit) Tryz.prog 3) Hm ks.length (seenD ks)
 only : Only (fun i => i = Hm) w wr
set_option maxRecDepth 100000 in
set_option maxHeartbeats 6400000 in
theorem may_obj {l : List JV} {ks : List Bytes} {m : Nat} (h : ∀ x ∈ l, MayS x m) (hl : l.length ≤ 3000000000) (hkn : ks.length = l.length) (hnd : ks.Nodup) (hpk : ∀ k ∈ ks, (∀ x ∈ k, x.toNat < 128) ∧ k.length ≤ 1000000000000) : MayS (.mk 6 [] 0 l ks) (m + 1) := by
 intro X w cs d hmd hd hJ hG
 obtain ⟨A1, c1, B1, d1, rfl, hls, hks⟩ := hJ.parts
 have HLS := Lib.hid hls
 have HKS := Lib.hid hks
 have HG := Lib.hid hG
 have HD := Lib.hid hd
 have HMD := Lib.hid hmd
 have HND := Lib.hid hnd
 have HPK := Lib.hid hpk
 have HKN := Lib.hid hkn
 have hdz : (d : Int) ≤ 1000 := by omega
 have HH := Lib.hid h
 have HLL := Lib.hid hl
 have hd0 : ((d : Int) == 0) = false := by simp; omega
 have hd01 : ¬ (d : Int) = 0 := by omega
 have hlz : (l.length : Int) ≤ 3000000000 := by omega
 have hkz : (ks.length : Int) ≤ 3000000000 := by omega
 have hkl : ((ks.length : Int) != (l.length : Int)) = false := by simp; omega
 clear hJ hls hks hG hd hmd hnd hpk hkn h hl
 unfold cells5 txt
 try simp only [List.length_nil]
 go_enter Tryz.func121, Tryz.ntmps121
 have hmm := @run_makeMap Tryz.prog
 go_upto_region 10 with (go_at_call 142; refine (valid_asc (t := []) (by simp) (by simp) ((HG.out.alloc _).alloc _)).mono ?_; rintro e w2 ⟨ho2, rfl⟩; have HO2 := Lib.hid (((((Only.refl _ w).alloc _).alloc _).trans ho2)); have hb0 := (((Blk.new w [.int .i64 6, .string ⟨#[]⟩, .int .u64 0, .slice A1 l.length c1, .slice B1 ks.length d1] 79).alloc (Obj.cells #[.int .i64 d] 3)).only ho2 id); have hd9 := (Blk.new (w.alloc (Obj.cells #[.int .i64 6, .string ⟨#[]⟩, .int .u64 0, .slice A1 l.length c1, .slice B1 ks.length d1] 79)) [.int .i64 d] 3).only ho2 id; rw [World.size_alloc] at hd9; have HB0 := Lib.hid hb0; have HD0 := Lib.hid hd9; have kd0 := hd9.cell 0 rfl; have k0 := hb0.cell 0 rfl; have k3 := hb0.cell 3 rfl; have k4 := hb0.cell 4 rfl; have k3m := (hb0.alloc (Obj.map #[] 0)).cell 3 rfl; have k4m := (hb0.alloc (Obj.map #[] 0)).cell 4 rfl; clear ho2 hb0 hd9)
 have hmz := @World.ownsMap_made Unit w2 Tryz.prog 9 (plainElem Tryz.prog 3)
 have o3 : Only (fun _ => False) w (w2.alloc (.map #[] 0)) := HO2.out.alloc _
 have hb3 : Blk (w2.alloc (.map #[] 0)) w.heap.size [.int .i64 6, .string ⟨#[]⟩, .int .u64 0, .slice A1 l.length c1, .slice B1 ks.length d1] 79 := HB0.out.alloc _
 have hd3 := HD0.out.alloc (.map #[] 0)
 have hlow : w.heap.size + 1 < w2.heap.size := HD0.out.lt
 have HLOW := Lib.hid hlow
 generalize w2.alloc (.map #[] 0) = w3 at o3 hb3 hd3 hmz k3m k4m ⊢
 generalize w2.heap.size = Hm at hmz HLOW ⊢
 have HO3 := Lib.hid o3
 have HB3 := Lib.hid hb3
 have HD3 := Lib.hid hd3
 have HMZ := Lib.hid hmz
 clear o3 hb3 hd3 hmz hmm k3m k4m hlow k0 k3 k4 kd0
 go_loopw [90] (fun s90 wr => ∃ j : Nat, j ≤ ks.length ∧ s90 = .int .i64 (j : Int) ∧ MMid Hm w3 (ks.take j) wr) (fun i _ => ks.length - (intOf i).toNat)
 case atStart => exact ⟨0, by omega, rfl, ⟨HMZ.out, Only.refl _ _⟩⟩
 case round =>
  obtain ⟨j, hj, rfl, hm⟩ := hrel
  have HM := Lib.hid hm
  clear hm
  rcases Nat.lt_or_ge j ks.length with hlt | hge
  ·obtain ⟨x, hx⟩ : ∃ x, ks[j]? = some x := ⟨ks[j], List.getElem?_eq_getElem hlt⟩
   have q : decide ((j : Int) < (ks.length : Int)) = true := by simp; omega
   have hjz : (j : Int) < (ks.length : Int) := by omega
   obtain ⟨bK, oK, rfl, hXK, hcK⟩ := HKS.out j x hx
   have hcx : wr.cell? ⟨bK, oK + j, none⟩ = some (.string ⟨x.toArray⟩) := by
    have h1 := hcK 0 _ rfl
    have hb := cell_lt h1
    have h2 := HM.out.only.cell (HO3.out.cell h1 id) (by have := HLOW.out; simp at hb ⊢; omega)
    simpa [txt] using h2
   have hpx := HPK.out x (List.mem_of_getElem? hx)
   have hkey : keyOf Tryz.prog 9 (.string ⟨x.toArray⟩) = some (.string x) := by
    have := WideMaps.keyOf_string_mk (P := Tryz.prog) (k := 9) under9 (s := ⟨x.toArray⟩) (by show x.toArray.size ≤ _; have := hpx.2; unfold maxLen; simp; omega)
    simpa using this
   obtain ⟨cc, hrun, hat, _⟩ := HM.out.map.lookup_int keyed9 under244 under3 (zero3 _) hkey
   rw [seenD_not (nodup_take HND.out hx)] at hat
   have hcc : cc = 0 := by injection hat with h1; injection h1 with h2 h3; exact h3.symm
   subst hcc
   have HPX := Lib.hid hpx
   have HKEY := Lib.hid hkey
   have HTS := Lib.hid (take_snoc hx)
   have HLT := Lib.hid hlt
   have HGW := Lib.hid (show Gl wr from (HG.out.only HO3.out (fun _ _ => id)).only HM.out.only (fun b hb e => by have h8 := HG.out.size; have := HLOW.out; omega))
   have HKL := Lib.hid (show (ks.take j).length = j by rw [List.length_take]; omega)
   clear hx hcK hXK hpx hkey hat hlt
   go_wp2_with (go_at_call 142; refine (valid_asc (t := x) HPX.out.1 (by have := HPX.out.2; omega) HGW.out).mono ?_; rintro e w5 ⟨ho5, rfl⟩; have hm5 := HM.out.map.kept (only_grown ho5) (by simp); obtain ⟨w6, hrun6, hown6, hgr6⟩ := hm5.update keyed9 under244 (by rw [HKL.out]; unfold maxLen; omega) HKEY.out (plainElem_int under3 (a := 1) (by decide)); have HOWN6 := Lib.hid hown6; have HGR6 := Lib.hid hgr6; have HO5 := Lib.hid ho5; clear ho5 hm5 hown6 hgr6)
   go_roundw
   case rel =>
    refine ⟨j + 1, by have := HLT.out; omega, by push_cast; rfl, ?_, ?_⟩
    ·rw [HTS.out, seenD_snoc, List.length_append]
     exact HOWN6.out
    ·exact (HM.out.only.trans (HO5.out.mono (fun _ _ h => h.elim))).then (Only.ofGrown HGR6.out) (fun i hi h => by simpa using h.symm)
   case measure => have := HLT.out; simp [intOf]; omega
  ·have q : decide ((j : Int) < (ks.length : Int)) = false := by simp; omega
   obtain rfl : j = ks.length := by omega
   have hbr := HB3.out.only HM.out.only (by have := HLOW.out; show ¬ (_ = _); omega)
   have hdr := HD3.out.only HM.out.only (by have := HLOW.out; show ¬ (_ = _); omega)
   have k3 := hbr.cell 3 rfl
   have HDR := Lib.hid (hdr.cell 0 rfl)
   have howr : Only (fun _ => False) w wr := HO3.out.then HM.out.only (fun i hi e => by have := HLOW.out; omega)
   have hct := may_contains (X := X) (l := l) (A := A1) (c := c1) HH.out (.inl HMD.out) HD.out HLL.out (fun i v hv => by obtain ⟨A2, c2, B2, d2, h1, h2⟩ := HLS.out i v hv; exact ⟨A2, c2, B2, d2, h1.keep howr, h2.only (by simp [cells5]) howr (fun b hb hx => ⟨id, hx⟩)⟩) HDR.out (HG.out.only howr (fun _ _ => id))
   have HCT := Lib.hid hct
   have HOW := Lib.hid howr
   clear hct hbr hdr howr
   go_wp2_with (go_at_call 143; refine HCT.out.mono ?_; rintro e w4 ⟨ho4, rfl⟩; have HO4 := Lib.hid ho4; clear ho4)
   go_ret
   exact ⟨HOW.out.trans HO4.out, rfl⟩
end Go.Proofs.YtjehnejgojgahaaGreatDoor
