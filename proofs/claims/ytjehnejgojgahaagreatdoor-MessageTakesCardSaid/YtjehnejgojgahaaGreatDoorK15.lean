/-
  A part of the proof of MessageTakes: the texts N5.
-/
import Derived.Test.YtjehnejgojgahaaGreatDoorK14
namespace Go.Proofs.YtjehnejgojgahaaGreatDoor
open Go.RowKit
set_option linter.unusedVariables false
set_option linter.unusedSimpArgs false
structure LstIs (f f1 m kind : Nat) (e : UInt8) (T : Option (JV × Bytes)) (L : List JV) (KS : List Bytes) (r1 : Bytes) (nl nk : Nat) : Prop where
 T : lstB (f1 + 1) m kind e L KS r1 = T
 len : nl = L.length
 lenK : nk = KS.length
 room : nl + r1.length ≤ 1048576 ∧ nk + r1.length ≤ 1048576
 fuel : 2 * r1.length + 3 ≤ f1 + 1 ∧ f1 + 1 ≤ f
theorem key_state {r1 : Bytes} : ((((some (skipB r1)).bind strOf).map (·.2)).map skipB).bind (mustB [58]) = (keyB r1).map (·.2) := by
 unfold keyB
 rw [Option.bind_some]
 cases strOf (skipB r1) with
 | none => rfl
 | some p =>
  obtain ⟨k, q⟩ := p
  simp only [Option.map_some, Option.bind_some]
  cases mustB [58] (skipB q) <;> rfl
theorem enough_key {f1 : Nat} {r1 : Bytes} (h : 2 * r1.length + 3 ≤ f1 + 1) : Enough f1 2 ((keyB r1).map (·.2)) := by
 intro q hq
 obtain ⟨p, hp, rfl⟩ := Option.map_eq_some_iff.1 hq
 have := keyB_length (k := p.1) (q := p.2) hp
 omega
theorem VPre.some_strs {r1 : Bytes} : ((some (skipB r1)).bind strOf).map (·.2) ≠ none → some (skipB r1) ≠ none := fun _ h => by cases h
theorem RoundIs.obj {f f1 k : Nat} {T : Option (JV × Bytes)} {L : List JV} {KS : List Bytes} {r1 : Bytes} {nl nk : Nat} {ys : List Value} {tt : ByteArray} (h : LstIs f f1 k 6 125 T L KS r1 nl nk)
  (ht : ∀ p, (some (skipB r1)).bind strOf = some p → tt = ⟨p.1.toArray⟩) (hys : ys = cellsK KS) :
  RoundIs f f1 k 6 125 T (((keyB r1).map (·.2)).bind (valB f1 k)) L KS r1 nl nk (nk + 1) (ys ++ [.string tt]) := by
 refine ⟨?_, ?_, h.T, h.len, h.lenK, h.room, h.fuel⟩
 ·unfold roundK
  rw [if_pos rfl]
  cases keyB r1 <;> rfl
 ·intro K' q hk
  unfold roundK at hk
  rw [if_pos rfl] at hk
  obtain ⟨p, hp, he⟩ := Option.map_eq_some_iff.1 hk
  cases he
  have hs : (some (skipB r1)).bind strOf = some (p.1, (((some (skipB r1)).bind strOf).getD ([], [])).2) := by
   unfold keyB at hp
   rw [Option.bind_some]
   split at hp
   ·cases hp
   ·rename_i k0 q0 hs0
    obtain ⟨z, hz, e2⟩ := Option.map_eq_some_iff.1 hp
    cases e2
    rw [hs0]; rfl
  have := ht _ hs
  refine ⟨by simp [h.lenK], ?_⟩
  rw [this, hys]
  simp [cellsK, txt]
theorem value_end {g : Nat} {A : Option Addr} {c : Nat} {l r : Bytes} {w : World} {f m : Nat} (hR : RSo w g A c l (some r)) (hs : skipB r = []) :
  Calls Tryz.prog 67 #[.pointer (some ⟨g, 0, none⟩), .int .i64 m] w (fun e w' => ∃ cs, e = .returned (.agg cs.toArray) ∧ ValAt g A c l ((some r).bind (valB (f + 1) m)) w cs w') := by
 have hv : (some r).bind (valB (f + 1) m) = none := by rw [Option.bind_some]; simp only [valB]; rw [hs]
 rw [hv]
 clear hv
 have HR := Lib.hid hR
 have HG := Lib.hid hR.low.1
 have HL := Lib.hid hR.low.2
 have HS := Lib.hid hs
 have hne : ¬ w.heap.size = g := by have := hR.low.1; omega
 clear hR hs
 go_enter Tryz.func67, Tryz.ntmps67
 go_wp2_with (go_at_call 68; refine (blanks_o (HR.out.alloc _)).mono ?_; rintro e w1 ⟨rfl, hr1, ho1⟩; have HR1 := Lib.hid hr1; rw [show (some r).map skipB = some [] from congrArg some HS.out] at hr1; obtain ⟨j, hj, hd⟩ := hr1; obtain ⟨h0, h1, h2, h3, h4⟩ := hj.cells; obtain ⟨⟨c0, c1, c2, c3, c4⟩, f0, f1, f2, f3, f4⟩ := (Blk.call (cs := Z5) ho1 HG.out).five; have HD := Lib.hid hd; have HO1 := Lib.hid ho1; clear hj hd ho1)
 have hge : decide ((l.length : Int) ≤ (j : Int)) = true := by
  have := congrArg List.length HD.out
  simp at this; simp; omega
 have hge2 : decide (l.length ≤ j) = true := by simpa using hge
 have hge3 : (l.length : Int) ≤ (j : Int) := by simpa using hge
 have hge4 : l.length ≤ j := by omega
 go_quiet (fail)
 go_wp2
 have hW := fun n => (Only.refl (· = w.heap.size) (((w1.drewN n).setCell ⟨g, 2, none⟩ (.bool true))))
 refine bodyPost_ret (ret_cell (g := w.heap.size) (cs := Z5) (T := 85) rfl rfl ?_ (by kernel_rfl) (by kernel_rfl)) rfl ⟨Z5, rfl, Z5_five, ?_, ?_, fun p hp => by cases hp⟩
 ·exact Blk.set' (Blk.set' (Blk.set' (Blk.set' (Blk.set' (((((Blk.call (cs := Z5) HO1.out HG.out)).drewN _).far (by simpa using hne) _)) 0 _ rfl) 1 _ rfl) 2 _ rfl) 3 _ rfl) 4 _ rfl
 ·exact ((HR1.out.drewN _).setBad).only ((((((hW _).setCell (fun _ => rfl) _).setCell (fun _ => rfl) _).setCell (fun _ => rfl) _).setCell (fun _ => rfl) _).setCell (fun _ => rfl) _) (by have := HG.out; omega) (fun b o ea hl e => by have := HL.out b o ea hl; omega)
 ·exact ((((((((Only.refl (· = g) w).alloc _).trans HO1.out).drewN _).setCell (fun _ => rfl) _).setCell (fun h => absurd h (Nat.lt_irrefl _)) _).setCell (fun h => absurd h (Nat.lt_irrefl _)) _).setCell (fun h => absurd h (Nat.lt_irrefl _)) _).setCell (fun h => absurd h (Nat.lt_irrefl _)) _ |>.setCell (fun h => absurd h (Nat.lt_irrefl _)) _
set_option maxHeartbeats 8000000 in
set_option maxRecDepth 100000 in
theorem docvalue_step {f : Nat} (IH : ∀ k, k < f → ValueSaid k) : ValueSaid f := by
 intro g A c l s w m hm hR hE
 cases s with
 | none => exact value_bad hR
 | some r =>
  have HIH := Lib.hid IH
  have hE' : 2 * r.length + 2 ≤ f := hE r rfl
  obtain ⟨f, rfl⟩ : ∃ k, f = k + 1 := ⟨f - 1, by omega⟩
  have HE := Lib.hid hE'
  have HR := Lib.hid hR
  have HG := Lib.hid hR.low.1
  have HL := Lib.hid hR.low.2
  have hne : ¬ w.heap.size = g := by have := hR.low.1; omega
  clear hR hE hE' IH
  cases hsk : skipB r with
  | nil => exact value_end HR.out hsk
  | cons x t =>
   have HSK := Lib.hid hsk
   clear hsk
   go_enter Tryz.func67, Tryz.ntmps67
   go_wp2_with (go_at_call 68; refine (blanks_o (HR.out.alloc _)).mono ?_; rintro e w1 ⟨rfl, hr1, ho1⟩; rw [show (some r).map skipB = some (x :: t) from congrArg some HSK.out] at hr1; obtain ⟨j, hj, hd⟩ := hr1; obtain ⟨h0, h1, h2, h3, h4⟩ := hj.cells; obtain ⟨⟨c0, c1, c2, c3, c4⟩, f0, f1, f2, f3, f4⟩ := (Blk.call (cs := Z5) ho1 HG.out).five; have HJ := Lib.hid hj; have HD := Lib.hid hd; have HO1 := Lib.hid ho1; clear hj hd ho1)
   have hlt : j < l.length := by
    rcases Nat.lt_or_ge j l.length with h | h
    ·exact h
    ·have := HD.out; rw [List.drop_eq_nil_of_le h] at this; cases this
   have hge : decide (l.length ≤ j) = false := by simp; omega
   have hx : l[j]? = some x := by rw [← List.head?_drop, HD.out]; rfl
   obtain ⟨b, o, rfl, hc⟩ := HJ.out.bytes j x hx
   obtain ⟨z, hz⟩ : ∃ z : Nat, z = x.toNat := ⟨_, rfl⟩
   rw [← hz] at hc
   have hz2 : z < 256 := by rw [hz]; exact x.toNat_lt
   have HZ := Lib.hid hz
   have HLT := Lib.hid hlt
   have hl := HJ.out.len
   have hw1 : w.heap.size + 1 ≤ w1.heap.size := by have := HO1.out.size; simpa using this
   have hgw : g < w.heap.size := HG.out
   have hb1 : b < w1.heap.size := cell_lt hc
   clear hz hx
   have HS := Lib.hid (vmid_start HJ.out HD.out HO1.out HG.out HL.out)
   go_quiet (fail)
   go_wp2_with (refine wpList_store_blk rfl 85 (.tmp 5) (.tmp 29) rfl rfl rfl rfl (Blk.new _ Z5 85) rfl info85s rfl ?_; intro w2 hb2 ho2; have HM2 := Lib.hid (HS.out _ _ hb2 ho2); clear hb2 ho2)
   have hm2 := HM2.out
   clear h0 h1 h2 h3 h4 c0 c1 c2 c3 c4 f0 f1 f2 f3 f4 hc hge hw1 hb1 hlt
   have HSK2 := Lib.hid (show ∀ p, ((some r).bind (valB (f + 1) m)) = p → ((some r).bind (valB (f + 1) m)) = p from fun _ h => h)
   clear HS HJ HD HLT HO1 hl
   obtain ⟨t5, ht5⟩ : ∃ t5, t5 = w1.heap.size := ⟨_, rfl⟩
   rw [← ht5] at hm2 ⊢
   clear HM2 ht5 HSK2
   obtain ⟨j, b', o', eA, hlt, hl, h0, h1, h2, h3, h4, hc, hj, hd⟩ := hm2.at
   cases eA
   rw [← HZ.out] at hc
   obtain ⟨⟨c0, c1, c2, c3, c4⟩, f0, f1, f2, f3, f4⟩ := hm2.b5.five
   have hbt : b < t5 := by have h1 := hm2.low b o rfl (by rintro rfl; simp at hlt); have := hm2.lt; omega
   have hbt1 : ¬ b = t5 := by omega
   have hbt2 : ¬ t5 = b := by omega
   clear hbt
   have hne5 : ¬ t5 = g := by have := hm2.gb; have := hm2.lt; omega
   have HM := Lib.hid hm2
   have HJ := Lib.hid hj
   have HD := Lib.hid hd
   clear hm2 hj hd w1
   by_cases h110 : z = 110
   ·as_aux_lemma =>
     subst h110
     obtain rfl : x = 110 := UInt8.toNat_inj.1 HZ.out.symm
     go_quiet (fail)
     go_wp2_with (first | (go_at_call 89; refine (must_any (by decide) (HM.out.drewN _).rs).mono ?_; rintro e w3 ⟨rfl, hr3, ho3⟩; have HM3 := Lib.hid ((HM.out.drewN _).call hr3 ho3); clear hr3 ho3) | (refine wpList_load_blk rfl 85 (.tmp 5) rfl rfl HM3.out.b5 agg85 info85s ?_) | (refine wpList_store_blk rfl 85 (.tmp 4) _ rfl rfl rfl rfl HM3.out.b4 rfl info85s rfl ?_; intro w9 hb9 ho9; have HB9 := Lib.hid hb9; have HO9 := Lib.hid ho9; clear hb9 ho9))
     refine bodyPost_ret (ret_cell rfl rfl HB9.out agg85 info85s) rfl (HM3.out.done HB9.out HO9.out ⟨0, _, 0, none, 0, 0, none, 0, 0, rfl⟩ ?_ ?_)
     ·rw [val_word110 HSK.out]; exact (map_snd _ _).symm
     ·intro p hp
      rw [val_word110 HSK.out] at hp
      obtain ⟨q, rfl⟩ := map_fst _ _ hp
      exact JIs.plain _ _ 0 [] 0 none none 0 0
   by_cases h102 : z = 102
   ·as_aux_lemma =>
     subst h102
     obtain rfl : x = 102 := UInt8.toNat_inj.1 HZ.out.symm
     go_quiet (fail)
     go_wp2_with (first | (go_at_call 89; refine (must_any (by decide) ((HM.out.drewN _).set5 0 (.int .i64 1) rfl).rs).mono ?_; rintro e w3 ⟨rfl, hr3, ho3⟩; have HM3 := Lib.hid (((HM.out.drewN _).set5 0 (.int .i64 1) rfl).call hr3 ho3); clear hr3 ho3) | (refine wpList_load_blk rfl 85 (.tmp 5) rfl rfl HM3.out.b5 agg85 info85s ?_) | (refine wpList_store_blk rfl 85 (.tmp 4) _ rfl rfl rfl rfl HM3.out.b4 rfl info85s rfl ?_; intro w9 hb9 ho9; have HB9 := Lib.hid hb9; have HO9 := Lib.hid ho9; clear hb9 ho9))
     refine bodyPost_ret (ret_cell rfl rfl HB9.out agg85 info85s) rfl (HM3.out.done HB9.out HO9.out ⟨1, _, 0, none, 0, 0, none, 0, 0, rfl⟩ ?_ ?_)
     ·rw [val_word102 HSK.out]; exact (map_snd _ _).symm
     ·intro p hp
      rw [val_word102 HSK.out] at hp
      obtain ⟨q, rfl⟩ := map_fst _ _ hp
      exact JIs.plain _ _ 1 [] 0 none none 0 0
   by_cases h116 : z = 116
   ·as_aux_lemma =>
     subst h116
     obtain rfl : x = 116 := UInt8.toNat_inj.1 HZ.out.symm
     go_quiet (fail)
     go_wp2_with (first | (go_at_call 89; refine (must_any (by decide) ((HM.out.drewN _).set5 0 (.int .i64 2) rfl).rs).mono ?_; rintro e w3 ⟨rfl, hr3, ho3⟩; have HM3 := Lib.hid (((HM.out.drewN _).set5 0 (.int .i64 2) rfl).call hr3 ho3); clear hr3 ho3) | (refine wpList_load_blk rfl 85 (.tmp 5) rfl rfl HM3.out.b5 agg85 info85s ?_) | (refine wpList_store_blk rfl 85 (.tmp 4) _ rfl rfl rfl rfl HM3.out.b4 rfl info85s rfl ?_; intro w9 hb9 ho9; have HB9 := Lib.hid hb9; have HO9 := Lib.hid ho9; clear hb9 ho9))
     refine bodyPost_ret (ret_cell rfl rfl HB9.out agg85 info85s) rfl (HM3.out.done HB9.out HO9.out ⟨2, _, 0, none, 0, 0, none, 0, 0, rfl⟩ ?_ ?_)
     ·rw [val_word116 HSK.out]; exact (map_snd _ _).symm
     ·intro p hp
      rw [val_word116 HSK.out] at hp
      obtain ⟨q, rfl⟩ := map_fst _ _ hp
      exact JIs.plain _ _ 2 [] 0 none none 0 0
   by_cases h34 : z = 34
   ·as_aux_lemma =>
     subst h34
     obtain rfl : x = 34 := UInt8.toNat_inj.1 HZ.out.symm
     go_quiet (fail)
     go_wp2_with (first | (go_at_call 90; refine (str_at ((HM.out.drewN _).set5 0 (.int .i64 4) rfl).rs).mono ?_; rintro e w3 ⟨ho3, t', rfl, hr3, ht3⟩; have hm3 := ((HM.out.drewN _).set5 0 (.int .i64 4) rfl).call hr3 ho3; obtain ⟨⟨_, c5, _, _, _⟩, _, f5, _, _, _⟩ := hm3.b5.five; have HM3 := Lib.hid hm3; have HT3 := Lib.hid ht3; clear hr3 ho3 hm3 ht3) | (refine wpList_load_blk rfl 85 (.tmp 5) rfl rfl (HM3.out.set5 1 _ rfl).b5 agg85 info85s ?_) | (refine wpList_store_blk rfl 85 (.tmp 4) _ rfl rfl rfl rfl (HM3.out.set5 1 _ rfl).b4 rfl info85s rfl ?_; intro w9 hb9 ho9; have HB9 := Lib.hid hb9; have HO9 := Lib.hid ho9; clear hb9 ho9))
     refine bodyPost_ret (ret_cell rfl rfl HB9.out agg85 info85s) rfl ((HM3.out.set5 1 _ rfl).done HB9.out HO9.out ⟨4, _, 0, none, 0, 0, none, 0, 0, rfl⟩ ?_ ?_)
     ·rw [val_str HSK.out]; exact (map_pair _ (fun a => JV.mk 4 a 0 [] [])).symm
     ·intro p hp
      rw [val_str HSK.out] at hp
      obtain ⟨q, hq, rfl⟩ := map_pair_some (f := fun a => JV.mk 4 a 0 [] []) hp
      have := HT3.out q hq
      subst this
      exact JIs.plain _ _ 4 q.1 0 none none 0 0
   by_cases h91 : z = 91
   ·as_aux_lemma =>
     subst h91
     obtain rfl : x = 91 := UInt8.toNat_inj.1 HZ.out.symm
     have HA := Lib.hid (fun n n' => (((HM.out.drewN n).set5 0 (.int .i64 5) rfl).drewN n').step ((((HM.out.drewN n).rs5 (HJ.out.drewN n) 0 (.int .i64 5))).drewN n') HD.out)
     have HLEN := Lib.hid (len_skip HSK.out)
     cases m with
     | zero =>
      go_quiet (fail)
      go_wp2
      go_quiet (fail)
      go_upto_region 28 with (fail)
      refine wp_gen (VMid w g (some ⟨b, o, none⟩) c l w.heap.size t5 (some t) Z5 [.int .i64 5, .string ⟨#[]⟩, .int .u64 0, .slice none 0 0, .slice none 0 0]) (HA.out _ _) ?_
      intro w3 hm3
      clear h0 h1 h2 h3 h4 c0 c1 c2 c3 c4 f0 f1 f2 f3 f4 hc
      obtain ⟨h2, h4⟩ := hm3.rs.bad
      have HM3 := Lib.hid hm3
      clear hm3
      go_wp2_with (first | (refine wpList_load_blk rfl 85 (.tmp 5) rfl rfl HM3.out.setBad.b5 agg85 info85s ?_) | (refine wpList_store_blk rfl 85 (.tmp 4) _ rfl rfl rfl rfl HM3.out.setBad.b4 rfl info85s rfl ?_; intro w9 hb9 ho9; have HB9 := Lib.hid hb9; have HO9 := Lib.hid ho9; clear hb9 ho9))
      refine bodyPost_ret (ret_cell rfl rfl HB9.out agg85 info85s) rfl ((HM3.out.setBad).done HB9.out HO9.out ⟨5, _, 0, none, 0, 0, none, 0, 0, rfl⟩ ?_ ?_)
      ·rw [val_open0 (by decide) HSK.out]; rfl
      ·intro p hp; rw [val_open0 (by decide) HSK.out] at hp; cases hp
     | succ k =>
      have hk8 : k ≤ 8 := by omega
      have hmz : (((k : Int) + 1) == 0) = false := by simp; omega
      by_cases he : (skipB t).head? = some 93
      ·obtain ⟨t2, ht2⟩ : ∃ t2, skipB t = 93 :: t2 := by
        cases hs : skipB t with
        | nil => rw [hs] at he; cases he
        | cons a q => rw [hs] at he; cases he; exact ⟨q, rfl⟩
       have HT2 := Lib.hid ht2
       clear he ht2
       go_quiet (fail)
       go_wp2
       go_quiet (fail)
       go_upto_region 28 with (fail)
       refine wp_gen (VMid w g (some ⟨b, o, none⟩) c l w.heap.size t5 (some t) Z5 [.int .i64 5, .string ⟨#[]⟩, .int .u64 0, .slice none 0 0, .slice none 0 0]) (HA.out _ _) ?_
       intro w3 hm3
       clear h0 h1 h2 h3 h4 c0 c1 c2 c3 c4 f0 f1 f2 f3 f4 hc
       obtain ⟨h2, h4⟩ := hm3.rs.bad
       have HM3 := Lib.hid hm3
       clear hm3
       go_wp2_with (first | (go_at_call 68; refine (blanks_o HM3.out.rs).mono ?_; rintro e w4 ⟨rfl, hr3, ho3⟩; rw [show (some t).map skipB = some (93 :: t2) from congrArg some HT2.out] at hr3; have HM4 := Lib.hid (HM3.out.call hr3 ho3); clear hr3 ho3) | (go_at_call 91; refine (is_yes_o HM4.out.rs).mono ?_; rintro e w5 ⟨rfl, hr4, ho4⟩; have HM5 := Lib.hid (HM4.out.call hr4 ho4); clear hr4 ho4) | (refine wpList_load_blk rfl 85 (.tmp 5) rfl rfl HM5.out.b5 agg85 info85s ?_) | (refine wpList_store_blk rfl 85 (.tmp 4) _ rfl rfl rfl rfl HM5.out.b4 rfl info85s rfl ?_; intro w9 hb9 ho9; have HB9 := Lib.hid hb9; have HO9 := Lib.hid ho9; clear hb9 ho9))
       refine bodyPost_ret (ret_cell rfl rfl HB9.out agg85 info85s) rfl (HM5.out.done HB9.out HO9.out ⟨5, _, 0, none, 0, 0, none, 0, 0, rfl⟩ ?_ ?_)
       ·rw [val_open91 HSK.out, HT2.out]; rfl
       ·intro p hp
        rw [val_open91 HSK.out, HT2.out] at hp
        cases hp
        exact JIs.plain _ _ 5 [] 0 none none 0 0
      ·have HE2 := Lib.hid he
       have HFE := Lib.hid (show 2 * (skipB t).length + 3 ≤ f by have := HE.out; have := HLEN.out; have := skipB_length t; omega)
       have HVAL := Lib.hid (show (some r).bind (valB (f + 1) (k + 1)) = lstB f k 5 93 [] [] (skipB t) by rw [val_open91 HSK.out, if_neg HE2.out])
       clear he
       go_quiet (fail)
       go_wp2
       go_quiet (fail)
       go_upto_region 28 with (fail)
       refine wp_gen (VMid w g (some ⟨b, o, none⟩) c l w.heap.size t5 (some t) Z5 [.int .i64 5, .string ⟨#[]⟩, .int .u64 0, .slice none 0 0, .slice none 0 0]) (HA.out _ _) ?_
       intro w3 hm3
       clear h0 h1 h2 h3 h4 c0 c1 c2 c3 c4 f0 f1 f2 f3 f4 hc
       obtain ⟨h2, h4⟩ := hm3.rs.bad
       have HM3 := Lib.hid hm3
       clear hm3
       go_wp2_with (first | (go_at_call 68; refine (blanks_o HM3.out.rs).mono ?_; rintro e w4 ⟨rfl, hr3, ho3⟩; have HM4 := Lib.hid (HM3.out.call hr3 ho3); clear hr3 ho3) | (go_at_call 91; refine (is_no_o HM4.out.rs HE2.out).mono ?_; rintro e w5 ⟨rfl, hr4, ho4⟩; have HM5 := Lib.hid (HM4.out.call hr4 ho4); clear hr4 ho4))
       go_loopg [] (remG (some (skipB t))) (fun gk wr => VRound f k 5 93 (lstB f k 5 93 [] [] (skipB t)) w g (some ⟨b, o, none⟩) c l t5 gk wr)
       case atStart => exact VRound.start HM5.out HFE.out
       case round =>
        obtain ⟨s, L, KS, nl, nk, xs, ys, vl, vk, hgk, hv, hgood, hbad⟩ := hrel
        have HGK := Lib.hid hgk
        clear hgk
        obtain ⟨Al, cl, rfl⟩ := own_form hv.ownL
        obtain ⟨Ak, ck, rfl⟩ := own_form hv.ownK
        obtain ⟨h2, h4⟩ := hv.mid.rs.bad
        obtain ⟨⟨c0, c1, c2, c3, c4⟩, y0, y1, y2, y3, y4⟩ := hv.mid.b5.five
        have HV := Lib.hid hv
        have HBAD := Lib.hid hbad
        clear hv hbad
        cases s with
        | none =>
         go_wp2_with (first | (refine wpList_load_blk rfl 85 (.tmp 5) rfl rfl HV.out.mid.b5 agg85 info85s ?_) | (refine wpList_store_blk rfl 85 (.tmp 4) _ rfl rfl rfl rfl HV.out.mid.b4 rfl info85s rfl ?_; intro w9 hb9 ho9; have HB9 := Lib.hid hb9; have HO9 := Lib.hid ho9; clear hb9 ho9))
         refine bodyPost_ret (ret_cell rfl rfl HB9.out agg85 info85s) rfl (HV.out.mid.done HB9.out HO9.out ⟨5, _, 0, _, _, _, _, _, _, rfl⟩ ?_ ?_)
         ·rw [show valB (f + 1) (k + 1) r = _ from HVAL.out, HBAD.out trivial]; rfl
         ·intro p hp; rw [show valB (f + 1) (k + 1) r = _ from HVAL.out, HBAD.out trivial] at hp; cases hp
        | some r1 =>
         obtain ⟨hnl, hnk, hys, ⟨f', hf1, hf2, hf3⟩, hl1, hl2⟩ := hgood r1 rfl
         obtain ⟨f1, rfl⟩ : ∃ k, f' = k + 1 := ⟨f' - 1, by omega⟩
         have hwk : IntKind.i64.wrap (k : Int) = k := IntWalk.i64_in _ (by omega)
         have hnl2 : nl ≤ 1100000 := by omega
         have hnk2 : nk ≤ 1100000 := by omega
         have hff : f1 < f + 1 := by omega
         have hlt5 : t5 + 1 ≤ wr.heap.size := HV.out.mid.b5.lt
         clear hgood
         have HRI := Lib.hid (show RoundIs f f1 k 5 93 (lstB f k 5 93 [] [] (skipB t)) ((some r1).bind (valB f1 k)) L KS r1 nl nk nk ys from ⟨rfl, fun K' q hq => (by cases hq; exact ⟨hnk, hys⟩), hf1, hnl, hnk, ⟨hl1, hl2⟩, ⟨hf2, hf3⟩⟩)
         have HEN := Lib.hid (show Enough f1 2 (some r1) from fun q hq => by cases hq; omega)
         clear hnl hnk hys hf1 hf2 hf3 hl1 hl2
         go_upto_region 40 with (fail)
         have HW := Lib.hid HV.out.drew
         refine wp_region_held_drew (S := fun _ => True) (by kernel_rfl) trivial (fun hHeld => ?_)
         refine wpAnyH_take (i := 0) (oi := { dst := some 120, op := Op.fieldAddr 85 (Operand.tmp 5) 3, type := 0, pos := "ref.go:366", after := #[], guard := none }) (v := .pointer (some ⟨t5, 3, none⟩)) rfl (by kernel_rfl) (by kernel_rfl) (by kernel_rfl) (fun _ _ _ h => h) (Or.inl ⟨by rfl, by intro w hSw; go_simp⟩) (by assumption) ?_
         try simp only [Act.put, List.setIfInBounds_toArray, List.set_cons_zero, List.set_cons_succ]
         refine wpAnyH_take (i := 2) (oi := { dst := some 122, op := Op.move (Operand.tmp 0), type := 138, pos := "ref.go:366", after := #[], guard := none }) (v := .pointer (some ⟨g, 0, none⟩)) rfl (by kernel_rfl) (by kernel_rfl) (by kernel_rfl) (fun _ _ _ h => h) (Or.inl ⟨by rfl, by intro w hSw; go_simp⟩) (by assumption) ?_
         try simp only [Act.put, List.setIfInBounds_toArray, List.set_cons_zero, List.set_cons_succ]
         refine wpAnyH_take (i := 3) (oi := { dst := some 123, op := Op.move (Operand.tmp 1), type := 3, pos := "ref.go:366", after := #[], guard := none }) (v := .int .i64 ((k : Int) + 1)) rfl (by kernel_rfl) (by kernel_rfl) (by kernel_rfl) (fun _ _ _ h => h) (Or.inl ⟨by rfl, by intro w hSw; go_simp⟩) (by assumption) ?_
         try simp only [Act.put, List.setIfInBounds_toArray, List.set_cons_zero, List.set_cons_succ]
         refine wpAnyH_take (i := 4) (oi := { dst := some 124, op := Op.binOp BinOp.sub 3 (Operand.tmp 123) (Operand.const (Value.int IntKind.i64 1)) 3, type := 3, pos := "ref.go:366", after := #[{ on := 3, ground := Ground.data }], guard := none }) (v := .int .i64 (k : Int)) rfl (by kernel_rfl) (by kernel_rfl) (by kernel_rfl) (fun _ _ _ h => h) (Or.inl ⟨by rfl, by intro w hSw; go_simp⟩) (by assumption) ?_
         try simp only [Act.put, List.setIfInBounds_toArray, List.set_cons_zero, List.set_cons_succ]
         refine wpAnyH_ready (rs := [1, 5]) (by kernel_rfl) (by simp) ?_
         refine AllReadyH.cons (o := { dst := some 121, op := Op.load 83 (Operand.tmp 120), type := 83, pos := "ref.go:366", after := #[{ on := 0, ground := Ground.data }], guard := none }) rfl (fun K hK => ?_) (AllReadyH.cons (o := { dst := some 125, op := Op.call { callee := Callee.value (Operand.func 67), args := #[Operand.tmp 122, Operand.tmp 124], argTypes := #[138, 3] }, type := 85, pos := "ref.go:366", after := #[{ on := 2, ground := Ground.data }, { on := 4, ground := Ground.data }], guard := none }) rfl (fun K hK => ?_) AllReadyH.nil)
         go_simp
         refine hK.out _ _ trivial (fun hHeld => ?_)
         clear hK K
         try simp only [Act.put, List.setIfInBounds_toArray, List.set_cons_zero, List.set_cons_succ]
         refine wpAnyH_ready (rs := [5]) (by kernel_rfl) (by simp) ?_
         refine AllReadyH.cons (o := { dst := some 125, op := Op.call { callee := Callee.value (Operand.func 67), args := #[Operand.tmp 122, Operand.tmp 124], argTypes := #[138, 3] }, type := 85, pos := "ref.go:366", after := #[{ on := 2, ground := Ground.data }, { on := 4, ground := Ground.data }], guard := none }) rfl (fun K hK => ?_) AllReadyH.nil
         go_simp
         go_at_call 67
         refine ((HIH.out f1 hff) g (some ⟨b, o, none⟩) c l (some r1) _ k hk8 HW.out.mid.rs HEN.out).mono ?_
         rintro e w4 ⟨cs, rfl, hval⟩
         obtain ⟨k', t', n', A', a', c', B', b', d', rfl⟩ := hval.1
         have k3 : w4.cell? ⟨t5, 3, none⟩ = some (.slice Al nl cl) := (HW.out.mid.call hval.2.1 hval.2.2.1).b5.cell 3 rfl
         have k3s : t5 < w4.heap.size := cell_lt k3
         have HVAL4 := Lib.hid hval
         clear hval
         refine hK.out _ _ trivial (fun hHeld => ?_)
         clear hK K
         try simp only [Act.put, List.setIfInBounds_toArray, List.set_cons_zero, List.set_cons_succ]
         refine wpAnyH_ready (rs := [6]) (by kernel_rfl) (by simp) ?_
         refine AllReadyH.cons (o := { dst := some 126, op := Op.buildSlice 83 1 #[(0, Operand.tmp 125)], type := 83, pos := "ref.go:366", after := #[{ on := 5, ground := Ground.data }], guard := none }) rfl (fun K hK => ?_) AllReadyH.nil
         refine step_slice5 rfl _ rfl rfl ?_
         refine hK.out _ _ trivial (fun hHeld => ?_)
         clear hK K
         try simp only [Act.put, List.setIfInBounds_toArray, List.set_cons_zero, List.set_cons_succ]
         refine wpAnyH_ready (rs := [7]) (by kernel_rfl) (by simp) ?_
         refine AllReadyH.cons (o := { dst := some 127, op := Op.call { callee := Callee.builtin Builtin.append, args := #[Operand.tmp 121, Operand.tmp 126], argTypes := #[83, 83] }, type := 83, pos := "ref.go:366", after := #[{ on := 1, ground := Ground.data }, { on := 6, ground := Ground.data }, { on := 5, ground := Ground.chain }], guard := none }) rfl (fun K hK => ?_) AllReadyH.nil
         refine step_append_five (by rfl) _ _ (by rfl) (by rfl) (own_only HW.out.ownL (HVAL4.out.2.2.1.alloc _) (fun b hb e => by have := (own_lt HW.out.ownL b hb).1; have := HW.out.mid.gb; have := HW.out.mid.lt; omega)) (by rfl) (Blk.new w4 _ 85) (by rfl) (by rfl) (Nat.le_trans hnl2 (by decide)) (Nat.le_trans k3s (Nat.le_of_lt (alloc_lt w4 _))) ?_
         intro gg cap w5 hown5 hgr5 hat5
         have hp5 := HW.out.put (fun _ => (by simp)) HVAL4.out hnl2 hnk2 hown5 hgr5 (by simpa using hat5)
         have kb5 := HW.out.blkL HVAL4.out.2.2.1 hgr5
         have k3' := kb5.cell 3 rfl
         have k3f := kb5.frozen 3
         clear kb5
         have HP5 := Lib.hid hp5
         clear hown5 hgr5 hat5 hp5
         refine hK.out _ _ trivial (fun hHeld => ?_)
         clear hK K
         try simp only [Act.put, List.setIfInBounds_toArray, List.set_cons_zero, List.set_cons_succ]
         refine wpAnyH_take (i := 8) (oi := { dst := some 128, op := Op.fieldAddr 85 (Operand.tmp 5) 3, type := 0, pos := "ref.go:366", after := #[{ on := 0, ground := Ground.phase }, { on := 1, ground := Ground.phase }, { on := 2, ground := Ground.phase }, { on := 3, ground := Ground.phase }, { on := 4, ground := Ground.phase }, { on := 5, ground := Ground.phase }, { on := 6, ground := Ground.phase }, { on := 7, ground := Ground.phase }], guard := none }) (v := .pointer (some ⟨t5, 3, none⟩)) rfl (by kernel_rfl) (by kernel_rfl) (by kernel_rfl) (fun _ _ _ h => h) (Or.inl ⟨by rfl, by intro w hSw; go_simp⟩) (by assumption) ?_
         try simp only [Act.put, List.setIfInBounds_toArray, List.set_cons_zero, List.set_cons_succ]
         refine wpAnyH_ready (rs := [9]) (by kernel_rfl) (by simp) ?_
         refine AllReadyH.cons (o := { dst := none, op := Op.store 83 (Operand.tmp 128) (Operand.tmp 127), type := 0, pos := "ref.go:366", after := #[{ on := 8, ground := Ground.data }, { on := 7, ground := Ground.data }, { on := 7, ground := Ground.chain }, { on := 0, ground := Ground.phase }, { on := 1, ground := Ground.phase }, { on := 2, ground := Ground.phase }, { on := 3, ground := Ground.phase }, { on := 4, ground := Ground.phase }, { on := 5, ground := Ground.phase }, { on := 6, ground := Ground.phase }, { on := 7, ground := Ground.phase }], guard := none }) rfl (fun K hK => ?_) AllReadyH.nil
         go_simp
         refine hK.out _ _ trivial (fun hHeld => ?_)
         clear hK K
         try simp only [Act.put, List.setIfInBounds_toArray, List.set_cons_zero, List.set_cons_succ]
         refine wpAnyH_done (by kernel_rfl) ?_ _
         rotate_left
         go_simp
         go_at_call 67
         refine ((HIH.out f1 hff) g (some ⟨b, o, none⟩) c l (some r1) _ k hk8 HW.out.mid.rs HEN.out).mono ?_
         rintro e w4 ⟨cs, rfl, hval⟩
         obtain ⟨k', t', n', A', a', c', B', b', d', rfl⟩ := hval.1
         have k3 : w4.cell? ⟨t5, 3, none⟩ = some (.slice Al nl cl) := (HW.out.mid.call hval.2.1 hval.2.2.1).b5.cell 3 rfl
         have k3s : t5 < w4.heap.size := cell_lt k3
         have HVAL4 := Lib.hid hval
         clear hval
         refine hK.out _ _ trivial (fun hHeld => ?_)
         clear hK K
         try simp only [Act.put, List.setIfInBounds_toArray, List.set_cons_zero, List.set_cons_succ]
         refine wpAnyH_ready (rs := [1, 6]) (by kernel_rfl) (by simp) ?_
         refine AllReadyH.cons (o := { dst := some 121, op := Op.load 83 (Operand.tmp 120), type := 83, pos := "ref.go:366", after := #[{ on := 0, ground := Ground.data }], guard := none }) rfl (fun K hK => ?_) (AllReadyH.cons (o := { dst := some 126, op := Op.buildSlice 83 1 #[(0, Operand.tmp 125)], type := 83, pos := "ref.go:366", after := #[{ on := 5, ground := Ground.data }], guard := none }) rfl (fun K hK => ?_) AllReadyH.nil)
         go_simp
         refine hK.out _ _ trivial (fun hHeld => ?_)
         clear hK K
         try simp only [Act.put, List.setIfInBounds_toArray, List.set_cons_zero, List.set_cons_succ]
         refine wpAnyH_ready (rs := [6]) (by kernel_rfl) (by simp) ?_
         refine AllReadyH.cons (o := { dst := some 126, op := Op.buildSlice 83 1 #[(0, Operand.tmp 125)], type := 83, pos := "ref.go:366", after := #[{ on := 5, ground := Ground.data }], guard := none }) rfl (fun K hK => ?_) AllReadyH.nil
         refine step_slice5 rfl _ rfl rfl ?_
         refine hK.out _ _ trivial (fun hHeld => ?_)
         clear hK K
         try simp only [Act.put, List.setIfInBounds_toArray, List.set_cons_zero, List.set_cons_succ]
         refine wpAnyH_ready (rs := [7]) (by kernel_rfl) (by simp) ?_
         refine AllReadyH.cons (o := { dst := some 127, op := Op.call { callee := Callee.builtin Builtin.append, args := #[Operand.tmp 121, Operand.tmp 126], argTypes := #[83, 83] }, type := 83, pos := "ref.go:366", after := #[{ on := 1, ground := Ground.data }, { on := 6, ground := Ground.data }, { on := 5, ground := Ground.chain }], guard := none }) rfl (fun K hK => ?_) AllReadyH.nil
         refine step_append_five (by rfl) _ _ (by rfl) (by rfl) (own_only HW.out.ownL (HVAL4.out.2.2.1.alloc _) (fun b hb e => by have := (own_lt HW.out.ownL b hb).1; have := HW.out.mid.gb; have := HW.out.mid.lt; omega)) (by rfl) (Blk.new w4 _ 85) (by rfl) (by rfl) (Nat.le_trans hnl2 (by decide)) (Nat.le_trans k3s (Nat.le_of_lt (alloc_lt w4 _))) ?_
         intro gg cap w5 hown5 hgr5 hat5
         have hp5 := HW.out.put (fun _ => (by simp)) HVAL4.out hnl2 hnk2 hown5 hgr5 (by simpa using hat5)
         have kb5 := HW.out.blkL HVAL4.out.2.2.1 hgr5
         have k3' := kb5.cell 3 rfl
         have k3f := kb5.frozen 3
         clear kb5
         have HP5 := Lib.hid hp5
         clear hown5 hgr5 hat5 hp5
         refine hK.out _ _ trivial (fun hHeld => ?_)
         clear hK K
         try simp only [Act.put, List.setIfInBounds_toArray, List.set_cons_zero, List.set_cons_succ]
         refine wpAnyH_take (i := 8) (oi := { dst := some 128, op := Op.fieldAddr 85 (Operand.tmp 5) 3, type := 0, pos := "ref.go:366", after := #[{ on := 0, ground := Ground.phase }, { on := 1, ground := Ground.phase }, { on := 2, ground := Ground.phase }, { on := 3, ground := Ground.phase }, { on := 4, ground := Ground.phase }, { on := 5, ground := Ground.phase }, { on := 6, ground := Ground.phase }, { on := 7, ground := Ground.phase }], guard := none }) (v := .pointer (some ⟨t5, 3, none⟩)) rfl (by kernel_rfl) (by kernel_rfl) (by kernel_rfl) (fun _ _ _ h => h) (Or.inl ⟨by rfl, by intro w hSw; go_simp⟩) (by assumption) ?_
         try simp only [Act.put, List.setIfInBounds_toArray, List.set_cons_zero, List.set_cons_succ]
         refine wpAnyH_ready (rs := [9]) (by kernel_rfl) (by simp) ?_
         refine AllReadyH.cons (o := { dst := none, op := Op.store 83 (Operand.tmp 128) (Operand.tmp 127), type := 0, pos := "ref.go:366", after := #[{ on := 8, ground := Ground.data }, { on := 7, ground := Ground.data }, { on := 7, ground := Ground.chain }, { on := 0, ground := Ground.phase }, { on := 1, ground := Ground.phase }, { on := 2, ground := Ground.phase }, { on := 3, ground := Ground.phase }, { on := 4, ground := Ground.phase }, { on := 5, ground := Ground.phase }, { on := 6, ground := Ground.phase }, { on := 7, ground := Ground.phase }], guard := none }) rfl (fun K hK => ?_) AllReadyH.nil
         go_simp
         refine hK.out _ _ trivial (fun hHeld => ?_)
         clear hK K
         try simp only [Act.put, List.setIfInBounds_toArray, List.set_cons_zero, List.set_cons_succ]
         refine wpAnyH_done (by kernel_rfl) ?_ _
         rotate_left
         refine step_slice5 rfl _ rfl rfl ?_
         refine hK.out _ _ trivial (fun hHeld => ?_)
         clear hK K
         try simp only [Act.put, List.setIfInBounds_toArray, List.set_cons_zero, List.set_cons_succ]
         refine wpAnyH_ready (rs := [1]) (by kernel_rfl) (by simp) ?_
         refine AllReadyH.cons (o := { dst := some 121, op := Op.load 83 (Operand.tmp 120), type := 83, pos := "ref.go:366", after := #[{ on := 0, ground := Ground.data }], guard := none }) rfl (fun K hK => ?_) AllReadyH.nil
         go_simp
         refine hK.out _ _ trivial (fun hHeld => ?_)
         clear hK K
         try simp only [Act.put, List.setIfInBounds_toArray, List.set_cons_zero, List.set_cons_succ]
         refine wpAnyH_ready (rs := [7]) (by kernel_rfl) (by simp) ?_
         refine AllReadyH.cons (o := { dst := some 127, op := Op.call { callee := Callee.builtin Builtin.append, args := #[Operand.tmp 121, Operand.tmp 126], argTypes := #[83, 83] }, type := 83, pos := "ref.go:366", after := #[{ on := 1, ground := Ground.data }, { on := 6, ground := Ground.data }, { on := 5, ground := Ground.chain }], guard := none }) rfl (fun K hK => ?_) AllReadyH.nil
         refine step_append_five (by rfl) _ _ (by rfl) (by rfl) (own_only HW.out.ownL (HVAL4.out.2.2.1.alloc _) (fun b hb e => by have := (own_lt HW.out.ownL b hb).1; have := HW.out.mid.gb; have := HW.out.mid.lt; omega)) (by rfl) (Blk.new w4 _ 85) (by rfl) (by rfl) (Nat.le_trans hnl2 (by decide)) (Nat.le_trans k3s (Nat.le_of_lt (alloc_lt w4 _))) ?_
         intro gg cap w5 hown5 hgr5 hat5
         have hp5 := HW.out.put (fun _ => (by simp)) HVAL4.out hnl2 hnk2 hown5 hgr5 (by simpa using hat5)
         have kb5 := HW.out.blkL HVAL4.out.2.2.1 hgr5
         have k3' := kb5.cell 3 rfl
         have k3f := kb5.frozen 3
         clear kb5
         have HP5 := Lib.hid hp5
         clear hown5 hgr5 hat5 hp5
         refine hK.out _ _ trivial (fun hHeld => ?_)
         clear hK K
         try simp only [Act.put, List.setIfInBounds_toArray, List.set_cons_zero, List.set_cons_succ]
         refine wpAnyH_take (i := 8) (oi := { dst := some 128, op := Op.fieldAddr 85 (Operand.tmp 5) 3, type := 0, pos := "ref.go:366", after := #[{ on := 0, ground := Ground.phase }, { on := 1, ground := Ground.phase }, { on := 2, ground := Ground.phase }, { on := 3, ground := Ground.phase }, { on := 4, ground := Ground.phase }, { on := 5, ground := Ground.phase }, { on := 6, ground := Ground.phase }, { on := 7, ground := Ground.phase }], guard := none }) (v := .pointer (some ⟨t5, 3, none⟩)) rfl (by kernel_rfl) (by kernel_rfl) (by kernel_rfl) (fun _ _ _ h => h) (Or.inl ⟨by rfl, by intro w hSw; go_simp⟩) (by assumption) ?_
         try simp only [Act.put, List.setIfInBounds_toArray, List.set_cons_zero, List.set_cons_succ]
         refine wpAnyH_ready (rs := [9]) (by kernel_rfl) (by simp) ?_
         refine AllReadyH.cons (o := { dst := none, op := Op.store 83 (Operand.tmp 128) (Operand.tmp 127), type := 0, pos := "ref.go:366", after := #[{ on := 8, ground := Ground.data }, { on := 7, ground := Ground.data }, { on := 7, ground := Ground.chain }, { on := 0, ground := Ground.phase }, { on := 1, ground := Ground.phase }, { on := 2, ground := Ground.phase }, { on := 3, ground := Ground.phase }, { on := 4, ground := Ground.phase }, { on := 5, ground := Ground.phase }, { on := 6, ground := Ground.phase }, { on := 7, ground := Ground.phase }], guard := none }) rfl (fun K hK => ?_) AllReadyH.nil
         go_simp
         refine hK.out _ _ trivial (fun hHeld => ?_)
         clear hK K
         try simp only [Act.put, List.setIfInBounds_toArray, List.set_cons_zero, List.set_cons_succ]
         refine wpAnyH_done (by kernel_rfl) ?_ _
         rotate_left
         all_goals
          go_upto_region 41 with (fail)
          refine wp_gen (VPre w g (some ⟨b, o, none⟩) c l t5 5 (((some r1).bind (valB f1 k)).map (·.2)) (L ++ (((some r1).bind (valB f1 k)).map (·.1)).toList) (nl + 1) nk _ ys _ (.slice Ak nk ck)) HP5.out ?_
          intro w6 hp6
          have HP6 := Lib.hid hp6
          clear hp6 HP5 k3 k3' k3f k3s
          go_wp2_with (first | (go_at_call 68; refine (blanks_o HP6.out.mid.rs).mono ?_; rintro e w7 ⟨rfl, hr7, ho7⟩; have HP7 := Lib.hid (HP6.out.call hr7 ho7 VPre.some_map); clear hr7 ho7) | (go_at_call 91; refine (is_any (x := 93) HP7.out.mid.rs).mono ?_; rintro e w8 ⟨bb, rfl, hr8, ho8, hb8⟩; have HP8 := Lib.hid (HP7.out.call hr8 ho8 VPre.some_map); have HB8 := Lib.hid hb8; clear hr8 ho8 hb8; cases bb) | (refine wpList_load_blk rfl 85 (.tmp 5) rfl rfl HP8.out.mid.b5 agg85 info85s ?_) | (refine wpList_store_blk rfl 85 (.tmp 4) _ rfl rfl rfl rfl HP8.out.mid.b4 rfl info85s rfl ?_; intro w9 hb9 ho9; have HB9 := Lib.hid hb9; have HO9 := Lib.hid ho9; clear hb9 ho9) | (go_at_call 89; refine (must_any (by decide) HP8.out.mid.rs).mono ?_; rintro e w9 ⟨rfl, hr9, ho9⟩; have HP9 := Lib.hid (HP8.out.call (s2 := (((((some r1).bind (valB f1 k)).map (·.2)).map skipB).map (isS 93)).bind (mustB [44])) hr9 ho9 VPre.some_of); clear hr9 ho9) | fail)
          all_goals first
           | (have hfin := VRound.ret (T0 := valB (f + 1) (k + 1) r) HVAL.out HRI.out HB8.out HP8.out HB9.out HO9.out
              refine bodyPost_ret (ret_cell rfl rfl HB9.out agg85 info85s) rfl ?_
              exact hfin)
           | (have hnx := VRound.more HRI.out HB8.out HP9.out HGK.out
              go_roundg (remG ((((((some r1).bind (valB f1 k)).map (·.2)).map skipB).map (isS 93)).bind (mustB [44])))
              case rel => exact hnx.1
              case measure => exact hnx.2)
   by_cases h123 : z = 123
   ·as_aux_lemma =>
     subst h123
     obtain rfl : x = 123 := UInt8.toNat_inj.1 HZ.out.symm
     have HA := Lib.hid (fun n n' => ((((HM.out.drewN n).set5 0 (.int .i64 5) rfl).drewN n').set5 0 (.int .i64 6) rfl).step ((((HM.out.drewN n).set5 0 (.int .i64 5) rfl).drewN n').rs5 (((HM.out.drewN n).rs5 (HJ.out.drewN n) 0 (.int .i64 5)).drewN n') 0 (.int .i64 6)) HD.out)
     have HLEN := Lib.hid (len_skip HSK.out)
     cases m with
     | zero =>
      go_quiet (fail)
      go_wp2
      go_quiet (fail)
      go_upto_region 28 with (fail)
      refine wp_gen (VMid w g (some ⟨b, o, none⟩) c l w.heap.size t5 (some t) Z5 [.int .i64 6, .string ⟨#[]⟩, .int .u64 0, .slice none 0 0, .slice none 0 0]) (HA.out _ _) ?_
      intro w3 hm3
      clear h0 h1 h2 h3 h4 c0 c1 c2 c3 c4 f0 f1 f2 f3 f4 hc
      obtain ⟨h2, h4⟩ := hm3.rs.bad
      have HM3 := Lib.hid hm3
      clear hm3
      go_wp2_with (first | (refine wpList_load_blk rfl 85 (.tmp 5) rfl rfl HM3.out.setBad.b5 agg85 info85s ?_) | (refine wpList_store_blk rfl 85 (.tmp 4) _ rfl rfl rfl rfl HM3.out.setBad.b4 rfl info85s rfl ?_; intro w9 hb9 ho9; have HB9 := Lib.hid hb9; have HO9 := Lib.hid ho9; clear hb9 ho9))
      refine bodyPost_ret (ret_cell rfl rfl HB9.out agg85 info85s) rfl ((HM3.out.setBad).done HB9.out HO9.out ⟨6, _, 0, none, 0, 0, none, 0, 0, rfl⟩ ?_ ?_)
      ·rw [val_open0 (by decide) HSK.out]; rfl
      ·intro p hp; rw [val_open0 (by decide) HSK.out] at hp; cases hp
     | succ k =>
      have hk8 : k ≤ 8 := by omega
      have hmz : (((k : Int) + 1) == 0) = false := by simp; omega
      by_cases he : (skipB t).head? = some 125
      ·obtain ⟨t2, ht2⟩ : ∃ t2, skipB t = 125 :: t2 := by
        cases hs : skipB t with
        | nil => rw [hs] at he; cases he
        | cons a q => rw [hs] at he; cases he; exact ⟨q, rfl⟩
       have HT2 := Lib.hid ht2
       clear he ht2
       go_quiet (fail)
       go_wp2
       go_quiet (fail)
       go_upto_region 28 with (fail)
       refine wp_gen (VMid w g (some ⟨b, o, none⟩) c l w.heap.size t5 (some t) Z5 [.int .i64 6, .string ⟨#[]⟩, .int .u64 0, .slice none 0 0, .slice none 0 0]) (HA.out _ _) ?_
       intro w3 hm3
       clear h0 h1 h2 h3 h4 c0 c1 c2 c3 c4 f0 f1 f2 f3 f4 hc
       obtain ⟨h2, h4⟩ := hm3.rs.bad
       have HM3 := Lib.hid hm3
       clear hm3
       go_wp2_with (first | (go_at_call 68; refine (blanks_o HM3.out.rs).mono ?_; rintro e w4 ⟨rfl, hr3, ho3⟩; rw [show (some t).map skipB = some (125 :: t2) from congrArg some HT2.out] at hr3; have HM4 := Lib.hid (HM3.out.call hr3 ho3); clear hr3 ho3) | (go_at_call 91; refine (is_yes_o HM4.out.rs).mono ?_; rintro e w5 ⟨rfl, hr4, ho4⟩; have HM5 := Lib.hid (HM4.out.call hr4 ho4); clear hr4 ho4) | (refine wpList_load_blk rfl 85 (.tmp 5) rfl rfl HM5.out.b5 agg85 info85s ?_) | (refine wpList_store_blk rfl 85 (.tmp 4) _ rfl rfl rfl rfl HM5.out.b4 rfl info85s rfl ?_; intro w9 hb9 ho9; have HB9 := Lib.hid hb9; have HO9 := Lib.hid ho9; clear hb9 ho9))
       refine bodyPost_ret (ret_cell rfl rfl HB9.out agg85 info85s) rfl (HM5.out.done HB9.out HO9.out ⟨6, _, 0, none, 0, 0, none, 0, 0, rfl⟩ ?_ ?_)
       ·rw [val_open123 HSK.out, HT2.out]; rfl
       ·intro p hp
        rw [val_open123 HSK.out, HT2.out] at hp
        cases hp
        exact JIs.plain _ _ 6 [] 0 none none 0 0
      ·have HE2 := Lib.hid he
       have HFE := Lib.hid (show 2 * (skipB t).length + 3 ≤ f by have := HE.out; have := HLEN.out; have := skipB_length t; omega)
       have HVAL := Lib.hid (show (some r).bind (valB (f + 1) (k + 1)) = lstB f k 6 125 [] [] (skipB t) by rw [val_open123 HSK.out, if_neg HE2.out])
       clear he
       go_quiet (fail)
       go_wp2
       go_quiet (fail)
       go_upto_region 28 with (fail)
       refine wp_gen (VMid w g (some ⟨b, o, none⟩) c l w.heap.size t5 (some t) Z5 [.int .i64 6, .string ⟨#[]⟩, .int .u64 0, .slice none 0 0, .slice none 0 0]) (HA.out _ _) ?_
       intro w3 hm3
       clear h0 h1 h2 h3 h4 c0 c1 c2 c3 c4 f0 f1 f2 f3 f4 hc
       obtain ⟨h2, h4⟩ := hm3.rs.bad
       have HM3 := Lib.hid hm3
       clear hm3
       go_wp2_with (first | (go_at_call 68; refine (blanks_o HM3.out.rs).mono ?_; rintro e w4 ⟨rfl, hr3, ho3⟩; have HM4 := Lib.hid (HM3.out.call hr3 ho3); clear hr3 ho3) | (go_at_call 91; refine (is_no_o HM4.out.rs HE2.out).mono ?_; rintro e w5 ⟨rfl, hr4, ho4⟩; have HM5 := Lib.hid (HM4.out.call hr4 ho4); clear hr4 ho4))
       go_loopg [] (remG (some (skipB t))) (fun gk wr => VRound f k 6 125 (lstB f k 6 125 [] [] (skipB t)) w g (some ⟨b, o, none⟩) c l t5 gk wr)
       case atStart => exact VRound.start HM5.out HFE.out
       case round =>
        obtain ⟨s, L, KS, nl, nk, xs, ys, vl, vk, hgk, hv, hgood, hbad⟩ := hrel
        have HGK := Lib.hid hgk
        clear hgk
        obtain ⟨Al, cl, rfl⟩ := own_form hv.ownL
        obtain ⟨Ak, ck, rfl⟩ := own_form hv.ownK
        obtain ⟨h2, h4⟩ := hv.mid.rs.bad
        obtain ⟨⟨c0, c1, c2, c3, c4⟩, y0, y1, y2, y3, y4⟩ := hv.mid.b5.five
        have HV := Lib.hid hv
        have HBAD := Lib.hid hbad
        clear hv hbad
        cases s with
        | none =>
         go_wp2_with (first | (refine wpList_load_blk rfl 85 (.tmp 5) rfl rfl HV.out.mid.b5 agg85 info85s ?_) | (refine wpList_store_blk rfl 85 (.tmp 4) _ rfl rfl rfl rfl HV.out.mid.b4 rfl info85s rfl ?_; intro w9 hb9 ho9; have HB9 := Lib.hid hb9; have HO9 := Lib.hid ho9; clear hb9 ho9))
         refine bodyPost_ret (ret_cell rfl rfl HB9.out agg85 info85s) rfl (HV.out.mid.done HB9.out HO9.out ⟨6, _, 0, _, _, _, _, _, _, rfl⟩ ?_ ?_)
         ·rw [show valB (f + 1) (k + 1) r = _ from HVAL.out, HBAD.out trivial]; rfl
         ·intro p hp; rw [show valB (f + 1) (k + 1) r = _ from HVAL.out, HBAD.out trivial] at hp; cases hp
        | some r1 =>
         obtain ⟨hnl, hnk, hys, ⟨f', hf1, hf2, hf3⟩, hl1, hl2⟩ := hgood r1 rfl
         obtain ⟨f1, rfl⟩ : ∃ k, f' = k + 1 := ⟨f' - 1, by omega⟩
         have hwk : IntKind.i64.wrap (k : Int) = k := IntWalk.i64_in _ (by omega)
         have hnl2 : nl ≤ 1100000 := by omega
         have hnk2 : nk ≤ 1100000 := by omega
         have hff : f1 < f + 1 := by omega
         have hlt5 : t5 + 1 ≤ wr.heap.size := HV.out.mid.b5.lt
         clear hgood
         have HLST := Lib.hid (show LstIs f f1 k 6 125 (lstB f k 6 125 [] [] (skipB t)) L KS r1 nl nk from ⟨hf1, hnl, hnk, ⟨hl1, hl2⟩, ⟨hf2, hf3⟩⟩)
         have HYS := Lib.hid hys
         have HFU := Lib.hid (show 2 * r1.length + 3 ≤ f1 + 1 from hf2)
         have hnk3 : nk + 1 ≤ 1100000 := by omega
         clear hnl hnk hys hf1 hf2 hf3 hl1 hl2
         go_upto_region 37 with (first | (go_at_call 68; refine (blanks_o HV.out.mid.rs).mono ?_; rintro e w4 ⟨rfl, hr4, ho4⟩; have HV4 := Lib.hid (HV.out.call hr4 ho4 VPre.some_map); clear hr4 ho4) | fail)
         clear c0 c1 c2 c3 c4 y0 y1 y2 y3 y4 h2 h4
         refine wp_gen (VPre w g (some ⟨b, o, none⟩) c l t5 6 (some (skipB r1)) L nl nk xs ys (.slice Al nl cl) (.slice Ak nk ck)) HV4.out ?_
         intro w5 hp5
         obtain ⟨⟨c0, c1, c2, c3, c4⟩, y0, y1, y2, y3, y4⟩ := hp5.mid.b5.five
         have HW5 := Lib.hid hp5.drew
         clear hp5
         refine wp_region_held_drew (S := fun _ => True) (by kernel_rfl) trivial (fun hHeld => ?_)
         refine wpAnyH_take (i := 0) (oi := { dst := some 109, op := Op.fieldAddr 85 (Operand.tmp 5) 4, type := 0, pos := "ref.go:362", after := #[], guard := none }) (v := .pointer (some ⟨t5, 4, none⟩)) rfl (by kernel_rfl) (by kernel_rfl) (by kernel_rfl) (fun _ _ _ h => h) (Or.inl ⟨by rfl, by intro w hSw; go_simp⟩) (by assumption) ?_
         try simp only [Act.put, List.setIfInBounds_toArray, List.set_cons_zero, List.set_cons_succ]
         refine wpAnyH_take (i := 2) (oi := { dst := some 111, op := Op.move (Operand.tmp 0), type := 138, pos := "ref.go:362", after := #[], guard := none }) (v := .pointer (some ⟨g, 0, none⟩)) rfl (by kernel_rfl) (by kernel_rfl) (by kernel_rfl) (fun _ _ _ h => h) (Or.inl ⟨by rfl, by intro w hSw; go_simp⟩) (by assumption) ?_
         try simp only [Act.put, List.setIfInBounds_toArray, List.set_cons_zero, List.set_cons_succ]
         refine wpAnyH_ready (rs := [1, 3]) (by kernel_rfl) (by simp) ?_
         refine AllReadyH.cons (o := { dst := some 110, op := Op.load 77 (Operand.tmp 109), type := 77, pos := "ref.go:362", after := #[{ on := 0, ground := Ground.data }], guard := none }) rfl (fun K hK => ?_) (AllReadyH.cons (o := { dst := some 112, op := Op.call { callee := Callee.value (Operand.func 90), args := #[Operand.tmp 111], argTypes := #[138] }, type := 9, pos := "ref.go:362", after := #[{ on := 2, ground := Ground.data }], guard := none }) rfl (fun K hK => ?_) AllReadyH.nil)
         go_simp
         refine hK.out _ _ trivial (fun hHeld => ?_)
         clear hK K
         try simp only [Act.put, List.setIfInBounds_toArray, List.set_cons_zero, List.set_cons_succ]
         refine wpAnyH_ready (rs := [3]) (by kernel_rfl) (by simp) ?_
         refine AllReadyH.cons (o := { dst := some 112, op := Op.call { callee := Callee.value (Operand.func 90), args := #[Operand.tmp 111], argTypes := #[138] }, type := 9, pos := "ref.go:362", after := #[{ on := 2, ground := Ground.data }], guard := none }) rfl (fun K hK => ?_) AllReadyH.nil
         go_simp
         go_at_call 90
         refine (str_at HW5.out.mid.rs).mono ?_
         rintro e w6 ⟨ho6, tt, rfl, hr6, ht6⟩
         have k4 : w6.cell? ⟨t5, 4, none⟩ = some (.slice Ak nk ck) := (HW5.out.mid.call hr6 ho6).b5.cell 4 rfl
         have k4s : t5 < w6.heap.size := cell_lt k4
         have HR6 := Lib.hid hr6
         have HO6 := Lib.hid ho6
         have HT6 := Lib.hid ht6
         clear hr6 ho6 ht6
         refine hK.out _ _ trivial (fun hHeld => ?_)
         clear hK K
         try simp only [Act.put, List.setIfInBounds_toArray, List.set_cons_zero, List.set_cons_succ]
         refine wpAnyH_ready (rs := [4]) (by kernel_rfl) (by simp) ?_
         refine AllReadyH.cons (o := { dst := some 113, op := Op.buildSlice 77 1 #[(0, Operand.tmp 112)], type := 77, pos := "ref.go:362", after := #[{ on := 3, ground := Ground.data }], guard := none }) rfl (fun K hK => ?_) AllReadyH.nil
         refine step_slice9 rfl _ rfl rfl ?_
         refine hK.out _ _ trivial (fun hHeld => ?_)
         clear hK K
         try simp only [Act.put, List.setIfInBounds_toArray, List.set_cons_zero, List.set_cons_succ]
         refine wpAnyH_ready (rs := [5]) (by kernel_rfl) (by simp) ?_
         refine AllReadyH.cons (o := { dst := some 114, op := Op.call { callee := Callee.builtin Builtin.append, args := #[Operand.tmp 110, Operand.tmp 113], argTypes := #[77, 77] }, type := 77, pos := "ref.go:362", after := #[{ on := 1, ground := Ground.data }, { on := 4, ground := Ground.data }, { on := 3, ground := Ground.chain }], guard := none }) rfl (fun K hK => ?_) AllReadyH.nil
         refine step_append_name (by rfl) _ _ (by rfl) (by rfl) (own_only HW5.out.ownK (HO6.out.alloc _) (fun b hb e => by have := (own_lt HW5.out.ownK b hb).1; have := HW5.out.mid.gb; have := HW5.out.mid.lt; omega)) (by rfl) (Blk.new w6 _ 9) (Nat.le_trans hnk2 (by decide)) (Nat.le_trans k4s (Nat.le_of_lt (alloc_lt w6 _))) ?_
         intro gk2 capk w7 hown7 hgr7 hat7
         have hp7 := HW5.out.key VPre.some_strs HR6.out HO6.out hnl2 hnk2 hown7 hgr7 (by simpa using hat7)
         have kb7 := HW5.out.blkK HO6.out hgr7
         have k4' := kb7.cell 4 rfl
         have k4f := kb7.frozen 4
         clear kb7
         have HP7 := Lib.hid hp7
         clear hown7 hgr7 hat7 hp7
         refine hK.out _ _ trivial (fun hHeld => ?_)
         clear hK K
         try simp only [Act.put, List.setIfInBounds_toArray, List.set_cons_zero, List.set_cons_succ]
         refine wpAnyH_take (i := 6) (oi := { dst := some 115, op := Op.fieldAddr 85 (Operand.tmp 5) 4, type := 0, pos := "ref.go:362", after := #[{ on := 0, ground := Ground.phase }, { on := 1, ground := Ground.phase }, { on := 2, ground := Ground.phase }, { on := 3, ground := Ground.phase }, { on := 4, ground := Ground.phase }, { on := 5, ground := Ground.phase }], guard := none }) (v := .pointer (some ⟨t5, 4, none⟩)) rfl (by kernel_rfl) (by kernel_rfl) (by kernel_rfl) (fun _ _ _ h => h) (Or.inl ⟨by rfl, by intro w hSw; go_simp⟩) (by assumption) ?_
         try simp only [Act.put, List.setIfInBounds_toArray, List.set_cons_zero, List.set_cons_succ]
         refine wpAnyH_ready (rs := [7]) (by kernel_rfl) (by simp) ?_
         refine AllReadyH.cons (o := { dst := none, op := Op.store 77 (Operand.tmp 115) (Operand.tmp 114), type := 0, pos := "ref.go:362", after := #[{ on := 6, ground := Ground.data }, { on := 5, ground := Ground.data }, { on := 5, ground := Ground.chain }, { on := 0, ground := Ground.phase }, { on := 1, ground := Ground.phase }, { on := 2, ground := Ground.phase }, { on := 3, ground := Ground.phase }, { on := 4, ground := Ground.phase }, { on := 5, ground := Ground.phase }], guard := none }) rfl (fun K hK => ?_) AllReadyH.nil
         go_simp
         refine hK.out _ _ trivial (fun hHeld => ?_)
         clear hK K
         try simp only [Act.put, List.setIfInBounds_toArray, List.set_cons_zero, List.set_cons_succ]
         refine wpAnyH_done (by kernel_rfl) ?_ _
         rotate_left
         go_simp
         go_at_call 90
         refine (str_at HW5.out.mid.rs).mono ?_
         rintro e w6 ⟨ho6, tt, rfl, hr6, ht6⟩
         have k4 : w6.cell? ⟨t5, 4, none⟩ = some (.slice Ak nk ck) := (HW5.out.mid.call hr6 ho6).b5.cell 4 rfl
         have k4s : t5 < w6.heap.size := cell_lt k4
         have HR6 := Lib.hid hr6
         have HO6 := Lib.hid ho6
         have HT6 := Lib.hid ht6
         clear hr6 ho6 ht6
         refine hK.out _ _ trivial (fun hHeld => ?_)
         clear hK K
         try simp only [Act.put, List.setIfInBounds_toArray, List.set_cons_zero, List.set_cons_succ]
         refine wpAnyH_ready (rs := [1, 4]) (by kernel_rfl) (by simp) ?_
         refine AllReadyH.cons (o := { dst := some 110, op := Op.load 77 (Operand.tmp 109), type := 77, pos := "ref.go:362", after := #[{ on := 0, ground := Ground.data }], guard := none }) rfl (fun K hK => ?_) (AllReadyH.cons (o := { dst := some 113, op := Op.buildSlice 77 1 #[(0, Operand.tmp 112)], type := 77, pos := "ref.go:362", after := #[{ on := 3, ground := Ground.data }], guard := none }) rfl (fun K hK => ?_) AllReadyH.nil)
         go_simp
         refine hK.out _ _ trivial (fun hHeld => ?_)
         clear hK K
         try simp only [Act.put, List.setIfInBounds_toArray, List.set_cons_zero, List.set_cons_succ]
         refine wpAnyH_ready (rs := [4]) (by kernel_rfl) (by simp) ?_
         refine AllReadyH.cons (o := { dst := some 113, op := Op.buildSlice 77 1 #[(0, Operand.tmp 112)], type := 77, pos := "ref.go:362", after := #[{ on := 3, ground := Ground.data }], guard := none }) rfl (fun K hK => ?_) AllReadyH.nil
         refine step_slice9 rfl _ rfl rfl ?_
         refine hK.out _ _ trivial (fun hHeld => ?_)
         clear hK K
         try simp only [Act.put, List.setIfInBounds_toArray, List.set_cons_zero, List.set_cons_succ]
         refine wpAnyH_ready (rs := [5]) (by kernel_rfl) (by simp) ?_
         refine AllReadyH.cons (o := { dst := some 114, op := Op.call { callee := Callee.builtin Builtin.append, args := #[Operand.tmp 110, Operand.tmp 113], argTypes := #[77, 77] }, type := 77, pos := "ref.go:362", after := #[{ on := 1, ground := Ground.data }, { on := 4, ground := Ground.data }, { on := 3, ground := Ground.chain }], guard := none }) rfl (fun K hK => ?_) AllReadyH.nil
         refine step_append_name (by rfl) _ _ (by rfl) (by rfl) (own_only HW5.out.ownK (HO6.out.alloc _) (fun b hb e => by have := (own_lt HW5.out.ownK b hb).1; have := HW5.out.mid.gb; have := HW5.out.mid.lt; omega)) (by rfl) (Blk.new w6 _ 9) (Nat.le_trans hnk2 (by decide)) (Nat.le_trans k4s (Nat.le_of_lt (alloc_lt w6 _))) ?_
         intro gk2 capk w7 hown7 hgr7 hat7
         have hp7 := HW5.out.key VPre.some_strs HR6.out HO6.out hnl2 hnk2 hown7 hgr7 (by simpa using hat7)
         have kb7 := HW5.out.blkK HO6.out hgr7
         have k4' := kb7.cell 4 rfl
         have k4f := kb7.frozen 4
         clear kb7
         have HP7 := Lib.hid hp7
         clear hown7 hgr7 hat7 hp7
         refine hK.out _ _ trivial (fun hHeld => ?_)
         clear hK K
         try simp only [Act.put, List.setIfInBounds_toArray, List.set_cons_zero, List.set_cons_succ]
         refine wpAnyH_take (i := 6) (oi := { dst := some 115, op := Op.fieldAddr 85 (Operand.tmp 5) 4, type := 0, pos := "ref.go:362", after := #[{ on := 0, ground := Ground.phase }, { on := 1, ground := Ground.phase }, { on := 2, ground := Ground.phase }, { on := 3, ground := Ground.phase }, { on := 4, ground := Ground.phase }, { on := 5, ground := Ground.phase }], guard := none }) (v := .pointer (some ⟨t5, 4, none⟩)) rfl (by kernel_rfl) (by kernel_rfl) (by kernel_rfl) (fun _ _ _ h => h) (Or.inl ⟨by rfl, by intro w hSw; go_simp⟩) (by assumption) ?_
         try simp only [Act.put, List.setIfInBounds_toArray, List.set_cons_zero, List.set_cons_succ]
         refine wpAnyH_ready (rs := [7]) (by kernel_rfl) (by simp) ?_
         refine AllReadyH.cons (o := { dst := none, op := Op.store 77 (Operand.tmp 115) (Operand.tmp 114), type := 0, pos := "ref.go:362", after := #[{ on := 6, ground := Ground.data }, { on := 5, ground := Ground.data }, { on := 5, ground := Ground.chain }, { on := 0, ground := Ground.phase }, { on := 1, ground := Ground.phase }, { on := 2, ground := Ground.phase }, { on := 3, ground := Ground.phase }, { on := 4, ground := Ground.phase }, { on := 5, ground := Ground.phase }], guard := none }) rfl (fun K hK => ?_) AllReadyH.nil
         go_simp
         refine hK.out _ _ trivial (fun hHeld => ?_)
         clear hK K
         try simp only [Act.put, List.setIfInBounds_toArray, List.set_cons_zero, List.set_cons_succ]
         refine wpAnyH_done (by kernel_rfl) ?_ _
         rotate_left
         refine step_slice9 rfl _ rfl rfl ?_
         refine hK.out _ _ trivial (fun hHeld => ?_)
         clear hK K
         try simp only [Act.put, List.setIfInBounds_toArray, List.set_cons_zero, List.set_cons_succ]
         refine wpAnyH_ready (rs := [1]) (by kernel_rfl) (by simp) ?_
         refine AllReadyH.cons (o := { dst := some 110, op := Op.load 77 (Operand.tmp 109), type := 77, pos := "ref.go:362", after := #[{ on := 0, ground := Ground.data }], guard := none }) rfl (fun K hK => ?_) AllReadyH.nil
         go_simp
         refine hK.out _ _ trivial (fun hHeld => ?_)
         clear hK K
         try simp only [Act.put, List.setIfInBounds_toArray, List.set_cons_zero, List.set_cons_succ]
         refine wpAnyH_ready (rs := [5]) (by kernel_rfl) (by simp) ?_
         refine AllReadyH.cons (o := { dst := some 114, op := Op.call { callee := Callee.builtin Builtin.append, args := #[Operand.tmp 110, Operand.tmp 113], argTypes := #[77, 77] }, type := 77, pos := "ref.go:362", after := #[{ on := 1, ground := Ground.data }, { on := 4, ground := Ground.data }, { on := 3, ground := Ground.chain }], guard := none }) rfl (fun K hK => ?_) AllReadyH.nil
         refine step_append_name (by rfl) _ _ (by rfl) (by rfl) (own_only HW5.out.ownK (HO6.out.alloc _) (fun b hb e => by have := (own_lt HW5.out.ownK b hb).1; have := HW5.out.mid.gb; have := HW5.out.mid.lt; omega)) (by rfl) (Blk.new w6 _ 9) (Nat.le_trans hnk2 (by decide)) (Nat.le_trans k4s (Nat.le_of_lt (alloc_lt w6 _))) ?_
         intro gk2 capk w7 hown7 hgr7 hat7
         have hp7 := HW5.out.key VPre.some_strs HR6.out HO6.out hnl2 hnk2 hown7 hgr7 (by simpa using hat7)
         have kb7 := HW5.out.blkK HO6.out hgr7
         have k4' := kb7.cell 4 rfl
         have k4f := kb7.frozen 4
         clear kb7
         have HP7 := Lib.hid hp7
         clear hown7 hgr7 hat7 hp7
         refine hK.out _ _ trivial (fun hHeld => ?_)
         clear hK K
         try simp only [Act.put, List.setIfInBounds_toArray, List.set_cons_zero, List.set_cons_succ]
         refine wpAnyH_take (i := 6) (oi := { dst := some 115, op := Op.fieldAddr 85 (Operand.tmp 5) 4, type := 0, pos := "ref.go:362", after := #[{ on := 0, ground := Ground.phase }, { on := 1, ground := Ground.phase }, { on := 2, ground := Ground.phase }, { on := 3, ground := Ground.phase }, { on := 4, ground := Ground.phase }, { on := 5, ground := Ground.phase }], guard := none }) (v := .pointer (some ⟨t5, 4, none⟩)) rfl (by kernel_rfl) (by kernel_rfl) (by kernel_rfl) (fun _ _ _ h => h) (Or.inl ⟨by rfl, by intro w hSw; go_simp⟩) (by assumption) ?_
         try simp only [Act.put, List.setIfInBounds_toArray, List.set_cons_zero, List.set_cons_succ]
         refine wpAnyH_ready (rs := [7]) (by kernel_rfl) (by simp) ?_
         refine AllReadyH.cons (o := { dst := none, op := Op.store 77 (Operand.tmp 115) (Operand.tmp 114), type := 0, pos := "ref.go:362", after := #[{ on := 6, ground := Ground.data }, { on := 5, ground := Ground.data }, { on := 5, ground := Ground.chain }, { on := 0, ground := Ground.phase }, { on := 1, ground := Ground.phase }, { on := 2, ground := Ground.phase }, { on := 3, ground := Ground.phase }, { on := 4, ground := Ground.phase }, { on := 5, ground := Ground.phase }], guard := none }) rfl (fun K hK => ?_) AllReadyH.nil
         go_simp
         refine hK.out _ _ trivial (fun hHeld => ?_)
         clear hK K
         try simp only [Act.put, List.setIfInBounds_toArray, List.set_cons_zero, List.set_cons_succ]
         refine wpAnyH_done (by kernel_rfl) ?_ _
         rotate_left
         all_goals
          go_upto_region 38 with (fail)
          clear c0 c1 c2 c3 c4 y0 y1 y2 y3 y4 k4 k4' k4f k4s
          refine wp_gen (VPre w g (some ⟨b, o, none⟩) c l t5 6 (((some (skipB r1)).bind strOf).map (·.2)) L nl (nk + 1) xs (ys ++ [.string tt]) (.slice Al nl cl) (.slice (some ⟨gk2, 0, none⟩) (nk + 1) capk)) HP7.out ?_
          intro w8 hp8
          have HP8 := Lib.hid hp8
          clear hp8 HP7
          go_upto_region 40 with (first | (go_at_call 68; refine (blanks_o HP8.out.mid.rs).mono ?_; rintro e w9 ⟨rfl, hr9, ho9⟩; have HP9 := Lib.hid (HP8.out.call hr9 ho9 VPre.some_map); clear hr9 ho9) | (go_at_call 89; refine (must_any (by decide) HP9.out.mid.rs).mono ?_; rintro e wa ⟨rfl, hra, hoa⟩; have HPA := Lib.hid (HP9.out.call (s2 := ((((some (skipB r1)).bind strOf).map (·.2)).map skipB).bind (mustB [58])) hra hoa VPre.some_of); clear hra hoa) | fail)
          have HRI := Lib.hid (RoundIs.obj (f1 := f1) (k := k) HLST.out HT6.out HYS.out)
          have HEN := Lib.hid (show Enough f1 2 ((keyB r1).map (·.2)) from enough_key HFU.out)
          refine wp_gen (VPre w g (some ⟨b, o, none⟩) c l t5 6 ((keyB r1).map (·.2)) L nl (nk + 1) xs (ys ++ [.string tt]) (.slice Al nl cl) (.slice (some ⟨gk2, 0, none⟩) (nk + 1) capk)) (by rw [← key_state]; exact HPA.out) ?_
          intro wb hpb
          obtain ⟨⟨c0, c1, c2, c3, c4⟩, y0, y1, y2, y3, y4⟩ := hpb.mid.b5.five
          have HW := Lib.hid hpb.drew
          clear hpb HPA HP9 HP8 HR6 HO6
          refine wp_region_held_drew (S := fun _ => True) (by kernel_rfl) trivial (fun hHeld => ?_)
          refine wpAnyH_take (i := 0) (oi := { dst := some 120, op := Op.fieldAddr 85 (Operand.tmp 5) 3, type := 0, pos := "ref.go:366", after := #[], guard := none }) (v := .pointer (some ⟨t5, 3, none⟩)) rfl (by kernel_rfl) (by kernel_rfl) (by kernel_rfl) (fun _ _ _ h => h) (Or.inl ⟨by rfl, by intro w hSw; go_simp⟩) (by assumption) ?_
          try simp only [Act.put, List.setIfInBounds_toArray, List.set_cons_zero, List.set_cons_succ]
          refine wpAnyH_take (i := 2) (oi := { dst := some 122, op := Op.move (Operand.tmp 0), type := 138, pos := "ref.go:366", after := #[], guard := none }) (v := .pointer (some ⟨g, 0, none⟩)) rfl (by kernel_rfl) (by kernel_rfl) (by kernel_rfl) (fun _ _ _ h => h) (Or.inl ⟨by rfl, by intro w hSw; go_simp⟩) (by assumption) ?_
          try simp only [Act.put, List.setIfInBounds_toArray, List.set_cons_zero, List.set_cons_succ]
          refine wpAnyH_take (i := 3) (oi := { dst := some 123, op := Op.move (Operand.tmp 1), type := 3, pos := "ref.go:366", after := #[], guard := none }) (v := .int .i64 ((k : Int) + 1)) rfl (by kernel_rfl) (by kernel_rfl) (by kernel_rfl) (fun _ _ _ h => h) (Or.inl ⟨by rfl, by intro w hSw; go_simp⟩) (by assumption) ?_
          try simp only [Act.put, List.setIfInBounds_toArray, List.set_cons_zero, List.set_cons_succ]
          refine wpAnyH_take (i := 4) (oi := { dst := some 124, op := Op.binOp BinOp.sub 3 (Operand.tmp 123) (Operand.const (Value.int IntKind.i64 1)) 3, type := 3, pos := "ref.go:366", after := #[{ on := 3, ground := Ground.data }], guard := none }) (v := .int .i64 (k : Int)) rfl (by kernel_rfl) (by kernel_rfl) (by kernel_rfl) (fun _ _ _ h => h) (Or.inl ⟨by rfl, by intro w hSw; go_simp⟩) (by assumption) ?_
          try simp only [Act.put, List.setIfInBounds_toArray, List.set_cons_zero, List.set_cons_succ]
          refine wpAnyH_ready (rs := [1, 5]) (by kernel_rfl) (by simp) ?_
          refine AllReadyH.cons (o := { dst := some 121, op := Op.load 83 (Operand.tmp 120), type := 83, pos := "ref.go:366", after := #[{ on := 0, ground := Ground.data }], guard := none }) rfl (fun K hK => ?_) (AllReadyH.cons (o := { dst := some 125, op := Op.call { callee := Callee.value (Operand.func 67), args := #[Operand.tmp 122, Operand.tmp 124], argTypes := #[138, 3] }, type := 85, pos := "ref.go:366", after := #[{ on := 2, ground := Ground.data }, { on := 4, ground := Ground.data }], guard := none }) rfl (fun K hK => ?_) AllReadyH.nil)
          go_simp
          refine hK.out _ _ trivial (fun hHeld => ?_)
          clear hK K
          try simp only [Act.put, List.setIfInBounds_toArray, List.set_cons_zero, List.set_cons_succ]
          refine wpAnyH_ready (rs := [5]) (by kernel_rfl) (by simp) ?_
          refine AllReadyH.cons (o := { dst := some 125, op := Op.call { callee := Callee.value (Operand.func 67), args := #[Operand.tmp 122, Operand.tmp 124], argTypes := #[138, 3] }, type := 85, pos := "ref.go:366", after := #[{ on := 2, ground := Ground.data }, { on := 4, ground := Ground.data }], guard := none }) rfl (fun K hK => ?_) AllReadyH.nil
          go_simp
          go_at_call 67
          refine ((HIH.out f1 hff) g (some ⟨b, o, none⟩) c l ((keyB r1).map (·.2)) _ k hk8 HW.out.mid.rs HEN.out).mono ?_
          rintro e w4 ⟨cs, rfl, hval⟩
          obtain ⟨k', t', n', A', a', c', B', b', d', rfl⟩ := hval.1
          have k3 : w4.cell? ⟨t5, 3, none⟩ = some (.slice Al nl cl) := (HW.out.mid.call hval.2.1 hval.2.2.1).b5.cell 3 rfl
          have k3s : t5 < w4.heap.size := cell_lt k3
          have HVAL4 := Lib.hid hval
          clear hval
          refine hK.out _ _ trivial (fun hHeld => ?_)
          clear hK K
          try simp only [Act.put, List.setIfInBounds_toArray, List.set_cons_zero, List.set_cons_succ]
          refine wpAnyH_ready (rs := [6]) (by kernel_rfl) (by simp) ?_
          refine AllReadyH.cons (o := { dst := some 126, op := Op.buildSlice 83 1 #[(0, Operand.tmp 125)], type := 83, pos := "ref.go:366", after := #[{ on := 5, ground := Ground.data }], guard := none }) rfl (fun K hK => ?_) AllReadyH.nil
          refine step_slice5 rfl _ rfl rfl ?_
          refine hK.out _ _ trivial (fun hHeld => ?_)
          clear hK K
          try simp only [Act.put, List.setIfInBounds_toArray, List.set_cons_zero, List.set_cons_succ]
          refine wpAnyH_ready (rs := [7]) (by kernel_rfl) (by simp) ?_
          refine AllReadyH.cons (o := { dst := some 127, op := Op.call { callee := Callee.builtin Builtin.append, args := #[Operand.tmp 121, Operand.tmp 126], argTypes := #[83, 83] }, type := 83, pos := "ref.go:366", after := #[{ on := 1, ground := Ground.data }, { on := 6, ground := Ground.data }, { on := 5, ground := Ground.chain }], guard := none }) rfl (fun K hK => ?_) AllReadyH.nil
          refine step_append_five (by rfl) _ _ (by rfl) (by rfl) (own_only HW.out.ownL (HVAL4.out.2.2.1.alloc _) (fun b hb e => by have := (own_lt HW.out.ownL b hb).1; have := HW.out.mid.gb; have := HW.out.mid.lt; omega)) (by rfl) (Blk.new w4 _ 85) (by rfl) (by rfl) (Nat.le_trans hnl2 (by decide)) (Nat.le_trans k3s (Nat.le_of_lt (alloc_lt w4 _))) ?_
          intro gg cap w5 hown5 hgr5 hat5
          have hp5 := HW.out.put (fun h e => h (by rw [e]; rfl)) HVAL4.out hnl2 hnk3 hown5 hgr5 (by simpa using hat5)
          have kb5 := HW.out.blkL HVAL4.out.2.2.1 hgr5
          have k3' := kb5.cell 3 rfl
          have k3f := kb5.frozen 3
          clear kb5
          have HP5 := Lib.hid hp5
          clear hown5 hgr5 hat5 hp5
          refine hK.out _ _ trivial (fun hHeld => ?_)
          clear hK K
          try simp only [Act.put, List.setIfInBounds_toArray, List.set_cons_zero, List.set_cons_succ]
          refine wpAnyH_take (i := 8) (oi := { dst := some 128, op := Op.fieldAddr 85 (Operand.tmp 5) 3, type := 0, pos := "ref.go:366", after := #[{ on := 0, ground := Ground.phase }, { on := 1, ground := Ground.phase }, { on := 2, ground := Ground.phase }, { on := 3, ground := Ground.phase }, { on := 4, ground := Ground.phase }, { on := 5, ground := Ground.phase }, { on := 6, ground := Ground.phase }, { on := 7, ground := Ground.phase }], guard := none }) (v := .pointer (some ⟨t5, 3, none⟩)) rfl (by kernel_rfl) (by kernel_rfl) (by kernel_rfl) (fun _ _ _ h => h) (Or.inl ⟨by rfl, by intro w hSw; go_simp⟩) (by assumption) ?_
          try simp only [Act.put, List.setIfInBounds_toArray, List.set_cons_zero, List.set_cons_succ]
          refine wpAnyH_ready (rs := [9]) (by kernel_rfl) (by simp) ?_
          refine AllReadyH.cons (o := { dst := none, op := Op.store 83 (Operand.tmp 128) (Operand.tmp 127), type := 0, pos := "ref.go:366", after := #[{ on := 8, ground := Ground.data }, { on := 7, ground := Ground.data }, { on := 7, ground := Ground.chain }, { on := 0, ground := Ground.phase }, { on := 1, ground := Ground.phase }, { on := 2, ground := Ground.phase }, { on := 3, ground := Ground.phase }, { on := 4, ground := Ground.phase }, { on := 5, ground := Ground.phase }, { on := 6, ground := Ground.phase }, { on := 7, ground := Ground.phase }], guard := none }) rfl (fun K hK => ?_) AllReadyH.nil
          go_simp
          refine hK.out _ _ trivial (fun hHeld => ?_)
          clear hK K
          try simp only [Act.put, List.setIfInBounds_toArray, List.set_cons_zero, List.set_cons_succ]
          refine wpAnyH_done (by kernel_rfl) ?_ _
          rotate_left
          go_simp
          go_at_call 67
          refine ((HIH.out f1 hff) g (some ⟨b, o, none⟩) c l ((keyB r1).map (·.2)) _ k hk8 HW.out.mid.rs HEN.out).mono ?_
          rintro e w4 ⟨cs, rfl, hval⟩
          obtain ⟨k', t', n', A', a', c', B', b', d', rfl⟩ := hval.1
          have k3 : w4.cell? ⟨t5, 3, none⟩ = some (.slice Al nl cl) := (HW.out.mid.call hval.2.1 hval.2.2.1).b5.cell 3 rfl
          have k3s : t5 < w4.heap.size := cell_lt k3
          have HVAL4 := Lib.hid hval
          clear hval
          refine hK.out _ _ trivial (fun hHeld => ?_)
          clear hK K
          try simp only [Act.put, List.setIfInBounds_toArray, List.set_cons_zero, List.set_cons_succ]
          refine wpAnyH_ready (rs := [1, 6]) (by kernel_rfl) (by simp) ?_
          refine AllReadyH.cons (o := { dst := some 121, op := Op.load 83 (Operand.tmp 120), type := 83, pos := "ref.go:366", after := #[{ on := 0, ground := Ground.data }], guard := none }) rfl (fun K hK => ?_) (AllReadyH.cons (o := { dst := some 126, op := Op.buildSlice 83 1 #[(0, Operand.tmp 125)], type := 83, pos := "ref.go:366", after := #[{ on := 5, ground := Ground.data }], guard := none }) rfl (fun K hK => ?_) AllReadyH.nil)
          go_simp
          refine hK.out _ _ trivial (fun hHeld => ?_)
          clear hK K
          try simp only [Act.put, List.setIfInBounds_toArray, List.set_cons_zero, List.set_cons_succ]
          refine wpAnyH_ready (rs := [6]) (by kernel_rfl) (by simp) ?_
          refine AllReadyH.cons (o := { dst := some 126, op := Op.buildSlice 83 1 #[(0, Operand.tmp 125)], type := 83, pos := "ref.go:366", after := #[{ on := 5, ground := Ground.data }], guard := none }) rfl (fun K hK => ?_) AllReadyH.nil
          refine step_slice5 rfl _ rfl rfl ?_
          refine hK.out _ _ trivial (fun hHeld => ?_)
          clear hK K
          try simp only [Act.put, List.setIfInBounds_toArray, List.set_cons_zero, List.set_cons_succ]
          refine wpAnyH_ready (rs := [7]) (by kernel_rfl) (by simp) ?_
          refine AllReadyH.cons (o := { dst := some 127, op := Op.call { callee := Callee.builtin Builtin.append, args := #[Operand.tmp 121, Operand.tmp 126], argTypes := #[83, 83] }, type := 83, pos := "ref.go:366", after := #[{ on := 1, ground := Ground.data }, { on := 6, ground := Ground.data }, { on := 5, ground := Ground.chain }], guard := none }) rfl (fun K hK => ?_) AllReadyH.nil
          refine step_append_five (by rfl) _ _ (by rfl) (by rfl) (own_only HW.out.ownL (HVAL4.out.2.2.1.alloc _) (fun b hb e => by have := (own_lt HW.out.ownL b hb).1; have := HW.out.mid.gb; have := HW.out.mid.lt; omega)) (by rfl) (Blk.new w4 _ 85) (by rfl) (by rfl) (Nat.le_trans hnl2 (by decide)) (Nat.le_trans k3s (Nat.le_of_lt (alloc_lt w4 _))) ?_
          intro gg cap w5 hown5 hgr5 hat5
          have hp5 := HW.out.put (fun h e => h (by rw [e]; rfl)) HVAL4.out hnl2 hnk3 hown5 hgr5 (by simpa using hat5)
          have kb5 := HW.out.blkL HVAL4.out.2.2.1 hgr5
          have k3' := kb5.cell 3 rfl
          have k3f := kb5.frozen 3
          clear kb5
          have HP5 := Lib.hid hp5
          clear hown5 hgr5 hat5 hp5
          refine hK.out _ _ trivial (fun hHeld => ?_)
          clear hK K
          try simp only [Act.put, List.setIfInBounds_toArray, List.set_cons_zero, List.set_cons_succ]
          refine wpAnyH_take (i := 8) (oi := { dst := some 128, op := Op.fieldAddr 85 (Operand.tmp 5) 3, type := 0, pos := "ref.go:366", after := #[{ on := 0, ground := Ground.phase }, { on := 1, ground := Ground.phase }, { on := 2, ground := Ground.phase }, { on := 3, ground := Ground.phase }, { on := 4, ground := Ground.phase }, { on := 5, ground := Ground.phase }, { on := 6, ground := Ground.phase }, { on := 7, ground := Ground.phase }], guard := none }) (v := .pointer (some ⟨t5, 3, none⟩)) rfl (by kernel_rfl) (by kernel_rfl) (by kernel_rfl) (fun _ _ _ h => h) (Or.inl ⟨by rfl, by intro w hSw; go_simp⟩) (by assumption) ?_
          try simp only [Act.put, List.setIfInBounds_toArray, List.set_cons_zero, List.set_cons_succ]
          refine wpAnyH_ready (rs := [9]) (by kernel_rfl) (by simp) ?_
          refine AllReadyH.cons (o := { dst := none, op := Op.store 83 (Operand.tmp 128) (Operand.tmp 127), type := 0, pos := "ref.go:366", after := #[{ on := 8, ground := Ground.data }, { on := 7, ground := Ground.data }, { on := 7, ground := Ground.chain }, { on := 0, ground := Ground.phase }, { on := 1, ground := Ground.phase }, { on := 2, ground := Ground.phase }, { on := 3, ground := Ground.phase }, { on := 4, ground := Ground.phase }, { on := 5, ground := Ground.phase }, { on := 6, ground := Ground.phase }, { on := 7, ground := Ground.phase }], guard := none }) rfl (fun K hK => ?_) AllReadyH.nil
          go_simp
          refine hK.out _ _ trivial (fun hHeld => ?_)
          clear hK K
          try simp only [Act.put, List.setIfInBounds_toArray, List.set_cons_zero, List.set_cons_succ]
          refine wpAnyH_done (by kernel_rfl) ?_ _
          rotate_left
          refine step_slice5 rfl _ rfl rfl ?_
          refine hK.out _ _ trivial (fun hHeld => ?_)
          clear hK K
          try simp only [Act.put, List.setIfInBounds_toArray, List.set_cons_zero, List.set_cons_succ]
          refine wpAnyH_ready (rs := [1]) (by kernel_rfl) (by simp) ?_
          refine AllReadyH.cons (o := { dst := some 121, op := Op.load 83 (Operand.tmp 120), type := 83, pos := "ref.go:366", after := #[{ on := 0, ground := Ground.data }], guard := none }) rfl (fun K hK => ?_) AllReadyH.nil
          go_simp
          refine hK.out _ _ trivial (fun hHeld => ?_)
          clear hK K
          try simp only [Act.put, List.setIfInBounds_toArray, List.set_cons_zero, List.set_cons_succ]
          refine wpAnyH_ready (rs := [7]) (by kernel_rfl) (by simp) ?_
          refine AllReadyH.cons (o := { dst := some 127, op := Op.call { callee := Callee.builtin Builtin.append, args := #[Operand.tmp 121, Operand.tmp 126], argTypes := #[83, 83] }, type := 83, pos := "ref.go:366", after := #[{ on := 1, ground := Ground.data }, { on := 6, ground := Ground.data }, { on := 5, ground := Ground.chain }], guard := none }) rfl (fun K hK => ?_) AllReadyH.nil
          refine step_append_five (by rfl) _ _ (by rfl) (by rfl) (own_only HW.out.ownL (HVAL4.out.2.2.1.alloc _) (fun b hb e => by have := (own_lt HW.out.ownL b hb).1; have := HW.out.mid.gb; have := HW.out.mid.lt; omega)) (by rfl) (Blk.new w4 _ 85) (by rfl) (by rfl) (Nat.le_trans hnl2 (by decide)) (Nat.le_trans k3s (Nat.le_of_lt (alloc_lt w4 _))) ?_
          intro gg cap w5 hown5 hgr5 hat5
          have hp5 := HW.out.put (fun h e => h (by rw [e]; rfl)) HVAL4.out hnl2 hnk3 hown5 hgr5 (by simpa using hat5)
          have kb5 := HW.out.blkL HVAL4.out.2.2.1 hgr5
          have k3' := kb5.cell 3 rfl
          have k3f := kb5.frozen 3
          clear kb5
          have HP5 := Lib.hid hp5
          clear hown5 hgr5 hat5 hp5
          refine hK.out _ _ trivial (fun hHeld => ?_)
          clear hK K
          try simp only [Act.put, List.setIfInBounds_toArray, List.set_cons_zero, List.set_cons_succ]
          refine wpAnyH_take (i := 8) (oi := { dst := some 128, op := Op.fieldAddr 85 (Operand.tmp 5) 3, type := 0, pos := "ref.go:366", after := #[{ on := 0, ground := Ground.phase }, { on := 1, ground := Ground.phase }, { on := 2, ground := Ground.phase }, { on := 3, ground := Ground.phase }, { on := 4, ground := Ground.phase }, { on := 5, ground := Ground.phase }, { on := 6, ground := Ground.phase }, { on := 7, ground := Ground.phase }], guard := none }) (v := .pointer (some ⟨t5, 3, none⟩)) rfl (by kernel_rfl) (by kernel_rfl) (by kernel_rfl) (fun _ _ _ h => h) (Or.inl ⟨by rfl, by intro w hSw; go_simp⟩) (by assumption) ?_
          try simp only [Act.put, List.setIfInBounds_toArray, List.set_cons_zero, List.set_cons_succ]
          refine wpAnyH_ready (rs := [9]) (by kernel_rfl) (by simp) ?_
          refine AllReadyH.cons (o := { dst := none, op := Op.store 83 (Operand.tmp 128) (Operand.tmp 127), type := 0, pos := "ref.go:366", after := #[{ on := 8, ground := Ground.data }, { on := 7, ground := Ground.data }, { on := 7, ground := Ground.chain }, { on := 0, ground := Ground.phase }, { on := 1, ground := Ground.phase }, { on := 2, ground := Ground.phase }, { on := 3, ground := Ground.phase }, { on := 4, ground := Ground.phase }, { on := 5, ground := Ground.phase }, { on := 6, ground := Ground.phase }, { on := 7, ground := Ground.phase }], guard := none }) rfl (fun K hK => ?_) AllReadyH.nil
          go_simp
          refine hK.out _ _ trivial (fun hHeld => ?_)
          clear hK K
          try simp only [Act.put, List.setIfInBounds_toArray, List.set_cons_zero, List.set_cons_succ]
          refine wpAnyH_done (by kernel_rfl) ?_ _
          rotate_left
          all_goals
           go_upto_region 41 with (fail)
           refine wp_gen (VPre w g (some ⟨b, o, none⟩) c l t5 6 ((((keyB r1).map (·.2)).bind (valB f1 k)).map (·.2)) (L ++ ((((keyB r1).map (·.2)).bind (valB f1 k)).map (·.1)).toList) (nl + 1) (nk + 1) _ (ys ++ [.string tt]) _ (.slice (some ⟨gk2, 0, none⟩) (nk + 1) capk)) HP5.out ?_
           intro w6 hp6
           have HP6 := Lib.hid hp6
           clear hp6 HP5 k3 k3' k3f k3s
           go_wp2_with (first | (go_at_call 68; refine (blanks_o HP6.out.mid.rs).mono ?_; rintro e w7 ⟨rfl, hr7, ho7⟩; have HP7 := Lib.hid (HP6.out.call hr7 ho7 VPre.some_map); clear hr7 ho7) | (go_at_call 91; refine (is_any (x := 125) HP7.out.mid.rs).mono ?_; rintro e w8 ⟨bb, rfl, hr8, ho8, hb8⟩; have HP8 := Lib.hid (HP7.out.call hr8 ho8 VPre.some_map); have HB8 := Lib.hid hb8; clear hr8 ho8 hb8; cases bb) | (refine wpList_load_blk rfl 85 (.tmp 5) rfl rfl HP8.out.mid.b5 agg85 info85s ?_) | (refine wpList_store_blk rfl 85 (.tmp 4) _ rfl rfl rfl rfl HP8.out.mid.b4 rfl info85s rfl ?_; intro w9 hb9 ho9; have HB9 := Lib.hid hb9; have HO9 := Lib.hid ho9; clear hb9 ho9) | (go_at_call 89; refine (must_any (by decide) HP8.out.mid.rs).mono ?_; rintro e w9 ⟨rfl, hr9, ho9⟩; have HP9 := Lib.hid (HP8.out.call (s2 := ((((((keyB r1).map (·.2)).bind (valB f1 k)).map (·.2)).map skipB).map (isS 125)).bind (mustB [44])) hr9 ho9 VPre.some_of); clear hr9 ho9) | fail)
           all_goals first
            | (have hfin := VRound.ret (T0 := valB (f + 1) (k + 1) r) HVAL.out HRI.out HB8.out HP8.out HB9.out HO9.out
               refine bodyPost_ret (ret_cell rfl rfl HB9.out agg85 info85s) rfl ?_
               exact hfin)
            | (have hnx := VRound.more HRI.out HB8.out HP9.out HGK.out
               go_roundg (remG (((((((keyB r1).map (·.2)).bind (valB f1 k)).map (·.2)).map skipB).map (isS 125)).bind (mustB [44])))
               case rel => exact hnx.1
               case measure => exact hnx.2)
   have hne : x ≠ 110 ∧ x ≠ 102 ∧ x ≠ 116 ∧ x ≠ 34 ∧ x ≠ 91 ∧ x ≠ 123 := by
    have hz := HZ.out
    refine ⟨?_, ?_, ?_, ?_, ?_, ?_⟩ <;> (rintro rfl; first | exact h110 hz | exact h102 hz | exact h116 hz | exact h34 hz | exact h91 hz | exact h123 hz)
   have HNE := Lib.hid hne
   have q110 : ((z : Int) == 110) = false := by simp; omega
   have q102 : ((z : Int) == 102) = false := by simp; omega
   have q116 : ((z : Int) == 116) = false := by simp; omega
   have q34 : ((z : Int) == 34) = false := by simp; omega
   have q91 : ((z : Int) == 91) = false := by simp; omega
   have q123 : ((z : Int) == 123) = false := by simp; omega
   clear hne h110 h102 h116 h34 h91 h123
   go_quiet (fail)
   go_wp2_with (first | (go_at_call 92; refine (num_any ((HM.out.drewN _).set5 0 (.int .i64 3) rfl).rs).mono ?_; rintro e w3 ⟨n', rfl, hr3, ho3, hn3⟩; have hm3 := ((HM.out.drewN _).set5 0 (.int .i64 3) rfl).call hr3 ho3; obtain ⟨⟨_, _, c5, _, _⟩, _, _, f5, _, _⟩ := hm3.b5.five; have HM3 := Lib.hid hm3; have HN3 := Lib.hid hn3; clear hr3 ho3 hm3 hn3) | (refine wpList_load_blk rfl 85 (.tmp 5) rfl rfl (HM3.out.set5 2 _ rfl).b5 agg85 info85s ?_) | (refine wpList_store_blk rfl 85 (.tmp 4) _ rfl rfl rfl rfl (HM3.out.set5 2 _ rfl).b4 rfl info85s rfl ?_; intro w9 hb9 ho9; have HB9 := Lib.hid hb9; have HO9 := Lib.hid ho9; clear hb9 ho9))
   refine bodyPost_ret (ret_cell rfl rfl HB9.out agg85 info85s) rfl ((HM3.out.set5 2 _ rfl).done HB9.out HO9.out ⟨3, _, _, none, 0, 0, none, 0, 0, rfl⟩ ?_ ?_)
   ·rw [val_num HSK.out HNE.out.1 HNE.out.2.1 HNE.out.2.2.1 HNE.out.2.2.2.1 HNE.out.2.2.2.2.1 HNE.out.2.2.2.2.2]; exact (map_pair _ (fun a => JV.mk 3 [] a [] [])).symm
   ·intro p hp
    rw [val_num HSK.out HNE.out.1 HNE.out.2.1 HNE.out.2.2.1 HNE.out.2.2.2.1 HNE.out.2.2.2.2.1 HNE.out.2.2.2.2.2] at hp
    obtain ⟨q, hq, rfl⟩ := map_pair_some (f := fun a => JV.mk 3 [] a [] []) hp
    have := HN3.out q hq
    subst this
    exact JIs.plain _ _ 3 [] q.1 none none 0 0
theorem docvalue_any (f : Nat) : ValueSaid f := Nat.strongRecOn f fun f ih => docvalue_step ih
end Go.Proofs.YtjehnejgojgahaaGreatDoor
