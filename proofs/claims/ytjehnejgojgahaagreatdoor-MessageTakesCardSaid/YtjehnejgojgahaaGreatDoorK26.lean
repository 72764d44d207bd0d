/-
  A part of the proof of MessageTakes: the texts W6 Y0 Z0 Q5.
-/
import Derived.Test.YtjehnejgojgahaaGreatDoorK23
import Derived.Test.YtjehnejgojgahaaGreatDoorK25
import Derived.DeepKeys
namespace Go.Proofs.YtjehnejgojgahaaGreatDoor
open Go.RowKit
set_option linter.unusedVariables false
set_option linter.unusedSimpArgs false
theorem joinP_part {ts : List Bytes} {i : Nat} {t : Bytes} (h : ts[i]? = some t) : t.length ≤ (joinP ts).length := by
 have h1 : (joinP (ts.take (i + 1))).length ≤ (joinP ts).length := joinP_take_le ts (i + 1)
 rw [take_snoc h, joinP_snoc] at h1
 simp only [List.length_append] at h1
 omega
theorem may_any {m : Nat} {v : JV} {t : Bytes} (h : GW m v t) : t.length ≤ 1000000000000 → MayS v m := by
 have up : ∀ {v : JV} {a b : Nat}, a ≤ b → MayS v a → MayS v b := fun hab h X w cs d hd h1 hj hG => h X w cs d (Nat.le_trans hab hd) h1 hj hG
 induction h with
 | num hu => intro _; exact up (Nat.zero_le _) may_num
 | str hp ha => intro hl; exact up (Nat.zero_le _) (may_str ha (by simp [quoteP] at hl; omega))
 | @arr m l ts hl hn hg ih =>
  intro hlen
  refine may_arr (fun x hx => ?_) hl
  obtain ⟨i, hi⟩ := List.getElem?_of_mem hx
  have h1 := (List.getElem?_eq_some_iff.1 hi).1
  obtain ⟨t, ht⟩ : ∃ t, ts[i]? = some t := ⟨ts[i]'(by omega), List.getElem?_eq_getElem _⟩
  have := joinP_part ht
  exact ih i x t hi ht (by simp at hlen; omega)
 | @obj m l ks ts hl hn hk hd hp hg ih =>
  intro hlen
  have hm : ∀ (i : Nat) (k t : Bytes), ks[i]? = some k → ts[i]? = some t → k.length + t.length ≤ 1000000000000 := by
   intro i k t h1 h2
   have h3 : (List.zipWith memP ks ts)[i]? = some (memP k t) := by rw [List.getElem?_zipWith, h1, h2]
   have := joinP_part h3
   simp [memP, quoteP] at this
   simp at hlen
   omega
  refine may_obj (fun x hx => ?_) hl hk hd (fun k hk2 => ⟨(hp k hk2).2, ?_⟩)
  ·obtain ⟨i, hi⟩ := List.getElem?_of_mem hx
   have h1 := (List.getElem?_eq_some_iff.1 hi).1
   obtain ⟨t, ht⟩ : ∃ t, ts[i]? = some t := ⟨ts[i]'(by omega), List.getElem?_eq_getElem _⟩
   obtain ⟨k, hk3⟩ : ∃ k, ks[i]? = some k := ⟨ks[i]'(by omega), List.getElem?_eq_getElem _⟩
   exact ih i x t hi ht (by have := hm i k t hk3 ht; omega)
  ·obtain ⟨i, hi⟩ := List.getElem?_of_mem hk2
   have h1 := (List.getElem?_eq_some_iff.1 hi).1
   obtain ⟨t, ht⟩ : ∃ t, ts[i]? = some t := ⟨ts[i]'(by omega), List.getElem?_eq_getElem _⟩
   have := hm i k t hi ht
   omega
set_option maxRecDepth 100000 in
set_option maxHeartbeats 1600000 in
theorem may98 {X : Nat → Prop} {v : JV} {w : World} {cs : List Value} (h : MayS v 8) (hj : JIs X w v cs) (hG : Gl w) : Calls Tryz.prog 98 #[.agg cs.toArray] w (BoolAt true w) := by
 have HJ := Lib.hid hj
 have HG := Lib.hid hG
 obtain ⟨A, c, B, d, rfl⟩ := hj.form
 have HC := Lib.hid (h X (w.alloc (.cells (cells5 v.kind v.str v.num (.slice A v.list.length c) (.slice B v.keys.length d)).toArray 79)) _ 8 (Nat.le_refl _) (by decide) (hj.keep ((Only.refl _ w).alloc _)) (hG.alloc _))
 clear hj hG h
 unfold cells5 txt at *
 go_enter Tryz.func98, Tryz.ntmps98
 go_wp2_with (go_at_call 121; refine HC.out.mono ?_; rintro e w2 ⟨ho2, rfl⟩; have HO2 := Lib.hid (((Only.refl _ w).alloc _).trans ho2); clear ho2)
 go_ret
 exact ⟨HO2.out, rfl⟩
def outT (t : Bytes) : Bytes := if t.length ≤ 1048576 then t else []
def JTextAt (B : Nat) (t : Bytes) (w : World) (e : Ending) (w' : World) : Prop :=
 WB B w w' ∧ ∃ A c, e = .returned (.tuple #[.slice A (outT t).length c, .int .i64 (if t.length ≤ 1048576 then 0 else 3)]) ∧ OwnB w' B (.slice A (outT t).length c) (outT t)
set_option maxRecDepth 100000 in
set_option maxHeartbeats 1600000 in
theorem jtext_any {X : Nat → Prop} {B : Nat} {v : JV} {t : Bytes} {w : World} {cs : List Value} (hg : GW 8 v t) (hlen : t.length ≤ 1000000000000) (hj : JIs X w v cs) (hG : Gl w) (hB : B ≤ w.heap.size) (hb8 : 8 ≤ B) (hX : ∀ b, X b → b < B) :
  Calls Tryz.prog 78 #[.agg cs.toArray] w (JTextAt B t w) := by
 have HJ := Lib.hid hj
 have HG := Lib.hid hG
 have HB := Lib.hid hB
 have HM := Lib.hid (may_any hg hlen)
 have HW := Lib.hid (write_any hg)
 have HL := Lib.hid hlen
 have H8 := Lib.hid hb8
 have HX := Lib.hid hX
 obtain ⟨A, c, B1, d, rfl⟩ := hj.form
 obtain ⟨n, hn⟩ : ∃ n, n = t.length := ⟨_, rfl⟩
 have HN := Lib.hid hn
 have hw1 : Only (fun _ => False) w (w.alloc (.cells (cells5 v.kind v.str v.num (.slice A v.list.length c) (.slice B1 v.keys.length d)).toArray 79)) := (Only.refl _ w).alloc _
 have HC := Lib.hid (may98 (X := X) HM.out (hj.keep hw1) (hG.alloc _))
 have HWW := Lib.hid hw1
 by_cases hle : n ≤ 1048576
 ·have q : decide ((1048576 : Int) < (n : Int)) = false := by simp; omega
  have hz : (n : Int) ≤ 1048576 := by omega
  have HDO := Lib.hid (show ∀ w' A c, WB B w w' → OwnB w' B (.slice A n c) t → JTextAt B t w (.returned (.tuple #[.slice A n c, .int .i64 0])) w' from fun w' A c h1 h2 => by
   subst hn
   refine ⟨h1, A, c, ?_, ?_⟩
   ·unfold outT; rw [if_pos hle, if_pos hle]
   ·unfold outT; rw [if_pos hle]; exact h2)
  clear hj hG hg hlen hn hle hw1 hB hb8 hX
  unfold cells5 txt at *
  go_enter Tryz.func78, Tryz.ntmps78
  go_wp2_with (first
   | (go_at_call 98; refine HC.out.mono ?_; rintro e w2 ⟨ho2, rfl⟩; have HO2 := Lib.hid (HWW.out.trans ho2); have hb2 := (Blk.new w [.int .i64 v.kind, .string ⟨v.str.toArray⟩, .int .u64 v.num, .slice A v.list.length c, .slice B1 v.keys.length d] 79).only ho2 id; have k0 := hb2.cell 0 rfl; have k1 := hb2.cell 1 rfl; have k2 := hb2.cell 2 rfl; have k3 := hb2.cell 3 rfl; have k4 := hb2.cell 4 rfl; clear ho2 hb2)
   | (go_at_call 99; refine (HW.out X B 0 0 none [] w2 _ ⟨HX.out, HG.out.only HO2.out (fun _ _ => id), H8.out, OwnB.nil _ _, Nat.le_trans HB.out HO2.out.size⟩ (HJ.out.keep HO2.out) (by simpa using HL.out)).mono ?_; rintro e w3 ⟨A3, n3, c3, rfl, ho3, hw3⟩; rw [List.nil_append] at ho3; obtain rfl := ho3.bytes.1; rw [← HN.out] at ho3 ⊢; have HO3 := Lib.hid ho3; have HW3 := Lib.hid hw3; clear ho3 hw3))
  go_ret2
  exact HDO.out _ _ _ ((WB.of_false HO2.out).trans HW3.out) HO3.out
 ·have q : decide ((1048576 : Int) < (n : Int)) = true := by simp; omega
  have hz : (1048576 : Int) < (n : Int) := by omega
  have HDO := Lib.hid (show ∀ w', WB B w w' → JTextAt B t w (.returned (.tuple #[.slice none 0 0, .int .i64 3])) w' from fun w' h1 => by
   subst hn
   refine ⟨h1, none, 0, ?_, ?_⟩
   ·unfold outT; rw [if_neg hle, if_neg hle]; rfl
   ·unfold outT; rw [if_neg hle]; exact OwnB.nil _ _)
  clear hj hG hg hlen hn hle hw1 hB hb8 hX
  unfold cells5 txt at *
  go_enter Tryz.func78, Tryz.ntmps78
  go_wp2_with (first
   | (go_at_call 98; refine HC.out.mono ?_; rintro e w2 ⟨ho2, rfl⟩; have HO2 := Lib.hid (HWW.out.trans ho2); have hb2 := (Blk.new w [.int .i64 v.kind, .string ⟨v.str.toArray⟩, .int .u64 v.num, .slice A v.list.length c, .slice B1 v.keys.length d] 79).only ho2 id; have k0 := hb2.cell 0 rfl; have k1 := hb2.cell 1 rfl; have k2 := hb2.cell 2 rfl; have k3 := hb2.cell 3 rfl; have k4 := hb2.cell 4 rfl; clear ho2 hb2)
   | (go_at_call 99; refine (HW.out X B 0 0 none [] w2 _ ⟨HX.out, HG.out.only HO2.out (fun _ _ => id), H8.out, OwnB.nil _ _, Nat.le_trans HB.out HO2.out.size⟩ (HJ.out.keep HO2.out) (by simpa using HL.out)).mono ?_; rintro e w3 ⟨A3, n3, c3, rfl, ho3, hw3⟩; rw [List.nil_append] at ho3; obtain rfl := ho3.bytes.1; rw [← HN.out] at ho3 ⊢; have HO3 := Lib.hid ho3; have HW3 := Lib.hid hw3; clear ho3 hw3))
  go_ret2
  exact HDO.out _ ((WB.of_false HO2.out).trans HW3.out)
def MTextAt (B : Nat) (t : Bytes) (w : World) (e : Ending) (w' : World) : Prop :=
 WB B w w' ∧ ∃ A c, e = .returned (.slice A (outT t).length c) ∧ OwnB w' B (.slice A (outT t).length c) (outT t)
set_option maxRecDepth 100000 in
set_option maxHeartbeats 1600000 in
theorem mtext_any {X : Nat → Prop} {B : Nat} {v : JV} {t : Bytes} {w : World} {cs : List Value} (hg : GW 8 v t) (hlen : t.length ≤ 1000000000000) (hj : JIs X w v cs) (hG : Gl w) (hB : B ≤ w.heap.size) (hb8 : 8 ≤ B) (hX : ∀ b, X b → b < B) :
  Calls Tryz.prog 52 #[.agg cs.toArray] w (MTextAt B t w) := by
 obtain ⟨A, c, B1, d, rfl⟩ := hj.form
 have hw1 : Only (fun _ => False) w (w.alloc (.cells (cells5 v.kind v.str v.num (.slice A v.list.length c) (.slice B1 v.keys.length d)).toArray 79)) := (Only.refl _ w).alloc _
 have HC := Lib.hid (jtext_any hg hlen (hj.keep hw1) (hG.alloc _) (Nat.le_trans hB hw1.size) hb8 hX)
 have HWW := Lib.hid hw1
 clear hj hG hB hb8 hX hw1
 by_cases hle : t.length ≤ 1048576
 ·have HDO := Lib.hid (show ∀ w' A c, WB B w w' → OwnB w' B (.slice A (outT t).length c) (outT t) → MTextAt B t w (.returned (.slice A (outT t).length c)) w' from fun w' A c h1 h2 => ⟨h1, A, c, rfl, h2⟩)
  have HE := Lib.hid (show (if t.length ≤ 1048576 then (0 : Int) else 3) = 0 from if_pos hle)
  clear hg hlen hle
  unfold cells5 txt at *
  go_enter Tryz.func52, Tryz.ntmps52
  go_wp2_with (go_at_call 78; refine HC.out.mono ?_; rintro e w2 ⟨hw2, A2, c2, rfl, ho2⟩; rw [HE.out]; have HW2 := Lib.hid hw2; have HO2 := Lib.hid ho2; clear hw2 ho2)
  go_ret
  exact HDO.out _ _ _ ((WB.of_false HWW.out).trans HW2.out) HO2.out
 ·have HDO := Lib.hid (show ∀ w', WB B w w' → MTextAt B t w (.returned (.slice none 0 0)) w' from fun w' h1 => ⟨h1, none, 0, by unfold outT; rw [if_neg hle]; rfl, by unfold outT; rw [if_neg hle]; exact OwnB.nil _ _⟩)
  have HE := Lib.hid (show (if t.length ≤ 1048576 then (0 : Int) else 3) = 3 from if_neg hle)
  clear hg hlen hle
  unfold cells5 txt at *
  go_enter Tryz.func52, Tryz.ntmps52
  go_wp2_with (go_at_call 78; refine HC.out.mono ?_; rintro e w2 ⟨hw2, A2, c2, rfl, ho2⟩; rw [HE.out]; have HW2 := Lib.hid hw2; clear hw2 ho2)
  go_ret
  exact HDO.out _ ((WB.of_false HWW.out).trans HW2.out)
def VOut (H : Nat) (v : JV) (w : World) (e : Ending) (w' : World) : Prop :=
 Only (fun _ => False) w w' ∧ ∃ cs, e = .returned (.agg cs.toArray) ∧ JIs (fun b => H ≤ b) w' v cs
theorem VOut.mono {H H' : Nat} {v : JV} {w : World} {e : Ending} {w' : World} (h : VOut H v w e w') (hH : H' ≤ H) : VOut H' v w e w' := by
 obtain ⟨h1, cs, h2, h3⟩ := h
 exact ⟨h1, cs, h2, h3.mono (fun b _ hb => Nat.le_trans hH hb)⟩
def numV (n : Nat) : JV := .mk 3 [] n [] []
def wordV (l : Bytes) : JV := .mk 4 (put64 l) 0 [] []
set_option maxRecDepth 100000 in
set_option maxHeartbeats 1600000 in
theorem numV_any {n : Nat} {w : World} : Calls Tryz.prog 54 #[.int .u64 n] w (VOut w.heap.size (numV n) w) := by
 go_enter Tryz.func54, Tryz.ntmps54
 go_wp2_with (refine wpList_store_blk (cs := [.int .i64 3, .string ⟨#[]⟩, .int .u64 n, .slice none 0 0, .slice none 0 0]) rfl 79 (.tmp 2) (.tmp 4) rfl rfl rfl rfl (Blk.new w [.int .i64 0, .string ⟨#[]⟩, .int .u64 0, .slice none 0 0, .slice none 0 0] 79) rfl info79s rfl ?_; intro w2 hb2 ho2; have HB2 := Lib.hid hb2; have HO2 := Lib.hid ho2; clear hb2 ho2)
 refine bodyPost_ret (ret_cell rfl rfl HB2.out agg79 info79s) rfl ?_
 exact ⟨((Only.refl _ w).alloc _).then HO2.out (fun i hi e => by omega), _, rfl, JIs.plain _ _ 3 [] n none none 0 0⟩
set_option maxRecDepth 100000 in
set_option maxHeartbeats 1600000 in
theorem wordV_any {A : Option Addr} {c : Nat} {l : Bytes} {w : World} (hB : BytesAt w A l) (hcap : l.length ≤ c) (hl : l.length ≤ 1000000000) : Calls Tryz.prog 56 #[.slice A l.length c] w (VOut w.heap.size (wordV l) w) := by
 have HC := Lib.hid (put_any (w := w.alloc (.cells #[.int .i64 0, .string ⟨#[]⟩, .int .u64 0, .slice none 0 0, .slice none 0 0] 79)) (hB.only ((Only.refl (fun _ => False) w).alloc _) (fun _ _ _ => id)) hcap hl)
 clear hB hcap hl
 go_enter Tryz.func56, Tryz.ntmps56
 go_wp2_with (first
  | (go_at_call 79; refine HC.out.mono ?_; rintro e w1 ⟨ho1, rfl⟩; unfold txt; have HO1 := Lib.hid (((Only.refl _ w).alloc _).trans ho1); have HB1 := Lib.hid ((Blk.new w [.int .i64 0, .string ⟨#[]⟩, .int .u64 0, .slice none 0 0, .slice none 0 0] 79).only ho1 id); clear ho1)
  | (refine wpList_store_blk (cs := [.int .i64 4, .string ⟨(put64 l).toArray⟩, .int .u64 0, .slice none 0 0, .slice none 0 0]) rfl 79 (.tmp 2) (.tmp 5) rfl rfl rfl rfl HB1.out rfl info79s rfl ?_; intro w2 hb2 ho2; have HB2 := Lib.hid hb2; have HO2 := Lib.hid ho2; clear hb2 ho2))
 refine bodyPost_ret (ret_cell rfl rfl HB2.out agg79 info79s) rfl ?_
 exact ⟨HO1.out.then HO2.out (fun i hi e => by omega), _, rfl, JIs.plain _ _ 4 (put64 l) 0 none none 0 0⟩
theorem blk_bytes {w : World} {g : Nat} {l : Bytes} {T : TypeId} (h : Blk w g (u8s l) T) : BytesAt w (some ⟨g, 0, none⟩) l := by
 intro i x hx
 refine ⟨g, 0, rfl, ?_⟩
 rw [Nat.zero_add]
 refine h.cell i ?_
 unfold u8s
 rw [List.getElem?_map, hx]; rfl
theorem wordV32 {A : Option Addr} {l : Bytes} {w : World} (hB : BytesAt w A l) (hl : l.length = 32) : Calls Tryz.prog 56 #[.slice A 32 32] w (VOut w.heap.size (wordV l) w) := by
 have := wordV_any (c := 32) hB (by omega) (by omega)
 rw [hl] at this
 exact this
set_option maxRecDepth 100000 in
set_option maxHeartbeats 1600000 in
theorem hashV_any {d : Bytes} {w : World} (hd : d.length = 32) : Calls Tryz.prog 55 #[.agg (u8s d).toArray] w (VOut w.heap.size (wordV d) w) := by
 have HD := Lib.hid hd
 clear hd
 go_enter Tryz.func55, Tryz.ntmps55
 go_wp2_with (first
  | (refine wpList_box_blk rfl 24 1 (.tmp 0) rfl rfl rfl ?_; intro w1 hb1 ho1 hs1; have HB1 := Lib.hid hb1; have HO1 := Lib.hid ho1; have HS1 := Lib.hid hs1; have HA1 := Lib.hid (blk_bytes (hb1.alloc (.cells #[.int .i64 0, .string ⟨#[]⟩, .int .u64 0, .slice none 0 0, .slice none 0 0] 79))); clear hb1 ho1 hs1)
  | (go_at_call 56; refine (wordV32 HA1.out HD.out).mono ?_; rintro e w2 ⟨ho2, cs, rfl, hj2⟩; obtain ⟨A2, c2, B2, d2, rfl⟩ := hj2.form; have HO2 := Lib.hid ho2; have HJ2 := Lib.hid hj2; have HB2 := Lib.hid ((Blk.new w1 [.int .i64 0, .string ⟨#[]⟩, .int .u64 0, .slice none 0 0, .slice none 0 0] 79).only ho2 id); clear ho2 hj2)
  | (refine wpList_store_blk (cs := cells5 (wordV d).kind (wordV d).str (wordV d).num (.slice A2 (wordV d).list.length c2) (.slice B2 (wordV d).keys.length d2)) rfl 79 (.tmp 2) (.tmp 4) rfl rfl rfl rfl HB2.out rfl info79s rfl ?_; intro w3 hb3 ho3; have HB3 := Lib.hid hb3; have HO3 := Lib.hid ho3; clear hb3 ho3))
 refine bodyPost_ret (ret_cell rfl rfl HB3.out agg79 info79s) rfl ?_
 have o2 : Only (fun _ => False) w w2 := (HO1.out.alloc _).trans HO2.out
 refine ⟨o2.then HO3.out (fun i hi e => by have := HS1.out; omega), _, rfl, ?_⟩
 exact JIs.plain _ _ 4 (put64 d) 0 _ _ _ _
theorem dig10 {k : Nat} (h : k < 10) : isDig (UInt8.ofNat (48 + k)) = true ∧ (UInt8.ofNat (48 + k)).toNat = 48 + k := by
 have e : (UInt8.ofNat (48 + k)).toNat = 48 + k := by rw [UInt8.toNat_ofNat']; omega
 refine ⟨?_, e⟩
 unfold isDig
 rw [e]
 exact decide_eq_true (by omega)
theorem decD_dig (u : Nat) : ∀ x ∈ Lib.decDigits u, isDig x = true := by
 induction u using Nat.strongRecOn with
 | _ u ih =>
  intro x hx
  rw [Lib.decDigits] at hx
  split at hx
  ·rename_i h
   rw [List.mem_singleton.1 hx]; exact (dig10 h).1
  ·rcases List.mem_append.1 hx with hx | hx
   ·exact ih (u / 10) (by omega) x hx
   ·rw [List.mem_singleton.1 hx]; exact (dig10 (by omega)).1
theorem decD_dv (u : Nat) : dv (Lib.decDigits u) = u := by
 induction u using Nat.strongRecOn with
 | _ u ih =>
  rw [Lib.decDigits]
  split
  ·rename_i h
   have := (dig10 h).2
   show 10 * 0 + ((UInt8.ofNat (48 + u)).toNat - 48) = u
   omega
  ·have := (dig10 (show u % 10 < 10 by omega)).2
   rw [dv_snoc, ih (u / 10) (by omega)]
   omega
theorem decD_head (u : Nat) (h : u ≠ 0) : ∃ c r, Lib.decDigits u = c :: r ∧ c ≠ 48 := by
 induction u using Nat.strongRecOn with
 | _ u ih =>
  rw [Lib.decDigits]
  split
  ·rename_i hu
   refine ⟨_, [], rfl, fun e => ?_⟩
   have := (dig10 hu).2
   rw [e] at this
   have h48 : (48 : UInt8).toNat = 48 := rfl
   omega
  ·obtain ⟨c, r, e, hc⟩ := ih (u / 10) (by omega) (by omega)
   rw [e]
   exact ⟨c, _, rfl, hc⟩
theorem decD_ok (u : Nat) (h : u < 18446744073709551616) : numOk (Lib.decDigits u) = true := by
 have hd : decide (big ≤ dv (Lib.decDigits u)) = false := by rw [decD_dv]; unfold big; exact decide_eq_false (by omega)
 by_cases h0 : u = 0
 ·subst h0
  rw [show Lib.decDigits 0 = [48] from Lib.decDigits_one (by decide)]; decide
 ·obtain ⟨c, r, e, hc⟩ := decD_head u h0
  unfold numOk
  rw [hd, e]
  simp [hc]
theorem decD_ne (u : Nat) : ∃ c r, Lib.decDigits u = c :: r ∧ isDig c = true := by
 by_cases h0 : u = 0
 ·subst h0
  exact ⟨48, [], Lib.decDigits_one (by decide), by decide⟩
 ·obtain ⟨c, r, e, _⟩ := decD_head u h0
  exact ⟨c, r, e, decD_dig u c (by rw [e]; simp)⟩
theorem decD_len (k : Nat) : ∀ u, u < 10 ^ (k + 1) → (Lib.decDigits u).length ≤ k + 1 := by
 induction k with
 | zero => intro u h; rw [Lib.decDigits_one (by omega)]; simp
 | succ k ih =>
  intro u h
  rw [Lib.decDigits]
  split
  ·simp
  ·have := ih (u / 10) (by rw [Nat.pow_succ] at h; omega)
   simp; omega
theorem strB_plain : ∀ (s acc q : Bytes), PlainT s → strB ((s ++ 34 :: q).length + 1) acc (s ++ 34 :: q) = some (acc ++ s, q)
 | [], acc, q, _ => by rw [List.append_nil]; exact strB_end acc q
 | x :: s, acc, q, h => by
  have hx := h x (by simp)
  rw [List.cons_append, ← strB_next acc x (s ++ 34 :: q) (by omega) hx.2.1 hx.2.2, strB_plain s (acc ++ [x]) q (fun y hy => h y (by simp [hy]))]
  simp
theorem strOf_plain {s q : Bytes} (h : PlainT s) (ha : ∀ x ∈ s, x.toNat < 128) : strOf (34 :: (s ++ 34 :: q)) = some (s, q) := by
 unfold strOf
 have e : mustB [34] (34 :: (s ++ 34 :: q)) = some (s ++ 34 :: q) := by simp [mustB]
 rw [e]
 simp only []
 rw [strB_plain s [] q h]
 simp only [List.nil_append]
 rw [if_pos (validD_ascii ha)]
theorem quoteP_app (s q : Bytes) : quoteP s ++ q = 34 :: (s ++ 34 :: q) := by simp [quoteP]
def startB (c : UInt8) : Prop := isBlank c = false ∧ c ≠ 93 ∧ c ≠ 125
instance (c : UInt8) : Decidable (startB c) := by unfold startB; infer_instance
theorem dig_start {c : UInt8} (h : isDig c = true) : startB c := by
 simp only [isDig, decide_eq_true_eq] at h
 have ne : ∀ k : UInt8, (57 < k.toNat ∨ k.toNat < 48) → c ≠ k := fun k hk e => by subst e; omega
 refine ⟨?_, ne _ (by decide), ne _ (by decide)⟩
 unfold isBlank
 simp [ne 32 (by decide), ne 9 (by decide), ne 10 (by decide), ne 13 (by decide)]
theorem gw_head {m : Nat} {v : JV} {t : Bytes} (h : GW m v t) : ∃ c r, t = c :: r ∧ startB c := by
 cases h with
 | num hn =>
  obtain ⟨c, r, e, hc⟩ := decD_ne (‹Nat›)
  exact ⟨c, r, e, dig_start hc⟩
 | str => exact ⟨34, _, rfl, by decide⟩
 | arr => exact ⟨91, _, rfl, by decide⟩
 | obj => exact ⟨123, _, rfl, by decide⟩
theorem skipB_start {c : UInt8} {r : Bytes} (h : isBlank c = false) : skipB (c :: r) = c :: r := by rw [skipB, if_neg (by simp [h])]
def tailP (ts : List Bytes) : Bytes := (ts.map (44 :: ·)).flatten
theorem tailP_cons (t : Bytes) (ts : List Bytes) (q : Bytes) : tailP (t :: ts) ++ q = 44 :: (t ++ (tailP ts ++ q)) := by simp [tailP]
theorem tail_zip : ∀ (ts : List Bytes) (k : Nat), 0 < k → ((ts.zipIdx k).map fun x => (if x.2 = 0 then ([] : Bytes) else [44]) ++ x.1).flatten = tailP ts
 | [], k, h => rfl
 | t :: ts, k, h => by
  rw [List.zipIdx_cons, List.map_cons, List.flatten_cons, tail_zip ts (k + 1) (by omega)]
  simp only []
  rw [if_neg (by omega)]
  unfold tailP
  simp
theorem joinP_cons (t : Bytes) (ts : List Bytes) : joinP (t :: ts) = t ++ tailP ts := by
 unfold joinP
 rw [List.zipIdx_cons, List.map_cons, List.flatten_cons, tail_zip ts 1 (by omega)]
 simp
def RD (m : Nat) (v : JV) (t : Bytes) : Prop := ∀ q : Bytes, (∀ x, q.head? = some x → isDig x = false) → VD m (t ++ q) = some (v, q)
theorem nodig {c : UInt8} {r : Bytes} (h : isDig c = false) : ∀ x, (c :: r).head? = some x → isDig x = false := by
 intro x hx
 simp at hx
 rw [← hx]; exact h
theorem read_list {m : Nat} : ∀ (vs : List JV) (ts : List Bytes) (v : JV) (t : Bytes) (acc : List JV) (q : Bytes), vs.length = ts.length → RD m v t →
  (∀ (i : Nat) (v : JV) (t : Bytes), vs[i]? = some v → ts[i]? = some t → RD m v t) → LD m 5 93 acc [] (t ++ (tailP ts ++ 93 :: q)) = some (.mk 5 [] 0 (acc ++ v :: vs) [], q)
 | [], [], v, t, acc, q, _, hv, _ => by
  rw [LD_list, show tailP [] ++ 93 :: q = 93 :: q from rfl, hv _ (nodig (by decide))]
  simp only [Option.bind_some, afterD]
  rw [skipB_start (by decide), if_pos (by simp)]
  simp
 | v2 :: vs, t2 :: ts, v, t, acc, q, hl, hv, hall => by
  rw [LD_list, tailP_cons, hv _ (nodig (by decide))]
  simp only [Option.bind_some, afterD]
  rw [skipB_start (by decide), if_neg (by simp), must44]
  simp only []
  rw [read_list vs ts v2 t2 (acc ++ [v]) q (by simpa using hl) (hall 0 _ _ rfl rfl) (fun i v t h1 h2 => hall (i + 1) v t (by simpa using h1) (by simpa using h2))]
  simp
 | [], _ :: _, _, _, _, _, hl, _, _ => by simp at hl
 | _ :: _, [], _, _, _, _, hl, _, _ => by simp at hl
theorem keyD_mem {ks : List Bytes} {k t q : Bytes} (hp : PlainT k) (ha : ∀ x ∈ k, x.toNat < 128) (hk : k ∉ ks) : keyD ks (memP k t ++ q) = some (k, t ++ q) := by
 have e : memP k t ++ q = 34 :: (k ++ 34 :: (58 :: (t ++ q))) := by simp [memP, quoteP]
 have hb : keyB (memP k t ++ q) = some (k, t ++ q) := by
  rw [e]
  unfold keyB
  rw [skipB_start (by decide), strOf_plain hp ha]
  simp only []
  rw [skipB_start (by decide)]
  simp [mustB]
 rw [keyD_some hb, if_neg hk]
theorem read_obj {m : Nat} : ∀ (vs : List JV) (ts kz : List Bytes) (v : JV) (t k : Bytes) (acc : List JV) (ks : List Bytes) (q : Bytes), vs.length = ts.length → kz.length = ts.length → RD m v t →
  (∀ x ∈ k :: kz, PlainT x ∧ ∀ y ∈ x, y.toNat < 128) → (ks ++ k :: kz).Nodup → (∀ (i : Nat) (v : JV) (t : Bytes), vs[i]? = some v → ts[i]? = some t → RD m v t) →
  LD m 6 125 acc ks (memP k t ++ (tailP (List.zipWith memP kz ts) ++ 125 :: q)) = some (.mk 6 [] 0 (acc ++ v :: vs) (ks ++ k :: kz), q)
 | [], [], [], v, t, k, acc, ks, q, _, _, hv, hp, hn, _ => by
  have hk : k ∉ ks := fun h => by
   rw [List.nodup_append] at hn
   exact hn.2.2 k h k (by simp) rfl
  rw [LD_obj, keyD_mem (hp k (by simp)).1 (hp k (by simp)).2 hk]
  simp only []
  rw [show tailP (List.zipWith memP [] []) ++ 125 :: q = 125 :: q from rfl, hv _ (nodig (by decide))]
  simp only [Option.bind_some, afterD]
  rw [skipB_start (by decide), if_pos (by simp)]
  simp
 | v2 :: vs, t2 :: ts, k2 :: kz, v, t, k, acc, ks, q, hl, hl2, hv, hp, hn, hall => by
  have hk : k ∉ ks := fun h => by
   rw [List.nodup_append] at hn
   exact hn.2.2 k h k (by simp) rfl
  rw [LD_obj, keyD_mem (hp k (by simp)).1 (hp k (by simp)).2 hk]
  simp only []
  rw [List.zipWith_cons_cons, tailP_cons, hv _ (nodig (by decide))]
  simp only [Option.bind_some, afterD]
  rw [skipB_start (by decide), if_neg (by simp), must44]
  simp only []
  rw [read_obj vs ts kz v2 t2 k2 (acc ++ [v]) (ks ++ [k]) q (by simpa using hl) (by simpa using hl2) (hall 0 _ _ rfl rfl) (fun x hx => hp x (by simp at hx ⊢; exact .inr hx)) (by simpa using hn) (fun i v t h1 h2 => hall (i + 1) v t (by simpa using h1) (by simpa using h2))]
  simp
 | [], _ :: _, _, _, _, _, _, _, _, hl, _, _, _, _, _ => by simp at hl
 | _ :: _, [], _, _, _, _, _, _, _, hl, _, _, _, _, _ => by simp at hl
 | _, [], _ :: _, _, _, _, _, _, _, _, hl, _, _, _, _ => by simp at hl
 | _, _ :: _, [], _, _, _, _, _, _, _, hl, _, _, _, _ => by simp at hl
theorem gw_read {m : Nat} {v : JV} {t : Bytes} (h : GW m v t) : RD m v t := by
 induction h with
 | @num m n hn =>
  intro q hq
  obtain ⟨c, r, e, hc⟩ := decD_ne n
  have e2 : Lib.decDigits n ++ q = c :: (r ++ q) := by rw [e]; rfl
  rw [VD_num (c := c) (t := r ++ q) (by rw [e2]; exact skipB_start (dig_start hc).1) hc, ← e2, numB_of _ _ (decD_dig n) hq, if_pos (decD_ok n hn), decD_dv]
  rfl
 | @str m s hp ha =>
  intro q _
  rw [quoteP_app, VD_str (t := s ++ 34 :: q) (skipB_start (by decide)), strOf_plain hp ha]
  rfl
 | @arr m l ts h1 h2 h3 ih =>
  intro q _
  have e : 91 :: (joinP ts ++ [93]) ++ q = 91 :: (joinP ts ++ 93 :: q) := by simp
  rw [e, VD_open (c := 91) (kind := 5) (e := 93) (t := joinP ts ++ 93 :: q) (skipB_start (by decide)) (.inl ⟨rfl, rfl, rfl⟩)]
  simp only []
  match l, ts, h2, h3, ih with
  | [], [], _, _, _ =>
   rw [show joinP [] ++ 93 :: q = 93 :: q from rfl, skipB_start (by decide), if_pos (by simp)]
   rfl
  | v0 :: l, t0 :: ts, h2, h3, ih =>
   obtain ⟨c, r, e0, hc⟩ := gw_head (h3 0 _ _ rfl rfl)
   have e3 : joinP (t0 :: ts) ++ 93 :: q = t0 ++ (tailP ts ++ 93 :: q) := by rw [joinP_cons]; simp
   have e4 : skipB (t0 ++ (tailP ts ++ 93 :: q)) = t0 ++ (tailP ts ++ 93 :: q) := by rw [e0, List.cons_append]; exact skipB_start hc.1
   rw [e3, e4, if_neg (by rw [e0]; simp; exact hc.2.1), read_list l ts v0 t0 [] q (by simpa using h2.symm) (ih 0 _ _ rfl rfl) (fun i v t k1 k2 => ih (i + 1) v t (by simpa using k1) (by simpa using k2))]
   rfl
 | @obj m l ks ts h1 h2 h3 h4 h5 h6 ih =>
  intro q _
  have e : 123 :: (joinP (List.zipWith memP ks ts) ++ [125]) ++ q = 123 :: (joinP (List.zipWith memP ks ts) ++ 125 :: q) := by simp
  rw [e, VD_open (c := 123) (kind := 6) (e := 125) (t := joinP (List.zipWith memP ks ts) ++ 125 :: q) (skipB_start (by decide)) (.inr ⟨rfl, rfl, rfl⟩)]
  simp only []
  match l, ts, ks, h2, h3, h4, h5, h6, ih with
  | [], [], [], _, _, _, _, _, _ =>
   rw [show joinP (List.zipWith memP [] []) ++ 125 :: q = 125 :: q from rfl, skipB_start (by decide), if_pos (by simp)]
   rfl
  | v0 :: l, t0 :: ts, k0 :: ks, h2, h3, h4, h5, h6, ih =>
   have e3 : joinP (List.zipWith memP (k0 :: ks) (t0 :: ts)) ++ 125 :: q = memP k0 t0 ++ (tailP (List.zipWith memP ks ts) ++ 125 :: q) := by rw [List.zipWith_cons_cons, joinP_cons]; simp
   have e4 : ∃ r, memP k0 t0 ++ (tailP (List.zipWith memP ks ts) ++ 125 :: q) = 34 :: r := ⟨_, rfl⟩
   obtain ⟨r, e4⟩ := e4
   have e5 : skipB (memP k0 t0 ++ (tailP (List.zipWith memP ks ts) ++ 125 :: q)) = memP k0 t0 ++ (tailP (List.zipWith memP ks ts) ++ 125 :: q) := by rw [e4]; exact skipB_start (by decide)
   rw [e3, e5, if_neg (by rw [e4]; simp), read_obj l ts ks v0 t0 k0 [] [] q (by simpa using h2.symm) (by simp at h2 h3; omega) (ih 0 _ _ rfl rfl) h5 (by simpa using h4) (fun i v t k1 k2 => ih (i + 1) v t (by simpa using k1) (by simpa using k2))]
   rfl
theorem parseD_gw {v : JV} {t : Bytes} (h : GW 8 v t) : parseD t = some v := by
 have h1 := gw_read h [] (by simp)
 rw [List.append_nil] at h1
 unfold parseD
 rw [h1, Option.bind_some, behind_nil]
 rfl
theorem mapM_some {α β : Type} (f : α → Option β) : ∀ l : List α, (∀ x ∈ l, ∃ y, f x = some y) → ∃ ys, l.mapM f = some ys
 | [], _ => ⟨[], rfl⟩
 | x :: l, h => by
  obtain ⟨y, hy⟩ := h x (by simp)
  obtain ⟨ys, hys⟩ := mapM_some f l (fun z hz => h z (by simp [hz]))
  exact ⟨y :: ys, by rw [List.mapM_cons, hy, hys]; rfl⟩
theorem keyLits_u8 (d : Nat) (x : UInt8) : Tryz.prog.keyLits (d + 1) 5 [.int .u8 x.toNat] = some [.int .u8 x.toNat] := by
 unfold Program.keyLits
 rw [Tryz.underlying5]
 have hx := x.toNat_lt
 have hw : (Lit.int .u8 (x.toNat : Int)).wf = true := by
  show (decide (IntKind.u8.min ≤ (x.toNat : Int)) && decide ((x.toNat : Int) ≤ IntKind.u8.max)) = true
  have h0 : IntKind.u8.min = 0 := rfl
  have h1 : IntKind.u8.max = 255 := rfl
  rw [h0, h1, decide_eq_true (show (0 : Int) ≤ (x.toNat : Int) by omega), decide_eq_true (show (x.toNat : Int) ≤ 255 by omega)]
  rfl
 simp [hw]
theorem keyLits_arr {d n : Nat} {T : TypeId} {l : Bytes} (hu : Tryz.prog.underlying T = some (.array n 5)) (hc : Tryz.prog.cellsOf T = n) (hl : l.length = n) : ∃ ls, Tryz.prog.keyLits (d + 2) T (u8s l) = some ls := by
 have h1 : Tryz.prog.cellsOf 5 = 1 := by kernel_rfl
 obtain ⟨ys, hys⟩ := mapM_some (fun i => Tryz.prog.keyLits (d + 1) 5 (((u8s l).drop (i * Tryz.prog.cellsOf 5)).take (Tryz.prog.cellsOf 5))) (List.range n) (by
  intro i hi
  have hi2 : i < l.length := by rw [hl]; exact List.mem_range.1 hi
  refine ⟨[.int .u8 (l[i]).toNat], ?_⟩
  rw [h1, Nat.mul_one]
  have e : ((u8s l).drop i).take 1 = [.int .u8 (l[i]).toNat] := by
   unfold u8s
   rw [← List.map_drop, ← List.map_take, List.drop_eq_getElem_cons hi2]
   rfl
  rw [e]
  exact keyLits_u8 d _)
 refine ⟨ys.flatten, ?_⟩
 unfold Program.keyLits
 rw [hu]
 simp only []
 rw [if_pos (by rw [u8s_length, hc, hl]), hys]
 rfl
theorem neq_self {T : TypeId} {m d : Nat} {cs : List Value} (hk : Tryz.prog.keyTypeAt m T = true) (hf : (Value.agg cs.toArray).formed Tryz.prog T = true) (hl : ∃ ls, Tryz.prog.keyLits (d + 2) T cs = some ls) (hm : m ≤ 10000) (w : World) :
  (binOp .neq T (.agg cs.toArray) (.agg cs.toArray)).run Tryz.prog w = .ok (.bool false) w := by
 obtain ⟨ls, hl⟩ := hl
 have hE := run_equalIn_deep (P := Tryz.prog) (10000 - m) m T hk
 rw [Nat.sub_add_cancel hm] at hE
 have hl2 : Tryz.prog.keyLits (d + 2) T (Value.agg cs.toArray).cells.toList = some ls := by simpa [Value.cells] using hl
 obtain ⟨r, hr, hrr⟩ := hE w (d + 2) (d + 2) _ _ ls ls hf hf hl2 hl2
 have : r = true := hrr.2 rfl
 subst this
 rw [run_neq_struct, hr]
 rfl
theorem neq24 {l : Bytes} (h : l.length = 32) (w : World) : (binOp .neq 24 (.agg (u8s l).toArray) (.agg (u8s l).toArray)).run Tryz.prog w = .ok (.bool false) w :=
 neq_self (m := 2) (d := 0) (by kernel_rfl) (by
  have hc : Tryz.prog.cellsOf 24 = 32 := by kernel_rfl
  unfold Value.formed
  rw [Tryz.underlying24]
  simp [u8s_length, h, hc]) (keyLits_arr Tryz.underlying24 (by kernel_rfl) h) (by decide) w
theorem keyLits_u64 (d n : Nat) (h : n < 18446744073709551616) : Tryz.prog.keyLits (d + 1) 25 [.int .u64 n] = some [.int .u64 n] := by
 have hu : Tryz.prog.underlying 25 = some (.int .u64) := by kernel_rfl
 unfold Program.keyLits
 rw [hu]
 have hw : (Lit.int .u64 (n : Int)).wf = true := by
  show (decide (IntKind.u64.min ≤ (n : Int)) && decide ((n : Int) ≤ IntKind.u64.max)) = true
  have h0 : IntKind.u64.min = 0 := rfl
  have h1 : IntKind.u64.max = 18446744073709551615 := rfl
  rw [h0, h1, decide_eq_true (show (0 : Int) ≤ (n : Int) by omega), decide_eq_true (show (n : Int) ≤ 18446744073709551615 by omega)]
  rfl
 simp [hw]
theorem c24 : Tryz.prog.cellsOf 24 = 32 := by kernel_rfl
theorem c25 : Tryz.prog.cellsOf 25 = 1 := by kernel_rfl
theorem c26 : Tryz.prog.cellsOf 26 = 64 := by kernel_rfl
theorem c28 : Tryz.prog.cellsOf 28 = 97 := by kernel_rfl
theorem c35 : Tryz.prog.cellsOf 35 = 98 := by kernel_rfl
theorem neq28 {i s : Bytes} {n : Nat} (hi : i.length = 32) (hs : s.length = 64) (hn : n < 18446744073709551616) (w : World) : (binOp .neq 28 (.agg (sctC i n s).toArray) (.agg (sctC i n s).toArray)).run Tryz.prog w = .ok (.bool false) w := by
 have hlen := sctC_len (n := n) hi hs
 obtain ⟨a, ha⟩ := keyLits_arr (d := 0) (T := 24) (l := i) Tryz.underlying24 c24 hi
 obtain ⟨b, hb⟩ := keyLits_arr (d := 0) (T := 26) (l := s) Tryz.underlying26 c26 hs
 have e1 : ((sctC i n s).drop 0).take 32 = u8s i := by
  unfold sctC
  rw [List.drop_zero, List.take_append_of_le_length (by rw [u8s_length, hi]; omega), List.take_of_length_le (by rw [u8s_length, hi]; omega)]
 have e2 : ((sctC i n s).drop 32).take 1 = [.int .u64 n] := by
  unfold sctC
  rw [List.drop_append_of_le_length (by rw [u8s_length, hi]; omega), List.drop_of_length_le (by rw [u8s_length, hi]; omega)]
  rfl
 have e3 : ((sctC i n s).drop 33).take 64 = u8s s := by
  have : sctC i n s = (u8s i ++ [.int .u64 n]) ++ u8s s := by simp [sctC]
  rw [this, List.drop_append_of_le_length (by rw [List.length_append, u8s_length, hi]; simp), List.drop_of_length_le (by rw [List.length_append, u8s_length, hi]; simp), List.nil_append, List.take_of_length_le (by rw [u8s_length, hs]; omega)]
 refine neq_self (m := 3) (d := 1) (by kernel_rfl) ?_ ?_ (by decide) w
 ·unfold Value.formed
  rw [Tryz.underlying28]
  simp [hlen, c28]
 ·refine ⟨([a, [.int .u64 n], b] : List (List Lit)).flatten, ?_⟩
  unfold Program.keyLits
  rw [Tryz.underlying28]
  simp only []
  rw [if_pos ⟨by rw [hlen, c28], by simp⟩]
  simp only [List.mapM_cons, List.mapM_nil, c24, c25, c26, e1, e2, e3, ha, hb, keyLits_u64 _ n hn]
  rfl
theorem neq35 {r s : Bytes} {n m : Nat} (hr : r.length = 32) (hs : s.length = 64) (hn : n < 18446744073709551616) (hm : m < 18446744073709551616) (w : World) : (binOp .neq 35 (.agg (headC n m r s).toArray) (.agg (headC n m r s).toArray)).run Tryz.prog w = .ok (.bool false) w := by
 have hlen := headC_len (n := n) (m := m) hr hs
 obtain ⟨a, ha⟩ := keyLits_arr (d := 0) (T := 24) (l := r) Tryz.underlying24 c24 hr
 obtain ⟨b, hb⟩ := keyLits_arr (d := 0) (T := 26) (l := s) Tryz.underlying26 c26 hs
 have e0 : ((headC n m r s).drop 0).take 1 = [.int .u64 n] := rfl
 have e1 : ((headC n m r s).drop 1).take 1 = [.int .u64 m] := rfl
 have e2 : ((headC n m r s).drop 2).take 32 = u8s r := by
  show (u8s r ++ u8s s).take 32 = u8s r
  rw [List.take_append_of_le_length (by rw [u8s_length, hr]; omega), List.take_of_length_le (by rw [u8s_length, hr]; omega)]
 have e3 : ((headC n m r s).drop 34).take 64 = u8s s := by
  show ((u8s r ++ u8s s).drop 32).take 64 = u8s s
  rw [List.drop_append_of_le_length (by rw [u8s_length, hr]; omega), List.drop_of_length_le (by rw [u8s_length, hr]; omega), List.nil_append, List.take_of_length_le (by rw [u8s_length, hs]; omega)]
 refine neq_self (m := 3) (d := 1) (by kernel_rfl) ?_ ?_ (by decide) w
 ·unfold Value.formed
  rw [Tryz.underlying35]
  simp [hlen, c35]
 ·refine ⟨([[.int .u64 n], [.int .u64 m], a, b] : List (List Lit)).flatten, ?_⟩
  unfold Program.keyLits
  rw [Tryz.underlying35]
  simp only []
  rw [if_pos ⟨by rw [hlen, c35], by simp⟩]
  simp only [List.mapM_cons, List.mapM_nil, c24, c25, c26, e0, e1, e2, e3, ha, hb, keyLits_u64 _ n hn, keyLits_u64 _ m hm]
  rfl
end Go.Proofs.YtjehnejgojgahaaGreatDoor
