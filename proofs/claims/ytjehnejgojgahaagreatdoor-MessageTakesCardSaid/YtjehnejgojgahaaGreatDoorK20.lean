/-
  A part of the proof of MessageTakes: the texts T7 T8 T9 T10 T11 T12 T13.
-/
import Derived.Test.YtjehnejgojgahaaGreatDoorK10
import Derived.Test.YtjehnejgojgahaaGreatDoorK13
import Derived.Test.YtjehnejgojgahaaGreatDoorK18
import Derived.Deep.AppendLies
namespace Go.Proofs.YtjehnejgojgahaaGreatDoor
open Go.RowKit
set_option linter.unusedVariables false
set_option linter.unusedSimpArgs false
theorem TK.keep {X : Nat → Prop} {w w' : World} {g : Nat} {v : JV} {b : Bool} (h : TK X w g v b) (ho : Only (fun _ => False) w w') : TK X w' g v b := by
 obtain ⟨cs, hj, hb⟩ := h
 exact ⟨cs, hj.keep ho, hb.only ho id⟩
theorem TK.far {X : Nat → Prop} {w w' : World} {g : Nat} {v : JV} {b : Bool} {G : Nat → Prop} (h : TK X w g v b) (ho : Only G w w') (hG : ∀ i, i < w.heap.size → X i → ¬ G i) (hg : ¬ G g) : TK X w' g v b := by
 obtain ⟨cs, hj, hb⟩ := h
 exact ⟨cs, hj.only ho (fun i hi hx => ⟨hG i hi hx, hx⟩), hb.only ho hg⟩
theorem TK.mono {X Y : Nat → Prop} {w : World} {g : Nat} {v : JV} {b : Bool} (h : TK X w g v b) (hXY : ∀ i, i < w.heap.size → X i → Y i) : TK Y w g v b := by
 obtain ⟨cs, hj, hb⟩ := h
 exact ⟨cs, hj.mono hXY, hb⟩
theorem TK.cell5 {X : Nat → Prop} {w : World} {g : Nat} {v : JV} {b : Bool} (h : TK X w g v b) : w.cell? ⟨g, 5, none⟩ = some (.bool b) ∧ w.frozen? ⟨g, 5, none⟩ = false ∧ g < w.heap.size := by
 obtain ⟨cs, hj, hb⟩ := h
 refine ⟨hb.cell 5 ?_, hb.frozen 5, hb.lt⟩
 rw [List.getElem?_append_right (by rw [hj.len]; exact Nat.le_refl _), hj.len]; rfl
theorem TK.putb {X : Nat → Prop} {w : World} {g : Nat} {v : JV} {b : Bool} (h : TK X w g v b) (b' : Bool) (hX : ∀ i, X i → i ≠ g) : TK X (w.setCell ⟨g, 5, none⟩ (.bool b')) g v b' := by
 obtain ⟨cs, hj, hb⟩ := h
 refine ⟨cs, hj.only ((Only.refl (fun i => i = g) w).setCell (fun _ => rfl) _) (fun i hi hx => ⟨hX i hx, hx⟩), hb.set' 5 _ ?_⟩
 rw [List.set_append_right _ _ (by rw [hj.len]; exact Nat.le_refl _), hj.len]; rfl
theorem Only.setg {w w' : World} {g : Nat} (h : Only (· = g) w w') (v : Value) (i : Nat) : Only (· = g) w (w'.setCell ⟨g, i, none⟩ v) := h.setCell (fun _ => rfl) v
def bytesB (v : JV) (k : Bytes) : Option Bytes := take64 ((getB v k).getD JV0).str
def FreshB (H : Nat) (w : World) (A : Option Addr) (c : Nat) (l : Bytes) : Prop := BytesAt w A l ∧ l.length ≤ c ∧ ∀ b o, A = some ⟨b, o, none⟩ → H ≤ b
theorem FreshB.only {H : Nat} {w w' : World} {A : Option Addr} {c : Nat} {l : Bytes} {G : Nat → Prop} (h : FreshB H w A c l) (ho : Only G w w') (hG : ∀ i, H ≤ i → ¬ G i) : FreshB H w' A c l :=
 ⟨h.1.only ho (fun b o e => hG b (h.2.2 b o e)), h.2.1, h.2.2⟩
theorem FreshB.mono {H H' : Nat} {w : World} {A : Option Addr} {c : Nat} {l : Bytes} (h : FreshB H w A c l) (hH : H' ≤ H) : FreshB H' w A c l :=
 ⟨h.1, h.2.1, fun b o e => Nat.le_trans hH (h.2.2 b o e)⟩
theorem FreshB.nil (H : Nat) (w : World) (c : Nat) : FreshB H w none c [] := ⟨fun i x h => by simp at h, Nat.zero_le _, fun b o e => by cases e⟩
theorem T64At.parts {s : Bytes} {w : World} {e : Ending} {w' : World} (h : T64At s w e w') : Only (fun _ => False) w w' ∧ ∃ A c, FreshB w.heap.size w' A c ((take64 s).getD []) ∧ ((take64 s).getD []).length ≤ s.length ∧
  e = .returned (.tuple #[.slice A ((take64 s).getD []).length c, .int .i64 (if (take64 s).isNone = true then 5 else 0)]) := by
 obtain ⟨ho, h⟩ := h
 cases ht : take64 s with
 | none =>
  rw [ht] at h
  exact ⟨ho, none, 0, FreshB.nil _ _ _, Nat.zero_le _, h⟩
 | some l =>
  rw [ht] at h
  obtain ⟨A, c, he, hb, hc, hl, hf⟩ := h
  exact ⟨ho, A, c, ⟨hb, hc, hf⟩, hl, he⟩
def TBytAt (X : Nat → Prop) (g : Nat) (v : JV) (bad : Bool) (k : Bytes) (w : World) (e : Ending) (w' : World) : Prop :=
 Only (· = g) w w' ∧ TK X w' g v (bad || badG v k 4 || (bytesB v k).isNone) ∧ ∃ A c, e = .returned (.slice A ((bytesB v k).getD []).length c) ∧ FreshB w.heap.size w' A c ((bytesB v k).getD [])
set_option maxRecDepth 100000 in
set_option maxHeartbeats 1600000 in
theorem tbytes_any {X : Nat → Prop} {g : Nat} {v : JV} {bad : Bool} {k : Bytes} {w : World} (hX : ∀ b, X b → b ≠ g) (hT : TK X w g v bad) (hk : v.keys.length ≤ 3000000) (hl : v.list.length ≤ 3000000) (hs : ((getB v k).getD JV0).str.length ≤ 3000000) :
  Calls Tryz.prog 30 #[.pointer (some ⟨g, 0, none⟩), .string ⟨k.toArray⟩] w (TBytAt X g v bad k w) := by
 have hglt := hT.cell5.2.2
 have HGL := Lib.hid hglt
 have HV := Lib.hid (value_any (k := k) (kd := 4) hX hT hk hl)
 have HS := Lib.hid hs
 have hf1 := field79_1
 have HDO := Lib.hid (show ∀ (b : Bool) e w', b = (bad || badG v k 4) → Only (· = g) w w' → TK X w' g v (b || (bytesB v k).isNone) → (∃ A c, e = .returned (.slice A ((bytesB v k).getD []).length c) ∧ FreshB w.heap.size w' A c ((bytesB v k).getD [])) → TBytAt X g v bad k w e w' from
  fun b e w' hb ho ht hr => ⟨ho, by rw [← hb]; exact ht, hr⟩)
 have HBB := Lib.hid (show ∀ u, u = (getB v k).getD JV0 → bytesB v k = take64 u.str from fun u hu => by rw [hu]; rfl)
 have HX := Lib.hid hX
 clear hX hT hk hl hs hglt
 obtain ⟨b1, hb1⟩ : ∃ b, b = (bad || badG v k 4) := ⟨_, rfl⟩
 have HB1 := Lib.hid hb1
 clear hb1
 obtain ⟨ng, hng⟩ : ∃ q, q = (bytesB v k).isNone := ⟨_, rfl⟩
 have HNG := Lib.hid hng
 clear hng
 cases b1 <;> cases ng
 all_goals
  go_enter Tryz.func30, Tryz.ntmps30
  go_wp2_with (first
   | (go_at_call 64; refine HV.out.mono ?_; rintro e w1 h1; obtain ⟨ho1, ht1, u, A1, c1, B1, d1, hu, rfl, hj1⟩ := h1.five; rw [← HB1.out] at ht1; have HO1 := Lib.hid ho1; have HT1 := Lib.hid ht1; have HU := Lib.hid hu; clear ho1 ht1 h1 hj1 hu)
   | (go_at_call 66; refine (take64_any (s := u.str) (by rw [HU.out]; exact HS.out)).mono ?_; rintro e w2 h2; obtain ⟨ho2, A2, c2, hf2, hl2, rfl⟩ := h2.parts; rw [← HBB.out u HU.out] at hf2 ⊢; rw [← HNG.out]; have ht2 := HT1.out.keep ho2; obtain ⟨hc5, hz5, hg5⟩ := ht2.cell5; have HT2 := Lib.hid ht2; have HO2 := Lib.hid ho2; have HF2 := Lib.hid hf2; clear ho2 hf2 hl2 h2 ht2 hg5))
  go_ret
  refine HDO.out _ _ _ HB1.out ((HO1.out.trans (HO2.out.mono (fun i _ h => h.elim))).setg _ _) (by rw [← HNG.out]; exact HT2.out.putb _ HX.out) ⟨_, _, rfl, ?_⟩
  exact (HF2.out.mono HO1.out.size).only ((Only.refl (fun i => i = g) w2).setCell (fun _ => rfl) _) (fun i hi e => by have := HGL.out; omega)
def THashAt (X : Nat → Prop) (g : Nat) (v : JV) (bad : Bool) (k : Bytes) (w : World) (e : Ending) (w' : World) : Prop :=
 Only (· = g) w w' ∧ TK X w' g v (bad || badG v k 4 || (bytesB v k).isNone || !decide (((bytesB v k).getD []).length = 32)) ∧ e = .returned (.agg (u8s (digB ((bytesB v k).getD []))).toArray)
set_option maxRecDepth 100000 in
set_option maxHeartbeats 1600000 in
theorem thash_any {X : Nat → Prop} {g : Nat} {v : JV} {bad : Bool} {k : Bytes} {w : World} (hX : ∀ b, X b → b ≠ g) (hT : TK X w g v bad) (hk : v.keys.length ≤ 3000000) (hl : v.list.length ≤ 3000000) (hs : ((getB v k).getD JV0).str.length ≤ 3000000) :
  Calls Tryz.prog 27 #[.pointer (some ⟨g, 0, none⟩), .string ⟨k.toArray⟩] w (THashAt X g v bad k w) := by
 have hglt := hT.cell5.2.2
 have HGL := Lib.hid hglt
 have HX := Lib.hid (show ∀ b, (X b ∧ b < w.heap.size) → b ≠ g from fun b h => hX b h.1)
 have HT := Lib.hid (hT.mono (Y := fun b => X b ∧ b < w.heap.size) (fun i hi hx => ⟨hx, hi⟩))
 have HS := Lib.hid hs
 have HK := Lib.hid hk
 have HL := Lib.hid hl
 have HDO := Lib.hid (show ∀ (b ok : Bool) e w', b = (bad || badG v k 4 || (bytesB v k).isNone) → ok = decide (((bytesB v k).getD []).length = 32) → Only (· = g) w w' → TK X w' g v (b || !ok) → e = .returned (.agg (u8s (digB ((bytesB v k).getD []))).toArray) → THashAt X g v bad k w e w' from
  fun b ok e w' hb hok ho ht hr => ⟨ho, by rw [← hb, ← hok]; exact ht, hr⟩)
 clear hX hT hk hl hs hglt
 obtain ⟨b1, hb1⟩ : ∃ b, b = (bad || badG v k 4 || (bytesB v k).isNone) := ⟨_, rfl⟩
 have HB1 := Lib.hid hb1
 clear hb1
 obtain ⟨ok, hok⟩ : ∃ q, q = decide (((bytesB v k).getD []).length = 32) := ⟨_, rfl⟩
 have HOK := Lib.hid hok
 clear hok
 obtain ⟨bs, hbs⟩ : ∃ q, q = (bytesB v k).getD [] := ⟨_, rfl⟩
 have HBS := Lib.hid hbs
 rw [← hbs] at HDO HOK
 clear hbs
 have HRL := Lib.hid (digB_length bs)
 have HZL := Lib.hid (u8s_same (l := zero8 32) (m := digB bs) (by rw [zero8_length, digB_length]))
 cases b1 <;> cases ok
 all_goals
  go_enter Tryz.func27, Tryz.ntmps27
  go_wp2_with (first
   | (refine wpList_alloc_blk rfl 24 4 rfl rfl zero24 ?_; intro w1 hb1 ho1 hs1; have HA1 := Lib.hid hb1; have HO1 := Lib.hid ho1; have HT1 := Lib.hid (HT.out.keep ho1); have HSZ := Lib.hid hs1; clear hb1 ho1 hs1; generalize hH : w.heap.size = H at HA1 HSZ ⊢; have HH := Lib.hid hH; clear hH)
   | (go_at_call 30; refine (tbytes_any HX.out HT1.out HK.out HL.out HS.out).mono ?_; rintro e w2 ⟨ho2, ht2, A2, c2, rfl, hf2⟩; rw [← HB1.out] at ht2; rw [← HBS.out] at hf2 ⊢; have HO2 := Lib.hid ho2; have HT2 := Lib.hid ht2; have HF2 := Lib.hid hf2; have HA2 := Lib.hid (HA1.out.only ho2 (fun e => by have := HH.out; have := HGL.out; omega)); clear ho2 ht2 hf2)
   | (go_at_call 63; refine (digest_any (l := bs) HF2.out.1 HF2.out.2.1).mono ?_; rintro e w3 ⟨ho3, rfl⟩; rw [← HOK.out]; have HO3 := Lib.hid ho3; have HT3 := Lib.hid (HT2.out.keep ho3); have HA3 := Lib.hid (HA2.out.only ho3 id); clear ho3)
   | (refine wpList_alloc_blk rfl 24 5 rfl rfl zero24 ?_; intro w4 hb4 ho4 hs4; have HB4 := Lib.hid hb4; have HO4 := Lib.hid ho4; have HT4 := Lib.hid (HT3.out.keep ho4); have HA4 := Lib.hid (HA3.out.only ho4 id); have HLT := Lib.hid HA3.out.lt; have HG3 := Lib.hid HT3.out.cell5.2.2; have HS3 := Lib.hid (Nat.le_refl w3.heap.size); clear hb4 ho4 hs4; generalize hH4 : w3.heap.size = H4 at HB4 HLT HG3 ⊢; have HH4 := Lib.hid hH4; clear hH4)
   | (refine wpList_store_blk (cs := u8s (digB bs)) rfl 24 (.tmp 5) (.tmp 12) rfl rfl rfl rfl HB4.out HZL.out (info24s HRL.out) (u8s_one _) ?_; intro w5 hb5 ho5; have HB5 := Lib.hid hb5; have HO5 := Lib.hid ho5; have ht5 := HT4.out.far ho5 (fun i hi hx e => by have := hx.2; have := HH.out; have := HLT.out; omega) (fun e => by have := HG3.out; omega); have HT5 := Lib.hid ht5; have HA5 := Lib.hid (HA4.out.only ho5 (fun e => by have := HLT.out; omega)); obtain ⟨hc5, hz5, hg5⟩ := ht5.cell5; clear hb5 ho5 ht5 hg5)
   | (refine wpList_load_blk (cs := u8s (digB bs)) rfl 24 (.tmp 5) rfl rfl (HB5.out.far (by have := HG3.out; intro e; simp at e; omega) _) agg24 (info24s HRL.out) ?_)
   | (refine wpList_store_blk (cs := u8s (digB bs)) rfl 24 (.tmp 4) (.tmp 25) rfl rfl rfl rfl (HA5.out.far (by have := HH.out; have := HGL.out; intro e; simp at e; omega) _) HZL.out (info24s HRL.out) (u8s_one _) ?_; intro w7 hb7 ho7; have HB7 := Lib.hid hb7; have HO7 := Lib.hid ho7; clear hb7 ho7))
  refine bodyPost_ret (ret_cell rfl rfl HB7.out agg24 (info24s HRL.out)) rfl ?_
  refine HDO.out _ _ _ _ HB1.out HOK.out ?_ ?_ rfl
  ·have h1 : Only (fun _ => False) w w1 := HO1.out
   have h2 : Only (· = g) w w2 := (h1.mono (fun _ _ h => h.elim)).trans HO2.out
   have h3 : Only (· = g) w w3 := h2.trans (HO3.out.mono (fun _ _ h => h.elim))
   have h5 : Only (· = g) w w5 := (h3.trans (HO4.out.mono (fun _ _ h => h.elim))).then HO5.out (fun i hi e => by have := HH.out; have := HLT.out; omega)
   exact (h5.setg _ _).then HO7.out (fun i hi e => by have := HH.out; omega)
  ·exact ((HT5.out.putb _ HX.out).far HO7.out (fun i hi hx e => by have := hx.2; have := HH.out; omega) (fun e => by have := HH.out; have := HGL.out; omega)).mono (fun i hi hx => hx.1)
def TSigAt (X : Nat → Prop) (g : Nat) (v : JV) (bad : Bool) (k : Bytes) (w : World) (e : Ending) (w' : World) : Prop :=
 Only (· = g) w w' ∧ TK X w' g v (bad || badG v k 4 || (bytesB v k).isNone || !markB ((bytesB v k).getD [])) ∧ e = .returned (.agg (u8s (sigB ((bytesB v k).getD []))).toArray)
set_option maxRecDepth 100000 in
set_option maxHeartbeats 1600000 in
theorem tsig_any {X : Nat → Prop} {g : Nat} {v : JV} {bad : Bool} {k : Bytes} {w : World} (hX : ∀ b, X b → b ≠ g) (hT : TK X w g v bad) (hk : v.keys.length ≤ 3000000) (hl : v.list.length ≤ 3000000) (hs : ((getB v k).getD JV0).str.length ≤ 3000000) :
  Calls Tryz.prog 29 #[.pointer (some ⟨g, 0, none⟩), .string ⟨k.toArray⟩] w (TSigAt X g v bad k w) := by
 have hglt := hT.cell5.2.2
 have HGL := Lib.hid hglt
 have HX := Lib.hid (show ∀ b, (X b ∧ b < w.heap.size) → b ≠ g from fun b h => hX b h.1)
 have HT := Lib.hid (hT.mono (Y := fun b => X b ∧ b < w.heap.size) (fun i hi hx => ⟨hx, hi⟩))
 have HS := Lib.hid hs
 have HK := Lib.hid hk
 have HL := Lib.hid hl
 have HDO := Lib.hid (show ∀ (b ok : Bool) e w', b = (bad || badG v k 4 || (bytesB v k).isNone) → ok = markB ((bytesB v k).getD []) → Only (· = g) w w' → TK X w' g v (b || !ok) → e = .returned (.agg (u8s (sigB ((bytesB v k).getD []))).toArray) → TSigAt X g v bad k w e w' from
  fun b ok e w' hb hok ho ht hr => ⟨ho, by rw [← hb, ← hok]; exact ht, hr⟩)
 clear hX hT hk hl hs hglt
 obtain ⟨b1, hb1⟩ : ∃ b, b = (bad || badG v k 4 || (bytesB v k).isNone) := ⟨_, rfl⟩
 have HB1 := Lib.hid hb1
 clear hb1
 obtain ⟨ok, hok⟩ : ∃ q, q = markB ((bytesB v k).getD []) := ⟨_, rfl⟩
 have HOK := Lib.hid hok
 clear hok
 obtain ⟨bs, hbs⟩ : ∃ q, q = (bytesB v k).getD [] := ⟨_, rfl⟩
 have HBS := Lib.hid hbs
 rw [← hbs] at HDO HOK
 clear hbs
 have HRL := Lib.hid (sigB_length bs)
 have HZL := Lib.hid (u8s_same (l := zero8 64) (m := sigB bs) (by rw [zero8_length, sigB_length]))
 cases b1 <;> cases ok
 all_goals
  go_enter Tryz.func29, Tryz.ntmps29
  go_wp2_with (first
   | (refine wpList_alloc_blk rfl 26 4 rfl rfl zero26 ?_; intro w1 hb1 ho1 hs1; have HA1 := Lib.hid hb1; have HO1 := Lib.hid ho1; have HT1 := Lib.hid (HT.out.keep ho1); have HSZ := Lib.hid hs1; clear hb1 ho1 hs1; generalize hH : w.heap.size = H at HA1 HSZ ⊢; have HH := Lib.hid hH; clear hH)
   | (go_at_call 30; refine (tbytes_any HX.out HT1.out HK.out HL.out HS.out).mono ?_; rintro e w2 ⟨ho2, ht2, A2, c2, rfl, hf2⟩; rw [← HB1.out] at ht2; rw [← HBS.out] at hf2 ⊢; have HO2 := Lib.hid ho2; have HT2 := Lib.hid ht2; have HF2 := Lib.hid hf2; have HA2 := Lib.hid (HA1.out.only ho2 (fun e => by have := HH.out; have := HGL.out; omega)); clear ho2 ht2 hf2)
   | (go_at_call 65; refine (unmark_any (l := bs) HF2.out.1 HF2.out.2.1).mono ?_; rintro e w3 ⟨ho3, rfl⟩; rw [← HOK.out]; have HO3 := Lib.hid ho3; have HT3 := Lib.hid (HT2.out.keep ho3); have HA3 := Lib.hid (HA2.out.only ho3 id); clear ho3)
   | (refine wpList_alloc_blk rfl 26 5 rfl rfl zero26 ?_; intro w4 hb4 ho4 hs4; have HB4 := Lib.hid hb4; have HO4 := Lib.hid ho4; have HT4 := Lib.hid (HT3.out.keep ho4); have HA4 := Lib.hid (HA3.out.only ho4 id); have HLT := Lib.hid HA3.out.lt; have HG3 := Lib.hid HT3.out.cell5.2.2; have HS3 := Lib.hid (Nat.le_refl w3.heap.size); clear hb4 ho4 hs4; generalize hH4 : w3.heap.size = H4 at HB4 HLT HG3 ⊢; have HH4 := Lib.hid hH4; clear hH4)
   | (refine wpList_store_blk (cs := u8s (sigB bs)) rfl 26 (.tmp 5) (.tmp 12) rfl rfl rfl rfl HB4.out HZL.out (info26s HRL.out) (u8s_one _) ?_; intro w5 hb5 ho5; have HB5 := Lib.hid hb5; have HO5 := Lib.hid ho5; have ht5 := HT4.out.far ho5 (fun i hi hx e => by have := hx.2; have := HH.out; have := HLT.out; omega) (fun e => by have := HG3.out; omega); have HT5 := Lib.hid ht5; have HA5 := Lib.hid (HA4.out.only ho5 (fun e => by have := HLT.out; omega)); obtain ⟨hc5, hz5, hg5⟩ := ht5.cell5; clear hb5 ho5 ht5 hg5)
   | (refine wpList_load_blk (cs := u8s (sigB bs)) rfl 26 (.tmp 5) rfl rfl (HB5.out.far (by have := HG3.out; intro e; simp at e; omega) _) agg26 (info26s HRL.out) ?_)
   | (refine wpList_store_blk (cs := u8s (sigB bs)) rfl 26 (.tmp 4) (.tmp 25) rfl rfl rfl rfl (HA5.out.far (by have := HH.out; have := HGL.out; intro e; simp at e; omega) _) HZL.out (info26s HRL.out) (u8s_one _) ?_; intro w7 hb7 ho7; have HB7 := Lib.hid hb7; have HO7 := Lib.hid ho7; clear hb7 ho7))
  refine bodyPost_ret (ret_cell rfl rfl HB7.out agg26 (info26s HRL.out)) rfl ?_
  refine HDO.out _ _ _ _ HB1.out HOK.out ?_ ?_ rfl
  ·have h1 : Only (fun _ => False) w w1 := HO1.out
   have h2 : Only (· = g) w w2 := (h1.mono (fun _ _ h => h.elim)).trans HO2.out
   have h3 : Only (· = g) w w3 := h2.trans (HO3.out.mono (fun _ _ h => h.elim))
   have h5 : Only (· = g) w w5 := (h3.trans (HO4.out.mono (fun _ _ h => h.elim))).then HO5.out (fun i hi e => by have := HH.out; have := HLT.out; omega)
   exact (h5.setg _ _).then HO7.out (fun i hi e => by have := HH.out; omega)
  ·exact ((HT5.out.putb _ HX.out).far HO7.out (fun i hi hx e => by have := hx.2; have := HH.out; omega) (fun e => by have := HH.out; have := HGL.out; omega)).mono (fun i hi hx => hx.1)
theorem fold_set (l : List Value) : ∀ (k : Nat) (arr : Array Value), k + l.length = arr.size → ((l.zipIdx k).foldl (fun (cs : Array Value) (x : Value × Nat) => cs.setIfInBounds (0 + x.2) x.1) arr).toList = arr.toList.take k ++ l := by
 induction l with
 | nil => intro k arr h; simp at h; subst h; simp [List.take_of_length_le]
 | cons v l ih =>
  intro k arr h
  rw [List.zipIdx_cons, List.foldl_cons, ih (k + 1) _ (by simp at h ⊢; omega)]
  simp only [Nat.zero_add, Array.toList_setIfInBounds]
  simp only [List.length_cons] at h
  have hk : k < arr.toList.length := by simp; omega
  rw [List.set_eq_take_append_cons_drop, if_pos hk, List.take_append, List.take_take, List.length_take, Nat.min_eq_right (Nat.le_succ k), Nat.min_eq_left (Nat.le_of_lt hk)]
  rw [show k + 1 - k = 0 + 1 by omega, List.take_succ_cons, List.take_zero, List.append_assoc]
  rfl
section
variable {P : Program} {ops : Array Oper} {rest : List Oper} {o : Oper} {a : Act} {w : World} {Q : Exit → Act → World → Prop}
theorem wpList_slice1 (hg : o.guard = none) (t e : TypeId) (x : Operand) (ho : o.op = .buildSlice t 1 #[(0, x)]) {cs : List Value} {b size : Nat} {z : Value} (hu : P.underlying t = some (.slice e))
  (hi : (P.info? e).map (fun i => (i.zero, i.size, i.bytes)) = some (some z, size, b)) (hzs : z.cells.size = size) (hlen : 0 < size) (hle : size ≤ 1000) (hsize : cs.length = size) (hx : (a.eval x).cells = cs.toArray)
  (h : wpList P ops Q rest (a.put o.dst (.slice (some ⟨w.heap.size, 0, none⟩) 1 1)) (w.alloc (.cells cs.toArray e))) : wpList P ops Q (o :: rest) a w := by
 subst hsize
 obtain ⟨i0, hi0, hz0, hz1, hz2⟩ := info_parts hi
 refine wpList_buildSlice hg t e 1 _ ho cs.toArray i0 z hu hi0 hz0 (by rw [hz1]; omega) (by rw [hz1]; omega) ?_ h
 simp only [List.map_toArray, List.map_cons, List.map_nil, Instr.fill, hz1, hx, Nat.zero_mul, Nat.one_mul]
 rw [if_neg (by simp)]
 congr 1
 apply Array.toList_inj.1
 rw [← Array.foldl_toList]
 have := fold_set cs 0 ((Array.range cs.length).map (z.cells[· % z.cells.size]!)) (by simp)
 simp only [Array.toList_zipIdx]
 rw [this]
 simp
end
def EB (Y : Nat → Prop) (w : World) (l : Bytes) (cs : List Value) : Prop := ∃ A c, cs = [.slice A l.length c] ∧ BytesAt w A l ∧ l.length ≤ c ∧ (l ≠ [] → ∀ b o, A = some ⟨b, o, none⟩ → Y b)
def ED (Y : Nat → Prop) (w : World) (d : Bytes) (cs : List Value) : Prop := cs = u8s d ∧ d.length = 32
def EI (Y : Nat → Prop) (w : World) (p : Bytes × Bytes) (cs : List Value) : Prop := ∃ c1 c2, cs = c1 ++ c2 ∧ EB Y w p.1 c1 ∧ EB Y w p.2 c2
structure EncOK {α : Type} (size : Nat) (E : (Nat → Prop) → World → α → List Value → Prop) : Prop where
 len : ∀ {Y w a cs}, E Y w a cs → cs.length = size
 one : ∀ {Y w a cs}, E Y w a cs → cs.all (·.oneCell') = true
 only : ∀ {Y Y' : Nat → Prop} {G : Nat → Prop} {w w' a cs}, E Y w a cs → Only G w w' → (∀ b, b < w.heap.size → Y b → ¬ G b ∧ Y' b) → E Y' w' a cs
theorem BytesAt.blk_lt {w : World} {A : Option Addr} {l : Bytes} (h : BytesAt w A l) (hl : l ≠ []) : ∀ b o, A = some ⟨b, o, none⟩ → b < w.heap.size := by
 rintro b o rfl
 cases l with
 | nil => exact absurd rfl hl
 | cons x l =>
  obtain ⟨b', o', e, hc⟩ := h 0 x rfl
  cases e
  exact cell_lt hc
theorem BytesAt.only0 {w w' : World} {A : Option Addr} {l : Bytes} {G : Nat → Prop} (h : BytesAt w A l) (ho : Only G w w') (hg : l ≠ [] → ∀ b o, A = some ⟨b, o, none⟩ → ¬ G b) : BytesAt w' A l := by
 cases l with
 | nil => intro i x hx; simp at hx
 | cons x l => exact h.only ho (hg (by simp))
theorem encB : EncOK 1 EB where
 len := by rintro Y w a cs ⟨A, c, rfl, _⟩; rfl
 one := by rintro Y w a cs ⟨A, c, rfl, _⟩; rfl
 only := by
  rintro Y Y' G w w' a cs ⟨A, c, rfl, hb, hc, hy⟩ ho hG
  exact ⟨A, c, rfl, hb.only0 ho (fun hl b o e => (hG b (hb.blk_lt hl b o e) (hy hl b o e)).1), hc, fun hl b o e => (hG b (hb.blk_lt hl b o e) (hy hl b o e)).2⟩
theorem encD : EncOK 32 ED where
 len := by rintro Y w a cs ⟨rfl, h⟩; rw [u8s_length, h]
 one := by rintro Y w a cs ⟨rfl, h⟩; exact u8s_one a
 only := by rintro Y Y' G w w' a cs h _ _; exact h
theorem encI : EncOK 2 EI where
 len := by rintro Y w a cs ⟨c1, c2, rfl, h1, h2⟩; rw [List.length_append, encB.len h1, encB.len h2]
 one := by rintro Y w a cs ⟨c1, c2, rfl, h1, h2⟩; rw [List.all_append, encB.one h1, encB.one h2]; rfl
 only := by rintro Y Y' G w w' a cs ⟨c1, c2, rfl, h1, h2⟩ ho hG; exact ⟨c1, c2, rfl, encB.only h1 ho hG, encB.only h2 ho hG⟩
section
variable {α : Type} {size : Nat} {E : (Nat → Prop) → World → α → List Value → Prop}
def RowE (E : (Nat → Prop) → World → α → List Value → Prop) (size : Nat) (Y : Nat → Prop) (w : World) (l : List α) (xs : List Value) : Prop :=
 xs.length = l.length * size ∧ ∀ i a, l[i]? = some a → E Y w a ((xs.drop (size * i)).take size)
theorem RowE.nil (Y : Nat → Prop) (w : World) : RowE E size Y w [] [] := ⟨by simp, fun i a h => by simp at h⟩
theorem RowE.only (hE : EncOK size E) {Y Y' : Nat → Prop} {w w' : World} {G : Nat → Prop} {l : List α} {xs : List Value} (h : RowE E size Y w l xs) (ho : Only G w w') (hX : ∀ b, b < w.heap.size → Y b → ¬ G b ∧ Y' b) : RowE E size Y' w' l xs :=
 ⟨h.1, fun i a ha => hE.only (h.2 i a ha) ho hX⟩
theorem RowE.snoc (hE : EncOK size E) {Y : Nat → Prop} {w : World} {l : List α} {xs : List Value} {a : α} {cs : List Value} (h : RowE E size Y w l xs) (hv : E Y w a cs) : RowE E size Y w (l ++ [a]) (xs ++ cs) := by
 have hcs := hE.len hv
 refine ⟨by rw [List.length_append, List.length_append, h.1, hcs]; simp [Nat.add_mul], ?_⟩
 intro i u hu
 rcases Nat.lt_or_ge i l.length with hi | hi
 ·rw [List.getElem?_append_left hi] at hu
  have := h.2 i u hu
  have h3 : size * i + size ≤ l.length * size := by
   have : size * (i + 1) ≤ size * l.length := Nat.mul_le_mul_left _ hi
   rw [Nat.mul_add, Nat.mul_one, Nat.mul_comm size l.length] at this; exact this
  have hd : size * i ≤ xs.length := by rw [h.1]; omega
  rw [List.drop_append_of_le_length hd, List.take_append_of_le_length (by rw [List.length_drop, h.1]; omega)]
  exact this
 ·rw [List.getElem?_append_right hi] at hu
  have h0 : i - l.length = 0 := by
   rcases Nat.eq_zero_or_pos (i - l.length) with e | e
   ·exact e
   ·rw [List.getElem?_eq_none (by simp; omega)] at hu; cases hu
  rw [h0] at hu
  simp at hu
  subst hu
  obtain rfl : i = l.length := by omega
  rw [show size * l.length = xs.length by rw [h.1, Nat.mul_comm], List.drop_left, List.take_of_length_le (by rw [hcs]; exact Nat.le_refl _)]
  exact hv
def RowOwn (E : (Nat → Prop) → World → α → List Value → Prop) (size : Nat) (T : TypeId) (H : Nat) (w : World) (v : Value) (l : List α) : Prop :=
 ∃ xs, w.ownsRow H T size v l.length xs ∧ RowE E size (fun b => H ≤ b ∧ v.ownBlock ≠ some b) w l xs
theorem RowOwn.nil (T : TypeId) (H : Nat) (w : World) : RowOwn E size T H w (.slice none 0 0) [] := ⟨[], World.ownsRow_nil w H T size, RowE.nil _ _⟩
theorem RowOwn.only (hE : EncOK size E) {T : TypeId} {H : Nat} {w w' : World} {v : Value} {l : List α} {G : Nat → Prop} (h : RowOwn E size T H w v l) (ho : Only G w w') (hG : ∀ b, H ≤ b → b < w.heap.size → ¬ G b) : RowOwn E size T H w' v l := by
 obtain ⟨xs, h1, h2⟩ := h
 exact ⟨xs, own_only h1 ho (fun k hk => by have := World.ownsRow.lt h1 k hk; exact hG k this.1 this.2), h2.only hE ho (fun b hb hy => ⟨hG b hy.1 hb, hy⟩)⟩
theorem RowOwn.mono (hE : EncOK size E) {T : TypeId} {H H' : Nat} {w : World} {v : Value} {l : List α} (h : RowOwn E size T H w v l) (hH : H' ≤ H) : RowOwn E size T H' w v l := by
 obtain ⟨xs, h1, h2⟩ := h
 exact ⟨xs, own_mono h1 hH, h2.only hE (Only.refl (fun _ => False) w) (fun b hb hy => ⟨id, Nat.le_trans hH hy.1, hy.2⟩)⟩
theorem RowOwn.lt {T : TypeId} {H : Nat} {w : World} {v : Value} {l : List α} (h : RowOwn E size T H w v l) : ∀ k, v.ownBlock = some k → H ≤ k ∧ k < w.heap.size := by
 obtain ⟨xs, h1, _⟩ := h
 exact World.ownsRow.lt h1
theorem RowOwn.form {T : TypeId} {H : Nat} {w : World} {v : Value} {l : List α} (h : RowOwn E size T H w v l) : ∃ A c, v = .slice A l.length c := by
 obtain ⟨xs, h1, _⟩ := h
 rcases h1.2 with ⟨rfl, hn⟩ | ⟨g, cap, cur, rfl, _⟩
 ·exact ⟨none, 0, by rw [hn]⟩
 ·exact ⟨_, _, rfl⟩
theorem RowOwn.snoc (hE : EncOK size E) {T : TypeId} {H gg : Nat} {w w' : World} {v v' : Value} {l : List α} {a : α} {xs cs : List Value} (h : RowE E size (fun b => H ≤ b ∧ v.ownBlock ≠ some b) w l xs) (ha : E (fun b => H ≤ b ∧ v.ownBlock ≠ some b) w a cs)
  (ho : w'.ownsRow H T size v' (l.length + 1) (xs ++ cs)) (hg : w.grownBy w' v.ownBlock) (hgg : v'.ownBlock = some gg) (hor : v.ownBlock = some gg ∨ gg = w.heap.size) : RowOwn E size T H w' v' (l ++ [a]) := by
 refine ⟨xs ++ cs, by simpa using ho, ?_⟩
 refine (h.snoc hE ha).only hE (Only.ofGrown hg) ?_
 intro b hb hy
 refine ⟨hy.2, hy.1, ?_⟩
 rw [hgg]
 intro e
 cases e
 rcases hor with e | e
 ·exact hy.2 e
 ·omega
end
theorem FreshB.enc {H : Nat} {w : World} {A : Option Addr} {c : Nat} {l : Bytes} {Y : Nat → Prop} (h : FreshB H w A c l) (hY : ∀ b, H ≤ b → b < w.heap.size → Y b) : EB Y w l [.slice A l.length c] :=
 ⟨A, c, rfl, h.1, h.2.1, fun hl b o e => hY b (h.2.2 b o e) (h.1.blk_lt hl b o e)⟩
theorem wpList_appendE {ops : Array Oper} {rest : List Oper} {o : Oper} {a : Act} {w : World} {Q : Exit → Act → World → Prop} (hgd : o.guard = none) (s x : Operand) (t : TypeId) (ho : o.op = .call { callee := .builtin .append, args := #[s, x], argTypes := #[t, t] })
  {base size bytes n : Nat} {e : TypeId} {z v : Value} {xs : List Value} (ht : Tryz.prog.underlying t = some (.slice e)) (hi : (Tryz.prog.info? e).map (fun i => (i.zero, i.size, i.bytes)) = some (some z, size, bytes)) (hzs : z.cells.size = size) (hsz : 0 < size) (hby : bytes ≤ 1000)
  (hs : a.eval s = v) (hown : w.ownsRow base e size v n xs) {g0 c : Nat} (hx : a.eval x = .slice (some ⟨g0, 0, none⟩) 1 c) {news : List Value} {T : TypeId} (hB : Blk w g0 news T) (h5 : news.length = size) (h1 : news.all (·.oneCell') = true) (hn : n ≤ 3000000) (hbase : base ≤ w.heap.size)
  (h : ∀ gg cap w', w'.ownsRow base e size (.slice (some ⟨gg, 0, none⟩) (n + 1) cap) (n + 1) (xs ++ news) → w.grownBy w' v.ownBlock → (v.ownBlock = some gg ∨ gg = w.heap.size) → wpList Tryz.prog ops Q rest (a.put o.dst (.slice (some ⟨gg, 0, none⟩) (n + 1) cap)) w') :
  wpList Tryz.prog ops Q (o :: rest) a w := by
 obtain ⟨i0, hi, hz0, hz1, hz2⟩ := info_parts hi
 have hb2 : (n + 1) * bytes ≤ 3000001 * 1000 := Nat.mul_le_mul (by omega) hby
 exact wpList_append_lies w hgd s x t ho base e i0 _ size bytes ht hi hz0 hz1 hz2 hzs hsz v n xs hs hown ⟨g0, 0, none⟩ 1 c news hx (by simpa using h5) (news_of hB) (by simpa using h1) (by decide) (by unfold maxLen; omega) (by omega) hbase _ rfl (fun g cap w' h1 h2 h3 _ => h g cap w' h1 h2 h3)
def okB (k : Nat) (s : Bytes) : Bool := decide (k = 4) && (take64 s).isSome
def OneBAt (k : Nat) (s : Bytes) (w : World) (e : Ending) (w' : World) : Prop :=
 Only (fun _ => False) w w' ∧ ∃ A c, FreshB w.heap.size w' A c ((take64 s).getD []) ∧ e = .returned (.tuple #[.slice A ((take64 s).getD []).length c, .bool (okB k s)])
set_option maxRecDepth 100000 in
set_option maxHeartbeats 1600000 in
theorem oneBytes_any {k n : Nat} {s : Bytes} {A B : Option Addr} {a b c d : Nat} {w : World} (hs : s.length ≤ 3000000) :
  Calls Tryz.prog 72 #[.agg #[.int .i64 k, txt s, .int .u64 n, .slice A a c, .slice B b d]] w (OneBAt k s w) := by
 have HS := Lib.hid hs
 have HDO := Lib.hid (show ∀ (kk nn : Bool) e w', kk = decide (k = 4) → nn = (take64 s).isNone → Only (fun _ => False) w w' → (∃ A c, FreshB w.heap.size w' A c ((take64 s).getD []) ∧ e = .returned (.tuple #[.slice A ((take64 s).getD []).length c, .bool (kk && !nn)])) → OneBAt k s w e w' from by
  rintro kk nn e w' hk hn ho ⟨A, c, hf, rfl⟩
  refine ⟨ho, A, c, hf, ?_⟩
  rw [hk, hn]
  unfold okB
  cases take64 s <;> rfl)
 clear hs
 unfold txt
 obtain ⟨nn, hnn⟩ : ∃ q, q = (take64 s).isNone := ⟨_, rfl⟩
 have HNN := Lib.hid hnn
 clear hnn
 obtain ⟨kk, hkk⟩ : ∃ q, q = decide (k = 4) := ⟨_, rfl⟩
 have HKK := Lib.hid hkk
 have qk : ((k : Int) == 4) = kk := by
  rw [hkk]
  by_cases h : k = 4
  ·subst h; rfl
  ·have : ¬ (k : Int) = 4 := by omega
   simp [h, this]
 have qk2 : decide ((k : Int) = 4) = kk := by rw [← qk]; rfl
 clear hkk
 cases kk <;> cases nn
 all_goals
  go_enter Tryz.func72, Tryz.ntmps72
  go_wp2_with (go_at_call 66; refine (take64_any (s := s) HS.out).mono ?_; rintro e w2 h2; obtain ⟨ho2, A2, c2, hf2, hl2, rfl⟩ := h2.parts; rw [← HNN.out]; have HO2 := Lib.hid ho2; have HF2 := Lib.hid hf2; have hb0 := ((Blk.new w [.int .i64 k, .string ⟨s.toArray⟩, .int .u64 n, .slice A a c, .slice B b d] 79).only ho2 id).cell 0 rfl; clear ho2 hf2 hl2 h2)
  go_ret2
  exact HDO.out _ _ _ _ HKK.out HNN.out (((Only.refl _ w).alloc _).trans HO2.out) ⟨_, _, HF2.out.mono (by simp), rfl⟩
def okH (k : Nat) (s : Bytes) : Bool := okB k s && decide (((take64 s).getD []).length = 32)
def OneHAt (k : Nat) (s : Bytes) (w : World) (e : Ending) (w' : World) : Prop :=
 Only (fun _ => False) w w' ∧ e = .returned (.tuple #[.agg (u8s (digB ((take64 s).getD []))).toArray, .bool (okH k s)])
set_option maxRecDepth 100000 in
set_option maxHeartbeats 1600000 in
theorem oneHash_any {k n : Nat} {s : Bytes} {A B : Option Addr} {a b c d : Nat} {w : World} (hs : s.length ≤ 3000000) :
  Calls Tryz.prog 40 #[.agg #[.int .i64 k, txt s, .int .u64 n, .slice A a c, .slice B b d]] w (OneHAt k s w) := by
 have HS := Lib.hid hs
 obtain ⟨bs, hbs⟩ : ∃ q, q = (take64 s).getD [] := ⟨_, rfl⟩
 have HBS := Lib.hid hbs
 have HDO := Lib.hid (show ∀ (kk nn : Bool) e w', kk = okB k s → nn = decide (bs.length = 32) → Only (fun _ => False) w w' → e = .returned (.tuple #[.agg (u8s (digB bs)).toArray, .bool (kk && nn)]) → OneHAt k s w e w' from by
  rintro kk nn e w' hk hn ho rfl
  refine ⟨ho, ?_⟩
  rw [hk, hn, ← hbs]
  unfold okH
  rw [← hbs])
 clear hs hbs
 unfold txt
 obtain ⟨nn, hnn⟩ : ∃ q, q = decide (bs.length = 32) := ⟨_, rfl⟩
 have HNN := Lib.hid hnn
 clear hnn
 obtain ⟨kk, hkk⟩ : ∃ q, q = okB k s := ⟨_, rfl⟩
 have HKK := Lib.hid hkk
 clear hkk
 have HRL := Lib.hid (digB_length bs)
 have HZL := Lib.hid (u8s_same (l := zero8 32) (m := digB bs) (by rw [zero8_length, digB_length]))
 cases kk <;> cases nn
 all_goals
  go_enter Tryz.func40, Tryz.ntmps40
  go_wp2_with (first
   | (refine wpList_alloc_blk rfl 24 2 rfl rfl zero24 ?_; intro w1 hb1 ho1 hs1; have hv1 := ((Blk.new w [.int .i64 k, .string ⟨s.toArray⟩, .int .u64 n, .slice A a c, .slice B b d] 79).only ho1 id); have HV1 := Lib.hid hv1; have HA1 := Lib.hid hb1; have HO1 := Lib.hid (((Only.refl _ w).alloc _).trans ho1); have HSZ := Lib.hid (show (w.alloc (Obj.cells #[.int .i64 k, .string ⟨s.toArray⟩, .int .u64 n, .slice A a c, .slice B b d] 79)).heap.size = w.heap.size + 1 by simp); clear hb1 ho1 hs1 hv1; generalize hH : (w.alloc (Obj.cells #[.int .i64 k, .string ⟨s.toArray⟩, .int .u64 n, .slice A a c, .slice B b d] 79)).heap.size = H at HA1 HSZ ⊢; have HH := Lib.hid hH; clear hH)
   | (refine wpList_load_blk rfl 79 (.tmp 1) rfl rfl HV1.out agg79 info79s ?_)
   | (go_at_call 72; refine (oneBytes_any HS.out).mono ?_; rintro e w2 ⟨ho2, A2, c2, hf2, rfl⟩; rw [← HKK.out]; rw [← HBS.out] at hf2 ⊢; have HO2 := Lib.hid ho2; have HF2 := Lib.hid hf2; have HA2 := Lib.hid (HA1.out.only ho2 id); clear ho2 hf2)
   | (go_at_call 63; refine (digest_any (l := bs) HF2.out.1 HF2.out.2.1).mono ?_; rintro e w3 ⟨ho3, rfl⟩; rw [← HNN.out]; have HO3 := Lib.hid ho3; have HA3 := Lib.hid (HA2.out.only ho3 id); clear ho3)
   | (refine wpList_alloc_blk rfl 24 6 rfl rfl zero24 ?_; intro w4 hb4 ho4 hs4; have HB4 := Lib.hid hb4; have HO4 := Lib.hid ho4; have HA4 := Lib.hid (HA3.out.only ho4 id); have HLT := Lib.hid HA3.out.lt; clear hb4 ho4 hs4; generalize hH4 : w3.heap.size = H4 at HB4 HLT ⊢; have HH4 := Lib.hid hH4; clear hH4)
   | (refine wpList_store_blk (cs := u8s (digB bs)) rfl 24 (.tmp 6) (.tmp 16) rfl rfl rfl rfl HB4.out HZL.out (info24s HRL.out) (u8s_one _) ?_; intro w5 hb5 ho5; have HB5 := Lib.hid hb5; have HO5 := Lib.hid ho5; have HA5 := Lib.hid (HA4.out.only ho5 (fun e => by have := HLT.out; omega)); clear hb5 ho5)
   | (refine wpList_load_blk (cs := u8s (digB bs)) rfl 24 (.tmp 6) rfl rfl HB5.out agg24 (info24s HRL.out) ?_)
   | (refine wpList_store_blk (cs := u8s (digB bs)) rfl 24 (.tmp 2) (.tmp 18) rfl rfl rfl rfl HA5.out HZL.out (info24s HRL.out) (u8s_one _) ?_; intro w7 hb7 ho7; have HB7 := Lib.hid hb7; have HO7 := Lib.hid ho7; clear hb7 ho7))
  refine bodyPost_ret (ret_cell_tmp rfl rfl HB7.out agg24 (info24s HRL.out)) rfl ?_
  refine HDO.out _ _ _ _ HKK.out HNN.out ?_ rfl
  have h3 : Only (fun _ => False) w w3 := (HO1.out.trans HO2.out).trans HO3.out
  have h5 : Only (fun _ => False) w w5 := (h3.trans HO4.out).then HO5.out (fun i hi e => by have := h3.size; have := HH4.out; omega)
  exact h5.then HO7.out (fun i hi e => by have := HSZ.out; omega)
def nLeaf : Bytes := [108, 101, 97, 102, 95, 105, 110, 112, 117, 116]
def nExtra : Bytes := [101, 120, 116, 114, 97, 95, 100, 97, 116, 97]
def badI (v : JV) : Bool := badN v (bad0 v [nLeaf, nExtra]) [nLeaf, nExtra] || badG v nLeaf 4 || (bytesB v nLeaf).isNone || badG v nExtra 4 || (bytesB v nExtra).isNone
def leafB (v : JV) : Bytes := (bytesB v nLeaf).getD []
def extraB (v : JV) : Bytes := (bytesB v nExtra).getD []
def OneIAt (v : JV) (w : World) (e : Ending) (w' : World) : Prop :=
 Only (fun _ => False) w w' ∧ ∃ A c B d, FreshB w.heap.size w' A c (leafB v) ∧ FreshB w.heap.size w' B d (extraB v) ∧
  e = .returned (.tuple #[.agg #[.slice A (leafB v).length c, .slice B (extraB v).length d], .bool (!badI v)])
theorem strsAt2 {w : World} {g : Nat} {a b : Bytes} {T : TypeId} (h : Blk w g [txt a, txt b] T) : StrsAt w (some ⟨g, 0, none⟩) [a, b] := by
 intro i t ht
 refine ⟨g, 0, rfl, ?_⟩
 match i, ht with
 | 0, ht => simp at ht; subst ht; exact h.cell 0 rfl
 | 1, ht => simp at ht; subst ht; exact h.cell 1 rfl
structure IMid (w : World) (cs : List Value) (R N : Nat) (W : World) : Prop where
 only : Only (fun _ => False) w W
 val : Blk W w.heap.size cs 79
 res : Blk W R [.slice none 0 0, .slice none 0 0] 105
 low : w.heap.size ≤ R
 ltR : R < W.heap.size
theorem take2 {X : Nat → Prop} {v : JV} {k n a b : Nat} {s : Bytes} {A B : Option Addr} {c d : Nat} {W : World} (hj : JIs X W v (cells5 k s n (.slice A a c) (.slice B b d))) (hX : ∀ b, X b → b < W.heap.size) (hl : v.keys.length ≤ 3000000) :
  Calls Tryz.prog 62 #[.agg #[.int .i64 k, .string ⟨s.toArray⟩, .int .u64 n, .slice A a c, .slice B b d], .slice (some ⟨W.heap.size, 0, none⟩) 2 2] (W.alloc (.cells #[.string ⟨#[108, 101, 97, 102, 95, 105, 110, 112, 117, 116]⟩, .string ⟨#[101, 120, 116, 114, 97, 95, 100, 97, 116, 97]⟩] 9))
   (TakeAt X v (badN v (bad0 v [nLeaf, nExtra]) [nLeaf, nExtra]) (W.alloc (.cells #[.string ⟨#[108, 101, 97, 102, 95, 105, 110, 112, 117, 116]⟩, .string ⟨#[101, 120, 116, 114, 97, 95, 100, 97, 116, 97]⟩] 9))) :=
 take_any (ns := [nLeaf, nExtra]) (c := 2) (hj.keep ((Only.refl _ W).alloc _)) (strsAt2 (Blk.new W [txt nLeaf, txt nExtra] 9)) (by simp) (fun b hb => by have := hX b hb; simp; omega) hl
theorem tbytes_leaf {X : Nat → Prop} {g : Nat} {v : JV} {bad : Bool} {w : World} (hX : ∀ b, X b → b ≠ g) (hT : TK X w g v bad) (hk : v.keys.length ≤ 3000000) (hl : v.list.length ≤ 3000000) (hs : ((getB v nLeaf).getD JV0).str.length ≤ 3000000) :
  Calls Tryz.prog 30 #[.pointer (some ⟨g, 0, none⟩), .string ⟨#[108, 101, 97, 102, 95, 105, 110, 112, 117, 116]⟩] w (TBytAt X g v bad nLeaf w) := tbytes_any (k := nLeaf) hX hT hk hl hs
theorem tbytes_extra {X : Nat → Prop} {g : Nat} {v : JV} {bad : Bool} {w : World} (hX : ∀ b, X b → b ≠ g) (hT : TK X w g v bad) (hk : v.keys.length ≤ 3000000) (hl : v.list.length ≤ 3000000) (hs : ((getB v nExtra).getD JV0).str.length ≤ 3000000) :
  Calls Tryz.prog 30 #[.pointer (some ⟨g, 0, none⟩), .string ⟨#[101, 120, 116, 114, 97, 95, 100, 97, 116, 97]⟩] w (TBytAt X g v bad nExtra w) := tbytes_any (k := nExtra) hX hT hk hl hs
theorem info105 : (Tryz.prog.info? 105).map (·.size) = some 2 := by kernel_rfl
theorem agg105 : (Tryz.prog.underlying 105).map aggD = some true := by kernel_rfl
set_option maxRecDepth 100000 in
set_option maxHeartbeats 1600000 in
theorem oneItem_any {X : Nat → Prop} {v : JV} {k n a b : Nat} {s : Bytes} {A B : Option Addr} {c d : Nat} {w : World} (hj : JIs X w v (cells5 k s n (.slice A a c) (.slice B b d))) (hl : v.keys.length ≤ 3000000) (hll : v.list.length ≤ 3000000)
  (h1 : ((getB v nLeaf).getD JV0).str.length ≤ 3000000) (h2 : ((getB v nExtra).getD JV0).str.length ≤ 3000000) :
  Calls Tryz.prog 44 #[.agg #[.int .i64 k, txt s, .int .u64 n, .slice A a c, .slice B b d]] w (OneIAt v w) := by
 have HJ := Lib.hid (hj.mono (Y := fun b => b < w.heap.size) (fun b hb _ => hb))
 have HL := Lib.hid hl
 have HLL := Lib.hid hll
 have HS1 := Lib.hid h1
 have HS2 := Lib.hid h2
 clear hj hl hll h1 h2
 unfold txt
 go_enter Tryz.func44, Tryz.ntmps44
 go_upto_region 1 with fail
 refine wp_gen0 (fun W => IMid w [.int .i64 k, .string ⟨s.toArray⟩, .int .u64 n, .slice A a c, .slice B b d] (w.heap.size + 1) 0 W) (by
  refine ⟨((Only.refl _ w).alloc _).alloc _, (Blk.new w _ 79).alloc _, ?_, by omega, by simp⟩
  have := Blk.new (w.alloc (Obj.cells #[.int .i64 k, .string ⟨s.toArray⟩, .int .u64 n, .slice A a c, .slice B b d] 79)) [.slice none 0 0, .slice none 0 0] 105
  rw [World.size_alloc] at this; exact this) ?_
 intro W1 hm1
 obtain ⟨R, hR⟩ : ∃ R, R = w.heap.size + 1 := ⟨_, rfl⟩
 rw [← hR] at hm1 ⊢
 have HRR := Lib.hid hR
 have HM := Lib.hid hm1
 clear hR hm1
 obtain ⟨b0, hb0⟩ : ∃ b, b = badN v (bad0 v [nLeaf, nExtra]) [nLeaf, nExtra] := ⟨_, rfl⟩
 have HB0 := Lib.hid hb0
 clear hb0
 go_upto_region 4 with (first
  | (refine wpList_load_blk rfl 79 (.tmp 1) rfl rfl HM.out.val agg79 info79s ?_)
  | (go_at_call 62; refine (take2 (X := fun b => b < w.heap.size) (v := v) (HJ.out.keep HM.out.only) (fun b hb => Nat.lt_of_lt_of_le hb HM.out.only.size) HL.out).mono ?_; rintro e w3 ⟨ho3, g, rfl, hg, htk⟩; rw [← HB0.out] at htk; have HO3 := Lib.hid (((Only.refl _ W1).alloc _).trans ho3); have HG := Lib.hid (show W1.heap.size < g by have := hg; simp at this; omega); have HT3 := Lib.hid htk; clear ho3 hg htk)
  | (go_at_call 30; refine (tbytes_extra (fun b hb => by have := HM.out.only.size; have := HG.out; omega) HT4.out HL.out HLL.out HS2.out).mono ?_; rintro e w5 ⟨ho5, ht5, A5, c5, rfl, hf5⟩; have HO5 := Lib.hid ho5; have HT5 := Lib.hid ht5; have HF5 := Lib.hid hf5; clear ho5 ht5 hf5)
  | (go_at_call 30; refine (tbytes_leaf (fun b hb => by have := HM.out.only.size; have := HG.out; omega) HT3.out HL.out HLL.out HS1.out).mono ?_; rintro e w4 ⟨ho4, ht4, A4, c4, rfl, hf4⟩; have HO4 := Lib.hid ho4; have HT4 := Lib.hid ht4; have HF4 := Lib.hid hf4; clear ho4 ht4 hf4))
 have hltg := HT3.out.cell5.2.2
 have hr3 : Blk w3 R [.slice none 0 0, .slice none 0 0] 105 := HM.out.res.only HO3.out id
 have hgR : g ≠ R := by have := HG.out; have := HM.out.ltR; omega
 have hr5 : Blk w5 R [.slice none 0 0, .slice none 0 0] 105 := (hr3.only HO4.out hgR.symm).only HO5.out hgR.symm
 have hgR2 : ¬ g = R := hgR
 have hRg : ¬ R = g := fun e => hgR e.symm
 obtain ⟨hc5, hz5, hg5⟩ := HT5.out.cell5
 have r0 := hr5.cell 0 rfl
 have r1 := hr5.cell 1 rfl
 have f0 := hr5.frozen 0
 have f1 := hr5.frozen 1
 have HR5 := Lib.hid hr5
 have HGR := Lib.hid hgR
 have HLG := Lib.hid hltg
 clear hltg hr3 hr5 hg5 hgR
 obtain ⟨bb, hbb⟩ : ∃ bb, bb = (b0 || badG v nLeaf 4 || (bytesB v nLeaf).isNone || badG v nExtra 4 || (bytesB v nExtra).isNone) := ⟨_, rfl⟩
 rw [← hbb] at hc5
 have HBB := Lib.hid hbb
 clear hbb
 go_region
 obtain ⟨w6, hw6⟩ : ∃ w6, ((w5.setCell ⟨R, 0, none⟩ (.slice A4 (List.length ((bytesB v nLeaf).getD [])) c4)).setCell ⟨R, 1, none⟩ (.slice A5 (List.length ((bytesB v nExtra).getD [])) c5)).drew = w6 := ⟨_, rfl⟩
 have hb6 : Blk w6 R [.slice A4 (List.length ((bytesB v nLeaf).getD [])) c4, .slice A5 (List.length ((bytesB v nExtra).getD [])) c5] 105 := by
  rw [← hw6]; exact ((HR5.out.set' 0 _ rfl).set' 1 _ rfl).drew
 have ho6 : Only (fun i => i = R) w5 w6 := by rw [← hw6]; exact (((Only.refl (fun i => i = R) w5).setCell (p := ⟨R, 0, none⟩) (fun _ => rfl) _).setCell (p := ⟨R, 1, none⟩) (fun _ => rfl) _).drew
 rw [hw6]
 have HB6 := Lib.hid hb6
 have HO6 := Lib.hid ho6
 clear hb6 ho6 hw6 r0 r1 f0 f1 hc5 hz5 hgR2 hRg
 go_wp2
 refine bodyPost_ret (ret_cell_tmp rfl rfl HB6.out agg105 info105) rfl ?_
 have o3 : Only (fun _ => False) w w3 := HM.out.only.trans HO3.out
 have s13 := HM.out.only.size
 have s3 := o3.size
 have s4 := HO4.out.size
 have hgw : w.heap.size ≤ g := by have := HG.out; omega
 have o5 : Only (fun _ => False) w w5 := (o3.then HO4.out (fun i hi e => by omega)).then HO5.out (fun i hi e => by omega)
 refine ⟨o5.then HO6.out (fun i hi e => by have := HM.out.low; omega), A4, c4, A5, c5, ?_, ?_, ?_⟩
 ·exact ((HF4.out.only HO5.out (fun i hi e => by have := HLG.out; omega)).only HO6.out (fun i hi e => by have := HM.out.ltR; have := HG.out; have := HLG.out; omega)).mono s3
 ·exact (HF5.out.only HO6.out (fun i hi e => by have := HM.out.ltR; have := HG.out; have := HLG.out; omega)).mono (Nat.le_trans s3 s4)
 ·have e : badI v = bb := by rw [HBB.out, HB0.out]; rfl
  rw [e]; rfl
theorem field79_3 (k : Int) (s : ByteArray) (n : Int) (A B : Option Addr) (a b c d : Nat) (w : World) : (Instr.field 79 (.agg #[.int .i64 k, .string s, .int .u64 n, .slice A a c, .slice B b d]) 3).run Tryz.prog w = .ok (.slice A a c) w := by kernel_rfl
def SmE (u : JV) : Prop := u.str.length ≤ 3000000 ∧ u.keys.length ≤ 3000000 ∧ u.list.length ≤ 3000000 ∧ ((getB u nLeaf).getD JV0).str.length ≤ 3000000 ∧ ((getB u nExtra).getD JV0).str.length ≤ 3000000
theorem JIs.elem {X : Nat → Prop} {w : World} {u : JV} {k n a b c d : Nat} {s : Bytes} {A B : Option Addr} (h : JIs X w u (cells5 k s n (.slice A a c) (.slice B b d))) {i : Nat} {x : JV} (hx : u.list[i]? = some x) :
  ∃ A2 c2 B2 d2, JIs X w x (cells5 x.kind x.str x.num (.slice A2 x.list.length c2) (.slice B2 x.keys.length d2)) ∧ LieAt X w A 5 i (cells5 x.kind x.str x.num (.slice A2 x.list.length c2) (.slice B2 x.keys.length d2)) := by
 generalize hC : cells5 k s n (.slice A a c) (.slice B b d) = C at h
 cases h with
 | @mk k' s' n' l' ks' A' B' c' d' cs hl h5 hc hk =>
  unfold cells5 at hC
  simp only [List.cons.injEq, Value.slice.injEq, and_true] at hC
  obtain ⟨_, _, _, ⟨rfl, _, _⟩, _⟩ := hC
  obtain ⟨A2, c2, B2, d2, e⟩ := (hl i x hx).form
  refine ⟨A2, c2, B2, d2, ?_, ?_⟩
  ·rw [← e]; exact hl i x hx
  ·rw [← e]; exact hc i x hx
structure Stop (p : Prop) : Prop where
 h : p
theorem stop_append {P : Program} {ops : Array Oper} {Q : Exit → Act → World → Prop} {rest : List Oper} {o : Oper} {a : Act} {w : World} {t : TypeId} {args : Array Operand} (ho : o.op = .call { callee := .builtin .append, args := args, argTypes := #[t, t] }) (h : Stop (wpList P ops Q (o :: rest) a w)) : wpList P ops Q (o :: rest) a w := h.h
structure EachI {α : Type} (E : (Nat → Prop) → World → α → List Value → Prop) (size : Nat) (T : TypeId) (X : Nat → Prop) (g H : Nat) (v : JV) (b : Bool) (w1 wr : World) (rv : Value) (ys : List α) : Prop where
 tk : TK X wr g v b
 row : RowOwn E size T H wr rv ys
 only : Only (· = g) w1 wr
def eachBad (ok : JV → Bool) (l : List JV) : Bool := l.any fun u => !ok u
theorem eachBad_snoc (ok : JV → Bool) (l : List JV) (u : JV) : eachBad ok (l ++ [u]) = (eachBad ok l || !ok u) := by unfold eachBad; simp
theorem take_snoc {α : Type} {l : List α} {j : Nat} {x : α} (h : l[j]? = some x) : l.take (j + 1) = l.take j ++ [x] := by rw [List.take_add_one, h]; rfl
def EachAt {α : Type} (E : (Nat → Prop) → World → α → List Value → Prop) (size : Nat) (T : TypeId) (val : JV → α) (ok : JV → Bool) (X : Nat → Prop) (g : Nat) (v : JV) (bad : Bool) (k : Bytes) (w : World) (e : Ending) (w' : World) : Prop :=
 Only (· = g) w w' ∧ TK X w' g v (bad || badG v k 5 || eachBad ok ((getB v k).getD JV0).list) ∧ ∃ rv, e = .returned rv ∧ RowOwn E size T w.heap.size w' rv (((getB v k).getD JV0).list.map val)
theorem info22e : (Tryz.prog.info? 22).map (fun i => (i.zero, i.size, i.bytes)) = some (some (.slice none 0 0), 1, 24) := by kernel_rfl
theorem info24e : (Tryz.prog.info? 24).map (fun i => (i.zero, i.size, i.bytes)) = some (some (.agg (u8s (zero8 32)).toArray), 32, 32) := by kernel_rfl
theorem info105e : (Tryz.prog.info? 105).map (fun i => (i.zero, i.size, i.bytes)) = some (some (.agg #[.slice none 0 0, .slice none 0 0]), 2, 48) := by kernel_rfl
theorem under113 : Tryz.prog.underlying 113 = some (.slice 22) := by kernel_rfl
theorem under40 : Tryz.prog.underlying 40 = some (.slice 24) := by kernel_rfl
theorem under50 : Tryz.prog.underlying 50 = some (.slice 105) := by kernel_rfl
def elB (u : JV) : Bytes := (take64 u.str).getD []
def elH (u : JV) : Bytes := digB (elB u)
def elI (u : JV) : Bytes × Bytes := (leafB u, extraB u)
def okB' (u : JV) : Bool := okB u.kind u.str
def okH' (u : JV) : Bool := okH u.kind u.str
def okI' (u : JV) : Bool := !badI u
def OneE {α : Type} (E : (Nat → Prop) → World → α → List Value → Prop) (val : JV → α) (ok : JV → Bool) (x : JV) (w : World) (e : Ending) (w' : World) : Prop :=
 Only (fun _ => False) w w' ∧ ∃ y cs, e = .returned (.tuple #[y, .bool (ok x)]) ∧ y.cells = cs.toArray ∧ E (fun b => w.heap.size ≤ b) w' (val x) cs
theorem one_bytes {X : Nat → Prop} {x : JV} {A B : Option Addr} {c d : Nat} {w : World} (hj : JIs X w x (cells5 x.kind x.str x.num (.slice A x.list.length c) (.slice B x.keys.length d))) (hs : SmE x) :
  Calls Tryz.prog 72 #[.agg (cells5 x.kind x.str x.num (.slice A x.list.length c) (.slice B x.keys.length d)).toArray] w (OneE EB elB okB' x w) := by
 refine (oneBytes_any hs.1).mono ?_
 rintro e w' ⟨ho, A2, c2, hf, rfl⟩
 exact ⟨ho, _, [.slice A2 (elB x).length c2], rfl, rfl, hf.enc (fun b hb _ => hb)⟩
set_option maxRecDepth 100000 in
set_option maxHeartbeats 3200000 in
theorem each_bytes {X : Nat → Prop} {g : Nat} {v : JV} {bad : Bool} {k : Bytes} {w : World} (hX : ∀ b, X b → b ≠ g) (hT : TK X w g v bad) (hk : v.keys.length ≤ 3000000) (hl : v.list.length ≤ 3000000) (hn : ((getB v k).getD JV0).list.length ≤ 3000000)
  (hs : ∀ x ∈ ((getB v k).getD JV0).list, SmE x) :
  Calls Tryz.prog 74 #[.pointer (some ⟨g, 0, none⟩), .string ⟨k.toArray⟩, .func (.func 72) #[] #[]] w (EachAt EB 1 22 elB okB' X g v bad k w) := by
 have hglt := hT.cell5.2.2
 have HGL := Lib.hid hglt
 have hX' : ∀ b, (X b ∧ b < w.heap.size) → b ≠ g := fun b h => hX b h.1
 have HX := Lib.hid hX'
 have HV := Lib.hid (value_any (k := k) (kd := 5) hX' (hT.mono (Y := fun b => X b ∧ b < w.heap.size) (fun i hi hx => ⟨hx, hi⟩)) hk hl)
 have HS := Lib.hid hs
 have HN := Lib.hid hn
 have hf3 := field79_3
 obtain ⟨b1, hb1⟩ : ∃ b, b = (bad || badG v k 5) := ⟨_, rfl⟩
 have HB1 := Lib.hid hb1
 obtain ⟨H, hH⟩ : ∃ H, H = w.heap.size := ⟨_, rfl⟩
 have HH := Lib.hid hH
 clear hX hX' hT hk hl hn hs hglt hb1 hH
 go_enter Tryz.func74, Tryz.ntmps74
 go_upto_region 3 with (go_at_call 64; refine HV.out.mono ?_; rintro e w1 h1; obtain ⟨ho1, ht1, u, A1, c1, B1, d1, hu, rfl, hj1⟩ := h1.five; rw [← HB1.out] at ht1; have HO1 := Lib.hid ho1; have HT1 := Lib.hid ht1; have HU := Lib.hid hu; have HJ1 := Lib.hid hj1; clear ho1 ht1 h1 hj1 hu)
 have hnl : u.list.length ≤ 3000000 := by rw [HU.out]; exact HN.out
 have HNL := Lib.hid hnl
 have hnz : (u.list.length : Int) ≤ 3000000 := by omega
 clear hnl
 have HDO := Lib.hid (show ∀ w' rv, Only (· = g) w w' → TK X w' g v (b1 || eachBad okB' u.list) → RowOwn EB 1 22 w.heap.size w' rv (u.list.map elB) → EachAt EB 1 22 elB okB' X g v bad k w (.returned rv) w' from
  fun w' rv h1 h2 h3 => ⟨h1, by rw [← HU.out, ← HB1.out]; exact h2, rv, rfl, by rw [← HU.out]; exact h3⟩)
 go_loopw [17, 7] (fun s17 s7 wr => ∃ j : Nat, j ≤ u.list.length ∧ s17 = .int .i64 (j : Int) ∧ EachI EB 1 22 (fun b => X b ∧ b < w.heap.size) g w1.heap.size v (b1 || eachBad okB' (u.list.take j)) w1 wr s7 ((u.list.take j).map elB)) (fun i _ _ => u.list.length - (intOf i).toNat)
 case atStart => exact ⟨0, by omega, rfl, by rw [List.take_zero]; simpa [eachBad] using HT1.out, RowOwn.nil _ _ _, Only.refl _ _⟩
 case round =>
  obtain ⟨j, hj, rfl, hi⟩ := hrel
  have HI := Lib.hid hi
  clear hi
  rcases Nat.lt_or_ge j u.list.length with hlt | hge
  ·obtain ⟨x, hx⟩ : ∃ x, u.list[j]? = some x := ⟨u.list[j], List.getElem?_eq_getElem hlt⟩
   have q : decide ((j : Int) < (u.list.length : Int)) = true := by simp; omega
   have hjz : (j : Int) < (u.list.length : Int) := by omega
   obtain ⟨A2, c2, B2, d2, hjx, hlx⟩ := HJ1.out.elem hx
   obtain ⟨bA, oA, rfl, hXA, hcA⟩ := hlx
   have hjr := hjx.only (Y := fun b => X b ∧ b < w.heap.size) HI.out.only (fun b hb hy => ⟨HX.out b hy, hy⟩)
   have hrg : wr.rangeAt bA (oA + j * 5) (cells5 x.kind x.str x.num (.slice A2 x.list.length c2) (.slice B2 x.keys.length d2)) := fun i y hy => by
    have := HI.out.only.cell (hcA i y hy) (HX.out bA hXA)
    rw [Nat.add_assoc, Nat.mul_comm j 5]; exact this
   have HRG := Lib.hid hrg
   have HJR := Lib.hid hjr
   have HSX := Lib.hid (HS.out x (by rw [← HU.out]; exact List.mem_of_getElem? hx))
   have HTS := Lib.hid (take_snoc hx)
   obtain ⟨bj, hbj⟩ : ∃ b, b = (b1 || eachBad okB' (u.list.take j)) := ⟨_, rfl⟩
   have HBJ := Lib.hid hbj
   obtain ⟨okx, hok⟩ : ∃ b, b = okB' x := ⟨_, rfl⟩
   have HOK := Lib.hid hok
   clear hx hjx hcA hXA hjr hrg hbj hok hlt
   cases bj <;> cases okx
   all_goals
    go_wp2_with (first
     | (refine load79 rfl (.tmp 19) rfl rfl HRG.out rfl ?_)
     | (refine wpList_store_blk (cs := cells5 x.kind x.str x.num (.slice A2 x.list.length c2) (.slice B2 x.keys.length d2)) rfl 79 (.tmp 9) (.tmp 20) rfl rfl rfl rfl (Blk.new wr [.int .i64 0, .string ⟨#[]⟩, .int .u64 0, .slice none 0 0, .slice none 0 0] 79) rfl info79s rfl ?_; intro w4 hb4 ho4; have o4 : Only (fun _ => False) wr w4 := ((Only.refl _ wr).alloc _).then ho4 (fun i hi e => by omega); have HB4 := Lib.hid hb4; have HO4 := Lib.hid o4; have HJ4 := Lib.hid (HJR.out.keep o4); clear hb4 ho4 o4)
     | (refine wpList_load_blk (cs := cells5 x.kind x.str x.num (.slice A2 x.list.length c2) (.slice B2 x.keys.length d2)) rfl 79 (.tmp 9) rfl rfl HB4.out agg79 info79s ?_)
     | (go_at_call 72; refine (one_bytes HJ4.out HSX.out).mono ?_; rintro e w5 ⟨ho5, y, cs, rfl, hy, hE⟩; rw [← HOK.out]; have o5 := HO4.out.trans ho5; have ht5 := HI.out.tk.keep o5; rw [← HBJ.out] at ht5; obtain ⟨hc5, hz5, hg5⟩ := ht5.cell5; have HT5 := Lib.hid ht5; have HO5 := Lib.hid o5; have HY := Lib.hid hy; have HE5 := Lib.hid hE; have HSZ4 := Lib.hid HO4.out.size; clear ho5 o5 ht5 hg5 hy hE)
     | (refine wpList_slice1 rfl 113 22 (.tmp 39) rfl under113 info22e rfl (by decide) (by decide) (encB.len HE5.out) HY.out ?_)
     | (refine stop_append (t := 113) rfl ?_))
    refine ⟨?_⟩
    obtain ⟨xs, hown, hrow⟩ := HI.out.row
    have hl6 : ∀ z, Only (fun i => i = g) wr (w5.setCell ⟨g, 5, none⟩ z) := fun z => (HO5.out.mono (H := fun i => i = g) (fun _ _ h => h.elim)).setCell (p := ⟨g, 5, none⟩) (fun _ => rfl) z
    have hbk : ∀ z, Blk ((w5.setCell ⟨g, 5, none⟩ z).alloc (.cells cs.toArray 22)) w5.heap.size cs 22 := fun z => (by have := Blk.new (w5.setCell ⟨g, 5, none⟩ z) cs 22; rw [size_setCell] at this; exact this)
    have HL6 := Lib.hid hl6
    have HROW := Lib.hid hrow
    refine wpList_appendE rfl (.tmp 38) (.tmp 40) 113 rfl under113 info22e rfl (by decide) (by decide) rfl (own_only hown ((hl6 _).alloc _) (fun k hk e => by have := (World.ownsRow.lt hown k hk).1; have := HGL.out; have := HO1.out.size; omega)) rfl (hbk _) (encB.len HE5.out) (encB.one HE5.out) (by rw [List.length_map, List.length_take]; have := HNL.out; omega) (by have h1 := HI.out.only.size; have h2 := HO1.out.size; have h3 := HO5.out.size; simp [size_setCell]; omega) ?_
    intro gg cap w8 hown8 hgr hor
    have HOWN8 := Lib.hid hown8
    have HGR := Lib.hid hgr
    have HOR := Lib.hid hor
    have HOWN := Lib.hid hown
    clear hown hrow hl6 hbk hown8 hgr hor
    go_wp2
    go_roundw
    case rel =>
     have s01 := HO1.out.size
     have hgl := HGL.out
     have hBlt : ∀ k, u7.ownBlock = some k → w1.heap.size ≤ k ∧ k < wr.heap.size := fun k hk => World.ownsRow.lt HOWN.out k hk
     have sz5 : wr.heap.size ≤ w5.heap.size := HO5.out.size
     have sz1 : w.heap.size ≤ wr.heap.size := Nat.le_trans HO1.out.size HI.out.only.size
     have s4 := HSZ4.out
     have szw := HI.out.only.size
     have hw8 : Only (fun i => i = g ∨ u7.ownBlock = some i) wr w8 := (((HL6.out _).alloc _).mono (fun i _ h => .inl h)).then (Only.ofGrown HGR.out) (fun i _ h => .inr h)
     refine ⟨j + 1, by omega, by push_cast; rfl, ?_, ?_, ?_⟩
     ·rw [HTS.out, eachBad_snoc, ← Bool.or_assoc, ← HBJ.out, ← HOK.out]
      exact ((HT5.out.putb _ HX.out).keep ((Only.refl _ _).alloc _)).far (Only.ofGrown HGR.out) (fun i hi hx e => by have := (hBlt i e).1; have := hx.2; omega) (fun e => by have := (hBlt g e).1; have := HGL.out; omega)
     ·rw [HTS.out, List.map_append, List.map_cons, List.map_nil]
      refine RowOwn.snoc encB (HROW.out.only encB ((HL6.out _).alloc _) (fun b hb hy => ⟨fun e => by have := hy.1; have := HGL.out; omega, hy⟩)) ?_ (by have hlen : (List.map elB (List.take j u.list)).length = j := (by rw [List.length_map, List.length_take]; omega); have h8 := HOWN8.out; rw [hlen] at h8 ⊢; exact h8) HGR.out rfl HOR.out
      refine encB.only HE5.out (((Only.refl (fun i => i = g) w5).setCell (fun _ => rfl) _).alloc _) (fun b hb hy => ⟨fun e => by have := HGL.out; omega, by omega, fun e => by have := (hBlt b e).2; omega⟩)
     ·exact HI.out.only.then hw8 (fun i hi h => by rcases h with h | h; exact h; have := (hBlt i h).1; omega)
    case measure => simp [intOf]; omega
  ·have q : decide ((j : Int) < (u.list.length : Int)) = false := by simp; omega
   obtain rfl : j = u.list.length := by omega
   go_wp2
   go_ret
   refine HDO.out _ _ (HO1.out.trans HI.out.only) ?_ ?_
   ·have h := HI.out.tk; rw [List.take_length] at h; exact h.mono (fun i _ hx => hx.1)
   ·have h := HI.out.row; rw [List.take_length] at h; exact h.mono encB HO1.out.size
theorem zero105 : (Tryz.prog.info? 105).bind (·.zero) = some (.agg ([.slice none 0 0, .slice none 0 0] : List Value).toArray) := by kernel_rfl
def OneA {α : Type} (E : (Nat → Prop) → World → α → List Value → Prop) (val : JV → α) (ok : JV → Bool) (x : JV) (w : World) (e : Ending) (w' : World) : Prop :=
 Only (fun _ => False) w w' ∧ ∃ cs : List Value, e = .returned (.tuple #[.agg cs.toArray, .bool (ok x)]) ∧ E (fun b => w.heap.size ≤ b) w' (val x) cs
theorem one_hash2 {X : Nat → Prop} {x : JV} {A B : Option Addr} {c d : Nat} {w : World} (hj : JIs X w x (cells5 x.kind x.str x.num (.slice A x.list.length c) (.slice B x.keys.length d))) (hs : SmE x) :
  Calls Tryz.prog 40 #[.agg (cells5 x.kind x.str x.num (.slice A x.list.length c) (.slice B x.keys.length d)).toArray] w (OneA ED elH okH' x w) := by
 refine (oneHash_any hs.1).mono ?_
 rintro e w' ⟨ho, rfl⟩
 exact ⟨ho, u8s (elH x), rfl, rfl, digB_length _⟩
theorem one_item2 {X : Nat → Prop} {x : JV} {A B : Option Addr} {c d : Nat} {w : World} (hj : JIs X w x (cells5 x.kind x.str x.num (.slice A x.list.length c) (.slice B x.keys.length d))) (hs : SmE x) :
  Calls Tryz.prog 44 #[.agg (cells5 x.kind x.str x.num (.slice A x.list.length c) (.slice B x.keys.length d)).toArray] w (OneA EI elI okI' x w) := by
 refine (oneItem_any hj hs.2.1 hs.2.2.1 hs.2.2.2.1 hs.2.2.2.2).mono ?_
 rintro e w' ⟨ho, A2, c2, B2, d2, h1, h2, rfl⟩
 exact ⟨ho, [.slice A2 (leafB x).length c2] ++ [.slice B2 (extraB x).length d2], rfl, [.slice A2 (leafB x).length c2], [.slice B2 (extraB x).length d2], rfl, h1.enc (fun b hb _ => hb), h2.enc (fun b hb _ => hb)⟩
set_option maxRecDepth 100000 in
set_option maxHeartbeats 3200000 in
theorem each_hash {X : Nat → Prop} {g : Nat} {v : JV} {bad : Bool} {k : Bytes} {w : World} (hX : ∀ b, X b → b ≠ g) (hT : TK X w g v bad) (hk : v.keys.length ≤ 3000000) (hl : v.list.length ≤ 3000000) (hn : ((getB v k).getD JV0).list.length ≤ 3000000)
  (hs : ∀ x ∈ ((getB v k).getD JV0).list, SmE x) :
  Calls Tryz.prog 39 #[.pointer (some ⟨g, 0, none⟩), .string ⟨k.toArray⟩, .func (.func 40) #[] #[]] w (EachAt ED 32 24 elH okH' X g v bad k w) := by
 have hglt := hT.cell5.2.2
 have HGL := Lib.hid hglt
 have hX' : ∀ b, (X b ∧ b < w.heap.size) → b ≠ g := fun b h => hX b h.1
 have HX := Lib.hid hX'
 have HV := Lib.hid (value_any (k := k) (kd := 5) hX' (hT.mono (Y := fun b => X b ∧ b < w.heap.size) (fun i hi hx => ⟨hx, hi⟩)) hk hl)
 have HS := Lib.hid hs
 have HN := Lib.hid hn
 have hf3 := field79_3
 obtain ⟨b1, hb1⟩ : ∃ b, b = (bad || badG v k 5) := ⟨_, rfl⟩
 have HB1 := Lib.hid hb1
 obtain ⟨H, hH⟩ : ∃ H, H = w.heap.size := ⟨_, rfl⟩
 have HH := Lib.hid hH
 clear hX hX' hT hk hl hn hs hglt hb1 hH
 go_enter Tryz.func39, Tryz.ntmps39
 go_upto_region 3 with (go_at_call 64; refine HV.out.mono ?_; rintro e w1 h1; obtain ⟨ho1, ht1, u, A1, c1, B1, d1, hu, rfl, hj1⟩ := h1.five; rw [← HB1.out] at ht1; have HO1 := Lib.hid ho1; have HT1 := Lib.hid ht1; have HU := Lib.hid hu; have HJ1 := Lib.hid hj1; clear ho1 ht1 h1 hj1 hu)
 have hnl : u.list.length ≤ 3000000 := by rw [HU.out]; exact HN.out
 have HNL := Lib.hid hnl
 have hnz : (u.list.length : Int) ≤ 3000000 := by omega
 clear hnl
 have HDO := Lib.hid (show ∀ w' rv, Only (· = g) w w' → TK X w' g v (b1 || eachBad okH' u.list) → RowOwn ED 32 24 w.heap.size w' rv (u.list.map elH) → EachAt ED 32 24 elH okH' X g v bad k w (.returned rv) w' from
  fun w' rv h1 h2 h3 => ⟨h1, by rw [← HU.out, ← HB1.out]; exact h2, rv, rfl, by rw [← HU.out]; exact h3⟩)
 go_loopw [17, 7] (fun s17 s7 wr => ∃ j : Nat, j ≤ u.list.length ∧ s17 = .int .i64 (j : Int) ∧ EachI ED 32 24 (fun b => X b ∧ b < w.heap.size) g w1.heap.size v (b1 || eachBad okH' (u.list.take j)) w1 wr s7 ((u.list.take j).map elH)) (fun i _ _ => u.list.length - (intOf i).toNat)
 case atStart => exact ⟨0, by omega, rfl, by rw [List.take_zero]; simpa [eachBad] using HT1.out, RowOwn.nil _ _ _, Only.refl _ _⟩
 case round =>
  obtain ⟨j, hj, rfl, hi⟩ := hrel
  have HI := Lib.hid hi
  clear hi
  rcases Nat.lt_or_ge j u.list.length with hlt | hge
  ·obtain ⟨x, hx⟩ : ∃ x, u.list[j]? = some x := ⟨u.list[j], List.getElem?_eq_getElem hlt⟩
   have q : decide ((j : Int) < (u.list.length : Int)) = true := by simp; omega
   have hjz : (j : Int) < (u.list.length : Int) := by omega
   obtain ⟨A2, c2, B2, d2, hjx, hlx⟩ := HJ1.out.elem hx
   obtain ⟨bA, oA, rfl, hXA, hcA⟩ := hlx
   have hjr := hjx.only (Y := fun b => X b ∧ b < w.heap.size) HI.out.only (fun b hb hy => ⟨HX.out b hy, hy⟩)
   have hrg : wr.rangeAt bA (oA + j * 5) (cells5 x.kind x.str x.num (.slice A2 x.list.length c2) (.slice B2 x.keys.length d2)) := fun i y hy => by
    have := HI.out.only.cell (hcA i y hy) (HX.out bA hXA)
    rw [Nat.add_assoc, Nat.mul_comm j 5]; exact this
   have HRG := Lib.hid hrg
   have HJR := Lib.hid hjr
   have HSX := Lib.hid (HS.out x (by rw [← HU.out]; exact List.mem_of_getElem? hx))
   have HTS := Lib.hid (take_snoc hx)
   obtain ⟨bj, hbj⟩ : ∃ b, b = (b1 || eachBad okH' (u.list.take j)) := ⟨_, rfl⟩
   have HBJ := Lib.hid hbj
   obtain ⟨okx, hok⟩ : ∃ b, b = okH' x := ⟨_, rfl⟩
   have HOK := Lib.hid hok
   clear hx hjx hcA hXA hjr hrg hbj hok hlt
   cases bj <;> cases okx
   all_goals
    go_wp2_with (first
     | (refine load79 rfl (.tmp 19) rfl rfl HRG.out rfl ?_)
     | (refine wpList_store_blk (cs := cells5 x.kind x.str x.num (.slice A2 x.list.length c2) (.slice B2 x.keys.length d2)) rfl 79 (.tmp 9) (.tmp 20) rfl rfl rfl rfl (Blk.new wr [.int .i64 0, .string ⟨#[]⟩, .int .u64 0, .slice none 0 0, .slice none 0 0] 79) rfl info79s rfl ?_; intro w4 hb4 ho4; have o4 : Only (fun _ => False) wr w4 := ((Only.refl _ wr).alloc _).then ho4 (fun i hi e => by omega); have HB4 := Lib.hid hb4; have HO4 := Lib.hid o4; have HJ4 := Lib.hid (HJR.out.keep o4); clear hb4 ho4 o4)
     | (refine wpList_load_blk (cs := cells5 x.kind x.str x.num (.slice A2 x.list.length c2) (.slice B2 x.keys.length d2)) rfl 79 (.tmp 9) rfl rfl HB4.out agg79 info79s ?_)
     | (go_at_call 40; refine (one_hash2 HJ4.out HSX.out).mono ?_; rintro e w5 ⟨ho5, cs, rfl, hE⟩; rw [← HOK.out]; have o5 := HO4.out.trans ho5; have HO5 := Lib.hid o5; have HE5 := Lib.hid hE; have HSZ4 := Lib.hid HO4.out.size; clear ho5 o5 hE)
     | (refine wpList_alloc_blk rfl 24 10 rfl rfl zero24 ?_; intro w6 hb6 ho6 hs6; have HB6 := Lib.hid hb6; have HO6 := Lib.hid ho6; have HSS := Lib.hid hs6; clear hb6 ho6 hs6; generalize hH6 : w5.heap.size = H6 at HB6 HSS ⊢; have HH6 := Lib.hid hH6; clear hH6)
     | (refine wpList_store_blk (cs := cs) rfl 24 (.tmp 10) (.tmp 25) rfl rfl rfl rfl HB6.out (by rw [encD.len HE5.out]; rfl) (by rw [List.size_toArray, encD.len HE5.out]; exact info24) (encD.one HE5.out) ?_; intro w7 hb7 ho7; have o7 : Only (fun _ => False) wr w7 := (HO5.out.trans HO6.out).then ho7 (fun i hi e => by have := HO5.out.size; have := HH6.out; omega); have ht7 := HI.out.tk.keep o7; rw [← HBJ.out] at ht7; obtain ⟨hc7, hz7, hg7⟩ := ht7.cell5; have HT7 := Lib.hid ht7; have HO7 := Lib.hid o7; have HB7 := Lib.hid hb7; have HE7 := Lib.hid (encD.only HE5.out (HO6.out.then (G := fun i => False) ho7 (fun i hi e => by have := HH6.out; omega)) (fun b hb hy => ⟨id, hy⟩)); clear ho7 o7 ht7 hg7 hb7)
     | (refine wpList_load_blk (cs := cs) rfl 24 (.tmp 10) rfl rfl (HB7.out.far (by have := HI.out.tk.cell5.2.2; have := HH6.out; have := HO5.out.size; intro e; simp at e; omega) _) agg24 (by rw [List.size_toArray, encD.len HE5.out]; exact info24) ?_)
     | (refine wpList_slice1 rfl 40 24 (.tmp 39) rfl under40 info24e rfl (by decide) (by decide) (encD.len HE7.out) rfl ?_)
     | (refine stop_append (t := 40) rfl ?_))
    refine ⟨?_⟩
    obtain ⟨xs, hown, hrow⟩ := HI.out.row
    have hl6 : ∀ z, Only (fun i => i = g) wr (w7.setCell ⟨g, 5, none⟩ z) := fun z => (HO7.out.mono (H := fun i => i = g) (fun _ _ h => h.elim)).setCell (p := ⟨g, 5, none⟩) (fun _ => rfl) z
    have hbk : ∀ z, Blk ((w7.setCell ⟨g, 5, none⟩ z).alloc (.cells cs.toArray 24)) w7.heap.size cs 24 := fun z => (by have := Blk.new (w7.setCell ⟨g, 5, none⟩ z) cs 24; rw [size_setCell] at this; exact this)
    have HL6 := Lib.hid hl6
    have HROW := Lib.hid hrow
    refine wpList_appendE rfl (.tmp 38) (.tmp 40) 40 rfl under40 info24e rfl (by decide) (by decide) rfl (own_only hown ((hl6 _).alloc _) (fun k hk e => by have := (World.ownsRow.lt hown k hk).1; have := HGL.out; have := HO1.out.size; omega)) rfl (hbk _) (encD.len HE7.out) (encD.one HE7.out) (by rw [List.length_map, List.length_take]; have := HNL.out; omega) (by have h1 := HI.out.only.size; have h2 := HO1.out.size; have h3 := HO7.out.size; simp [size_setCell]; omega) ?_
    intro gg cap w8 hown8 hgr hor
    have HOWN8 := Lib.hid hown8
    have HGR := Lib.hid hgr
    have HOR := Lib.hid hor
    have HOWN := Lib.hid hown
    clear hown hrow hl6 hbk hown8 hgr hor
    go_wp2
    go_roundw
    case rel =>
     have s01 := HO1.out.size
     have hgl := HGL.out
     have hBlt : ∀ k, u7.ownBlock = some k → w1.heap.size ≤ k ∧ k < wr.heap.size := fun k hk => World.ownsRow.lt HOWN.out k hk
     have sz7 : wr.heap.size ≤ w7.heap.size := HO7.out.size
     have sz1 : w.heap.size ≤ wr.heap.size := Nat.le_trans HO1.out.size HI.out.only.size
     have s4 := HSZ4.out
     have szw := HI.out.only.size
     have hw8 : Only (fun i => i = g ∨ u7.ownBlock = some i) wr w8 := (((HL6.out _).alloc _).mono (fun i _ h => .inl h)).then (Only.ofGrown HGR.out) (fun i _ h => .inr h)
     refine ⟨j + 1, by omega, by push_cast; rfl, ?_, ?_, ?_⟩
     ·rw [HTS.out, eachBad_snoc, ← Bool.or_assoc, ← HBJ.out, ← HOK.out]
      exact ((HT7.out.putb _ HX.out).keep ((Only.refl _ _).alloc _)).far (Only.ofGrown HGR.out) (fun i hi hx e => by have := (hBlt i e).1; have := hx.2; omega) (fun e => by have := (hBlt g e).1; have := HGL.out; omega)
     ·rw [HTS.out, List.map_append, List.map_cons, List.map_nil]
      refine RowOwn.snoc encD (HROW.out.only encD ((HL6.out _).alloc _) (fun b hb hy => ⟨fun e => by have := hy.1; have := HGL.out; omega, hy⟩)) ?_ (by have hlen : (List.map elH (List.take j u.list)).length = j := (by rw [List.length_map, List.length_take]; omega); have h8 := HOWN8.out; rw [hlen] at h8 ⊢; exact h8) HGR.out rfl HOR.out
      refine encD.only HE7.out (((Only.refl (fun i => i = g) w7).setCell (fun _ => rfl) _).alloc _) (fun b hb hy => ⟨fun e => by have := HGL.out; omega, by omega, fun e => by have := (hBlt b e).2; omega⟩)
     ·exact HI.out.only.then hw8 (fun i hi h => by rcases h with h | h; exact h; have := (hBlt i h).1; omega)
    case measure => simp [intOf]; omega
  ·have q : decide ((j : Int) < (u.list.length : Int)) = false := by simp; omega
   obtain rfl : j = u.list.length := by omega
   go_wp2
   go_ret
   refine HDO.out _ _ (HO1.out.trans HI.out.only) ?_ ?_
   ·have h := HI.out.tk; rw [List.take_length] at h; exact h.mono (fun i _ hx => hx.1)
   ·have h := HI.out.row; rw [List.take_length] at h; exact h.mono encD HO1.out.size
set_option maxRecDepth 100000 in
set_option maxHeartbeats 3200000 in
theorem each_item {X : Nat → Prop} {g : Nat} {v : JV} {bad : Bool} {k : Bytes} {w : World} (hX : ∀ b, X b → b ≠ g) (hT : TK X w g v bad) (hk : v.keys.length ≤ 3000000) (hl : v.list.length ≤ 3000000) (hn : ((getB v k).getD JV0).list.length ≤ 3000000)
  (hs : ∀ x ∈ ((getB v k).getD JV0).list, SmE x) :
  Calls Tryz.prog 43 #[.pointer (some ⟨g, 0, none⟩), .string ⟨k.toArray⟩, .func (.func 44) #[] #[]] w (EachAt EI 2 105 elI okI' X g v bad k w) := by
 have hglt := hT.cell5.2.2
 have HGL := Lib.hid hglt
 have hX' : ∀ b, (X b ∧ b < w.heap.size) → b ≠ g := fun b h => hX b h.1
 have HX := Lib.hid hX'
 have HV := Lib.hid (value_any (k := k) (kd := 5) hX' (hT.mono (Y := fun b => X b ∧ b < w.heap.size) (fun i hi hx => ⟨hx, hi⟩)) hk hl)
 have HS := Lib.hid hs
 have HN := Lib.hid hn
 have hf3 := field79_3
 obtain ⟨b1, hb1⟩ : ∃ b, b = (bad || badG v k 5) := ⟨_, rfl⟩
 have HB1 := Lib.hid hb1
 obtain ⟨H, hH⟩ : ∃ H, H = w.heap.size := ⟨_, rfl⟩
 have HH := Lib.hid hH
 clear hX hX' hT hk hl hn hs hglt hb1 hH
 go_enter Tryz.func43, Tryz.ntmps43
 go_upto_region 3 with (go_at_call 64; refine HV.out.mono ?_; rintro e w1 h1; obtain ⟨ho1, ht1, u, A1, c1, B1, d1, hu, rfl, hj1⟩ := h1.five; rw [← HB1.out] at ht1; have HO1 := Lib.hid ho1; have HT1 := Lib.hid ht1; have HU := Lib.hid hu; have HJ1 := Lib.hid hj1; clear ho1 ht1 h1 hj1 hu)
 have hnl : u.list.length ≤ 3000000 := by rw [HU.out]; exact HN.out
 have HNL := Lib.hid hnl
 have hnz : (u.list.length : Int) ≤ 3000000 := by omega
 clear hnl
 have HDO := Lib.hid (show ∀ w' rv, Only (· = g) w w' → TK X w' g v (b1 || eachBad okI' u.list) → RowOwn EI 2 105 w.heap.size w' rv (u.list.map elI) → EachAt EI 2 105 elI okI' X g v bad k w (.returned rv) w' from
  fun w' rv h1 h2 h3 => ⟨h1, by rw [← HU.out, ← HB1.out]; exact h2, rv, rfl, by rw [← HU.out]; exact h3⟩)
 go_loopw [17, 7] (fun s17 s7 wr => ∃ j : Nat, j ≤ u.list.length ∧ s17 = .int .i64 (j : Int) ∧ EachI EI 2 105 (fun b => X b ∧ b < w.heap.size) g w1.heap.size v (b1 || eachBad okI' (u.list.take j)) w1 wr s7 ((u.list.take j).map elI)) (fun i _ _ => u.list.length - (intOf i).toNat)
 case atStart => exact ⟨0, by omega, rfl, by rw [List.take_zero]; simpa [eachBad] using HT1.out, RowOwn.nil _ _ _, Only.refl _ _⟩
 case round =>
  obtain ⟨j, hj, rfl, hi⟩ := hrel
  have HI := Lib.hid hi
  clear hi
  rcases Nat.lt_or_ge j u.list.length with hlt | hge
  ·obtain ⟨x, hx⟩ : ∃ x, u.list[j]? = some x := ⟨u.list[j], List.getElem?_eq_getElem hlt⟩
   have q : decide ((j : Int) < (u.list.length : Int)) = true := by simp; omega
   have hjz : (j : Int) < (u.list.length : Int) := by omega
   obtain ⟨A2, c2, B2, d2, hjx, hlx⟩ := HJ1.out.elem hx
   obtain ⟨bA, oA, rfl, hXA, hcA⟩ := hlx
   have hjr := hjx.only (Y := fun b => X b ∧ b < w.heap.size) HI.out.only (fun b hb hy => ⟨HX.out b hy, hy⟩)
   have hrg : wr.rangeAt bA (oA + j * 5) (cells5 x.kind x.str x.num (.slice A2 x.list.length c2) (.slice B2 x.keys.length d2)) := fun i y hy => by
    have := HI.out.only.cell (hcA i y hy) (HX.out bA hXA)
    rw [Nat.add_assoc, Nat.mul_comm j 5]; exact this
   have HRG := Lib.hid hrg
   have HJR := Lib.hid hjr
   have HSX := Lib.hid (HS.out x (by rw [← HU.out]; exact List.mem_of_getElem? hx))
   have HTS := Lib.hid (take_snoc hx)
   obtain ⟨bj, hbj⟩ : ∃ b, b = (b1 || eachBad okI' (u.list.take j)) := ⟨_, rfl⟩
   have HBJ := Lib.hid hbj
   obtain ⟨okx, hok⟩ : ∃ b, b = okI' x := ⟨_, rfl⟩
   have HOK := Lib.hid hok
   clear hx hjx hcA hXA hjr hrg hbj hok hlt
   cases bj <;> cases okx
   all_goals
    go_wp2_with (first
     | (refine load79 rfl (.tmp 19) rfl rfl HRG.out rfl ?_)
     | (refine wpList_store_blk (cs := cells5 x.kind x.str x.num (.slice A2 x.list.length c2) (.slice B2 x.keys.length d2)) rfl 79 (.tmp 9) (.tmp 20) rfl rfl rfl rfl (Blk.new wr [.int .i64 0, .string ⟨#[]⟩, .int .u64 0, .slice none 0 0, .slice none 0 0] 79) rfl info79s rfl ?_; intro w4 hb4 ho4; have o4 : Only (fun _ => False) wr w4 := ((Only.refl _ wr).alloc _).then ho4 (fun i hi e => by omega); have HB4 := Lib.hid hb4; have HO4 := Lib.hid o4; have HJ4 := Lib.hid (HJR.out.keep o4); clear hb4 ho4 o4)
     | (refine wpList_load_blk (cs := cells5 x.kind x.str x.num (.slice A2 x.list.length c2) (.slice B2 x.keys.length d2)) rfl 79 (.tmp 9) rfl rfl HB4.out agg79 info79s ?_)
     | (go_at_call 44; refine (one_item2 HJ4.out HSX.out).mono ?_; rintro e w5 ⟨ho5, cs, rfl, hE⟩; rw [← HOK.out]; have o5 := HO4.out.trans ho5; have HO5 := Lib.hid o5; have HE5 := Lib.hid hE; have HSZ4 := Lib.hid HO4.out.size; clear ho5 o5 hE)
     | (refine wpList_alloc_blk rfl 105 10 rfl rfl zero105 ?_; intro w6 hb6 ho6 hs6; have HB6 := Lib.hid hb6; have HO6 := Lib.hid ho6; have HSS := Lib.hid hs6; clear hb6 ho6 hs6; generalize hH6 : w5.heap.size = H6 at HB6 HSS ⊢; have HH6 := Lib.hid hH6; clear hH6)
     | (refine wpList_store_blk (cs := cs) rfl 105 (.tmp 10) (.tmp 25) rfl rfl rfl rfl HB6.out (by rw [encI.len HE5.out]; rfl) (by rw [List.size_toArray, encI.len HE5.out]; exact info105) (encI.one HE5.out) ?_; intro w7 hb7 ho7; have o7 : Only (fun _ => False) wr w7 := (HO5.out.trans HO6.out).then ho7 (fun i hi e => by have := HO5.out.size; have := HH6.out; omega); have ht7 := HI.out.tk.keep o7; rw [← HBJ.out] at ht7; obtain ⟨hc7, hz7, hg7⟩ := ht7.cell5; have HT7 := Lib.hid ht7; have HO7 := Lib.hid o7; have HB7 := Lib.hid hb7; have HE7 := Lib.hid (encI.only HE5.out (HO6.out.then (G := fun i => False) ho7 (fun i hi e => by have := HH6.out; omega)) (fun b hb hy => ⟨id, hy⟩)); clear ho7 o7 ht7 hg7 hb7)
     | (refine wpList_load_blk (cs := cs) rfl 105 (.tmp 10) rfl rfl (HB7.out.far (by have := HI.out.tk.cell5.2.2; have := HH6.out; have := HO5.out.size; intro e; simp at e; omega) _) agg105 (by rw [List.size_toArray, encI.len HE5.out]; exact info105) ?_)
     | (refine wpList_slice1 rfl 50 105 (.tmp 39) rfl under50 info105e rfl (by decide) (by decide) (encI.len HE7.out) rfl ?_)
     | (refine stop_append (t := 50) rfl ?_))
    refine ⟨?_⟩
    obtain ⟨xs, hown, hrow⟩ := HI.out.row
    have hl6 : ∀ z, Only (fun i => i = g) wr (w7.setCell ⟨g, 5, none⟩ z) := fun z => (HO7.out.mono (H := fun i => i = g) (fun _ _ h => h.elim)).setCell (p := ⟨g, 5, none⟩) (fun _ => rfl) z
    have hbk : ∀ z, Blk ((w7.setCell ⟨g, 5, none⟩ z).alloc (.cells cs.toArray 105)) w7.heap.size cs 105 := fun z => (by have := Blk.new (w7.setCell ⟨g, 5, none⟩ z) cs 105; rw [size_setCell] at this; exact this)
    have HL6 := Lib.hid hl6
    have HROW := Lib.hid hrow
    refine wpList_appendE rfl (.tmp 38) (.tmp 40) 50 rfl under50 info105e rfl (by decide) (by decide) rfl (own_only hown ((hl6 _).alloc _) (fun k hk e => by have := (World.ownsRow.lt hown k hk).1; have := HGL.out; have := HO1.out.size; omega)) rfl (hbk _) (encI.len HE7.out) (encI.one HE7.out) (by rw [List.length_map, List.length_take]; have := HNL.out; omega) (by have h1 := HI.out.only.size; have h2 := HO1.out.size; have h3 := HO7.out.size; simp [size_setCell]; omega) ?_
    intro gg cap w8 hown8 hgr hor
    have HOWN8 := Lib.hid hown8
    have HGR := Lib.hid hgr
    have HOR := Lib.hid hor
    have HOWN := Lib.hid hown
    clear hown hrow hl6 hbk hown8 hgr hor
    go_wp2
    go_roundw
    case rel =>
     have s01 := HO1.out.size
     have hgl := HGL.out
     have hBlt : ∀ k, u7.ownBlock = some k → w1.heap.size ≤ k ∧ k < wr.heap.size := fun k hk => World.ownsRow.lt HOWN.out k hk
     have sz7 : wr.heap.size ≤ w7.heap.size := HO7.out.size
     have sz1 : w.heap.size ≤ wr.heap.size := Nat.le_trans HO1.out.size HI.out.only.size
     have s4 := HSZ4.out
     have szw := HI.out.only.size
     have hw8 : Only (fun i => i = g ∨ u7.ownBlock = some i) wr w8 := (((HL6.out _).alloc _).mono (fun i _ h => .inl h)).then (Only.ofGrown HGR.out) (fun i _ h => .inr h)
     refine ⟨j + 1, by omega, by push_cast; rfl, ?_, ?_, ?_⟩
     ·rw [HTS.out, eachBad_snoc, ← Bool.or_assoc, ← HBJ.out, ← HOK.out]
      exact ((HT7.out.putb _ HX.out).keep ((Only.refl _ _).alloc _)).far (Only.ofGrown HGR.out) (fun i hi hx e => by have := (hBlt i e).1; have := hx.2; omega) (fun e => by have := (hBlt g e).1; have := HGL.out; omega)
     ·rw [HTS.out, List.map_append, List.map_cons, List.map_nil]
      refine RowOwn.snoc encI (HROW.out.only encI ((HL6.out _).alloc _) (fun b hb hy => ⟨fun e => by have := hy.1; have := HGL.out; omega, hy⟩)) ?_ (by have hlen : (List.map elI (List.take j u.list)).length = j := (by rw [List.length_map, List.length_take]; omega); have h8 := HOWN8.out; rw [hlen] at h8 ⊢; exact h8) HGR.out rfl HOR.out
      refine encI.only HE7.out (((Only.refl (fun i => i = g) w7).setCell (fun _ => rfl) _).alloc _) (fun b hb hy => ⟨fun e => by have := HGL.out; omega, by omega, fun e => by have := (hBlt b e).2; omega⟩)
     ·exact HI.out.only.then hw8 (fun i hi h => by rcases h with h | h; exact h; have := (hBlt i h).1; omega)
    case measure => simp [intOf]; omega
  ·have q : decide ((j : Int) < (u.list.length : Int)) = false := by simp; omega
   obtain rfl : j = u.list.length := by omega
   go_wp2
   go_ret
   refine HDO.out _ _ (HO1.out.trans HI.out.only) ?_ ?_
   ·have h := HI.out.tk; rw [List.take_length] at h; exact h.mono (fun i _ hx => hx.1)
   ·have h := HI.out.row; rw [List.take_length] at h; exact h.mono encI HO1.out.size
section
variable {P : Program} {ops : Array Oper} {rest : List Oper} {o : Oper} {a : Act} {w : World} {Q : Exit → Act → World → Prop}
theorem wpList_box_blk (hgd : o.guard = none) (ty : TypeId) (t : Tmp) (x : Operand) (ho : o.op = .box ty x) (hd : o.dst = some t) {cs : List Value} (hx : a.eval x = .agg cs.toArray)
  (h : ∀ w', Blk w' w.heap.size cs ty → Only (fun _ => False) w w' → w'.heap.size = w.heap.size + 1 → wpList P ops Q rest (a.put (some t) (.pointer (some ⟨w.heap.size, 0, none⟩))) w') : wpList P ops Q (o :: rest) a w := by
 refine wpList_plain hgd fun K hK => ?_
 unfold Oper.wp
 have hrun : (execOp a.eval o).run P w = .ok (.value (.pointer (some ⟨w.heap.size, 0, none⟩))) (w.alloc (.cells cs.toArray ty)) := by
  unfold execOp
  rw [ho]
  simp only [Instr.box, hx, Sem.run_bind, newVar, newRow, Value.cells, Result.andThen]
  rfl
 rw [hrun, Oper.upon_value]
 refine hK _ _ ?_
 rw [hd]
 exact h _ (Blk.new w cs ty) ((Only.refl _ _).alloc _) (by simp)
end
def ToldAt (bad : Bool) (z x : Value) (e0 : Int) (w : World) (e : Ending) (w' : World) : Prop :=
 Only (fun _ => False) w w' ∧ e = .returned (.tuple #[if bad = true then z else x, .int .i64 (if bad = true then e0 else 0)])
set_option maxRecDepth 100000 in
set_option maxHeartbeats 1600000 in
theorem told_errno {X : Nat → Prop} {g : Nat} {v : JV} {bad : Bool} {w : World} {y : Int} {e0 : Int} (hT : TK X w g v bad) :
  Calls Tryz.prog 47 #[.pointer (some ⟨g, 0, none⟩), .int .i64 y, .int .i64 e0] w (ToldAt bad (.int .i64 0) (.int .i64 y) e0 w) := by
 obtain ⟨hc5, hz5, hg5⟩ := hT.cell5
 clear hT
 cases bad
 all_goals
  go_enter Tryz.func47, Tryz.ntmps47
  go_wp2
  go_ret2
  exact ⟨Only.refl _ _, rfl⟩
set_option maxRecDepth 100000 in
set_option maxHeartbeats 1600000 in
theorem told_digests {X : Nat → Prop} {g : Nat} {v : JV} {bad : Bool} {w : World} {A : Option Addr} {n c : Nat} {e0 : Int} (hT : TK X w g v bad) :
  Calls Tryz.prog 41 #[.pointer (some ⟨g, 0, none⟩), .slice A n c, .int .i64 e0] w (ToldAt bad (.slice none 0 0) (.slice A n c) e0 w) := by
 obtain ⟨hc5, hz5, hg5⟩ := hT.cell5
 clear hT
 cases bad
 all_goals
  go_enter Tryz.func41, Tryz.ntmps41
  go_wp2
  go_ret2
  exact ⟨Only.refl _ _, rfl⟩
set_option maxRecDepth 100000 in
set_option maxHeartbeats 1600000 in
theorem told_items {X : Nat → Prop} {g : Nat} {v : JV} {bad : Bool} {w : World} {A : Option Addr} {n c : Nat} {e0 : Int} (hT : TK X w g v bad) :
  Calls Tryz.prog 45 #[.pointer (some ⟨g, 0, none⟩), .slice A n c, .int .i64 e0] w (ToldAt bad (.slice none 0 0) (.slice A n c) e0 w) := by
 obtain ⟨hc5, hz5, hg5⟩ := hT.cell5
 clear hT
 cases bad
 all_goals
  go_enter Tryz.func45, Tryz.ntmps45
  go_wp2
  go_ret2
  exact ⟨Only.refl _ _, rfl⟩
set_option maxRecDepth 100000 in
set_option maxHeartbeats 1600000 in
theorem told_chain {X : Nat → Prop} {g : Nat} {v : JV} {bad : Bool} {w : World} {A : Option Addr} {n c : Nat} {e0 : Int} (hT : TK X w g v bad) :
  Calls Tryz.prog 75 #[.pointer (some ⟨g, 0, none⟩), .slice A n c, .int .i64 e0] w (ToldAt bad (.slice none 0 0) (.slice A n c) e0 w) := by
 obtain ⟨hc5, hz5, hg5⟩ := hT.cell5
 clear hT
 cases bad
 all_goals
  go_enter Tryz.func75, Tryz.ntmps75
  go_wp2
  go_ret2
  exact ⟨Only.refl _ _, rfl⟩
def zc28 : List Value := u8s (zero8 32) ++ (.int .u64 0 :: u8s (zero8 64))
theorem zero28 : (Tryz.prog.info? 28).bind (·.zero) = some (.agg zc28.toArray) := by kernel_rfl
theorem info28 : (Tryz.prog.info? 28).map (·.size) = some 97 := by kernel_rfl
theorem agg28 : (Tryz.prog.underlying 28).map aggD = some true := by kernel_rfl
theorem zc28_len : zc28.length = 97 := by decide +kernel
theorem zc28_one : zc28.all (·.oneCell') = true := by decide +kernel
theorem info28s {cs : List Value} (h : cs.length = 97) : (Tryz.prog.info? 28).map (·.size) = some cs.toArray.size := by rw [List.size_toArray, h]; exact info28
set_option maxRecDepth 100000 in
set_option maxHeartbeats 1600000 in
theorem told_sct {X : Nat → Prop} {g : Nat} {v : JV} {bad : Bool} {w : World} {cs : List Value} {e0 : Int} (hT : TK X w g v bad) (hl : cs.length = 97) (h1 : cs.all (·.oneCell') = true) :
  Calls Tryz.prog 31 #[.pointer (some ⟨g, 0, none⟩), .agg cs.toArray, .int .i64 e0] w (ToldAt bad (.agg zc28.toArray) (.agg cs.toArray) e0 w) := by
 have HT := Lib.hid hT
 have HL := Lib.hid hl
 have HONE := Lib.hid h1
 clear hT hl h1
 cases bad
 all_goals
  go_enter Tryz.func31, Tryz.ntmps31
  go_wp2_with (first
   | (refine wpList_box_blk rfl 28 4 (.tmp 1) rfl rfl rfl ?_; intro w1 hb1 ho1 hs1; have HB1 := Lib.hid hb1; have HO1 := Lib.hid ho1; have HS1 := Lib.hid hs1; clear hb1 ho1 hs1; generalize hH1 : w.heap.size = H1 at HB1 HS1 ⊢; have HH1 := Lib.hid hH1; clear hH1)
   | (refine wpList_alloc_blk rfl 28 6 rfl rfl zero28 ?_; intro w2 hb2 ho2 hs2; have HB2 := Lib.hid hb2; have HO2 := Lib.hid ho2; have HS2 := Lib.hid hs2; have hlt1 := HB1.out.lt; have HLT1 := Lib.hid hlt1; have HB12 := Lib.hid (HB1.out.only ho2 id); obtain ⟨hc5, hz5, hg5⟩ := ((HT.out.keep HO1.out).keep ho2).cell5; clear hb2 ho2 hs2 hlt1 hg5; generalize hH2 : w1.heap.size = H2 at HB2 HS2 HLT1 ⊢; have HH2 := Lib.hid hH2; clear hH2)
   | (refine wpList_alloc_blk rfl 28 8 rfl rfl zero28 ?_; intro w3 hb3 ho3 hs3; have HB3 := Lib.hid hb3; have HO3 := Lib.hid ho3; have HB23 := Lib.hid (HB2.out.only ho3 id); clear hb3 ho3 hs3; generalize hH3 : w2.heap.size = H3 at HB3 ⊢; have HH3 := Lib.hid hH3; clear hH3)
   | (refine wpList_load_blk (cs := zc28) rfl 28 (.tmp 8) rfl rfl HB3.out agg28 (info28s zc28_len) ?_)
   | (refine wpList_load_blk (cs := cs) rfl 28 (.tmp 4) rfl rfl HB12.out agg28 (info28s HL.out) ?_)
   | (refine wpList_store_blk (cs := zc28) rfl 28 (.tmp 6) (.tmp 13) rfl rfl rfl rfl HB23.out rfl (info28s zc28_len) zc28_one ?_; intro w4 hb4 ho4; have HB4 := Lib.hid hb4; have HO4 := Lib.hid ho4; clear hb4 ho4)
   | (refine wpList_store_blk (cs := cs) rfl 28 (.tmp 6) (.tmp 15) rfl rfl rfl rfl HB2.out (zc28_len.trans HL.out.symm) (info28s HL.out) HONE.out ?_; intro w4 hb4 ho4; have HB4 := Lib.hid hb4; have HO4 := Lib.hid ho4; clear hb4 ho4))
 ·skip
  refine bodyPost_ret (ret_cell_tmp rfl rfl HB4.out agg28 (info28s HL.out)) rfl ?_
  exact ⟨(HO1.out.trans HO2.out).then HO4.out (fun i hi e => by have := HS1.out; have := HH1.out; have := HH2.out; omega), rfl⟩
 ·refine bodyPost_ret (ret_cell_tmp rfl rfl HB4.out agg28 (info28s zc28_len)) rfl ?_
  exact ⟨((HO1.out.trans HO2.out).trans HO3.out).then HO4.out (fun i hi e => by have := HS1.out; have := HH1.out; have := HH2.out; omega), rfl⟩
def zc35 : List Value := .int .u64 0 :: .int .u64 0 :: (u8s (zero8 32) ++ u8s (zero8 64))
theorem zero35 : (Tryz.prog.info? 35).bind (·.zero) = some (.agg zc35.toArray) := by kernel_rfl
theorem info35 : (Tryz.prog.info? 35).map (·.size) = some 98 := by kernel_rfl
theorem agg35 : (Tryz.prog.underlying 35).map aggD = some true := by kernel_rfl
theorem zc35_len : zc35.length = 98 := by decide +kernel
theorem zc35_one : zc35.all (·.oneCell') = true := by decide +kernel
theorem info35s {cs : List Value} (h : cs.length = 98) : (Tryz.prog.info? 35).map (·.size) = some cs.toArray.size := by rw [List.size_toArray, h]; exact info35
set_option maxRecDepth 100000 in
set_option maxHeartbeats 1600000 in
theorem told_head {X : Nat → Prop} {g : Nat} {v : JV} {bad : Bool} {w : World} {cs : List Value} {e0 : Int} (hT : TK X w g v bad) (hl : cs.length = 98) (h1 : cs.all (·.oneCell') = true) :
  Calls Tryz.prog 38 #[.pointer (some ⟨g, 0, none⟩), .agg cs.toArray, .int .i64 e0] w (ToldAt bad (.agg zc35.toArray) (.agg cs.toArray) e0 w) := by
 have HT := Lib.hid hT
 have HL := Lib.hid hl
 have HONE := Lib.hid h1
 clear hT hl h1
 cases bad
 all_goals
  go_enter Tryz.func38, Tryz.ntmps38
  go_wp2_with (first
   | (refine wpList_box_blk rfl 35 4 (.tmp 1) rfl rfl rfl ?_; intro w1 hb1 ho1 hs1; have HB1 := Lib.hid hb1; have HO1 := Lib.hid ho1; have HS1 := Lib.hid hs1; clear hb1 ho1 hs1; generalize hH1 : w.heap.size = H1 at HB1 HS1 ⊢; have HH1 := Lib.hid hH1; clear hH1)
   | (refine wpList_alloc_blk rfl 35 6 rfl rfl zero35 ?_; intro w2 hb2 ho2 hs2; have HB2 := Lib.hid hb2; have HO2 := Lib.hid ho2; have HS2 := Lib.hid hs2; have hlt1 := HB1.out.lt; have HLT1 := Lib.hid hlt1; have HB12 := Lib.hid (HB1.out.only ho2 id); obtain ⟨hc5, hz5, hg5⟩ := ((HT.out.keep HO1.out).keep ho2).cell5; clear hb2 ho2 hs2 hlt1 hg5; generalize hH2 : w1.heap.size = H2 at HB2 HS2 HLT1 ⊢; have HH2 := Lib.hid hH2; clear hH2)
   | (refine wpList_alloc_blk rfl 35 8 rfl rfl zero35 ?_; intro w3 hb3 ho3 hs3; have HB3 := Lib.hid hb3; have HO3 := Lib.hid ho3; have HB23 := Lib.hid (HB2.out.only ho3 id); clear hb3 ho3 hs3; generalize hH3 : w2.heap.size = H3 at HB3 ⊢; have HH3 := Lib.hid hH3; clear hH3)
   | (refine wpList_load_blk (cs := zc35) rfl 35 (.tmp 8) rfl rfl HB3.out agg35 (info35s zc35_len) ?_)
   | (refine wpList_load_blk (cs := cs) rfl 35 (.tmp 4) rfl rfl HB12.out agg35 (info35s HL.out) ?_)
   | (refine wpList_store_blk (cs := zc35) rfl 35 (.tmp 6) (.tmp 13) rfl rfl rfl rfl HB23.out rfl (info35s zc35_len) zc35_one ?_; intro w4 hb4 ho4; have HB4 := Lib.hid hb4; have HO4 := Lib.hid ho4; clear hb4 ho4)
   | (refine wpList_store_blk (cs := cs) rfl 35 (.tmp 6) (.tmp 15) rfl rfl rfl rfl HB2.out (zc35_len.trans HL.out.symm) (info35s HL.out) HONE.out ?_; intro w4 hb4 ho4; have HB4 := Lib.hid hb4; have HO4 := Lib.hid ho4; clear hb4 ho4))
 ·skip
  refine bodyPost_ret (ret_cell_tmp rfl rfl HB4.out agg35 (info35s HL.out)) rfl ?_
  exact ⟨(HO1.out.trans HO2.out).then HO4.out (fun i hi e => by have := HS1.out; have := HH1.out; have := HH2.out; omega), rfl⟩
 ·refine bodyPost_ret (ret_cell_tmp rfl rfl HB4.out agg35 (info35s zc35_len)) rfl ?_
  exact ⟨((HO1.out.trans HO2.out).trans HO3.out).then HO4.out (fun i hi e => by have := HS1.out; have := HH1.out; have := HH2.out; omega), rfl⟩
end Go.Proofs.YtjehnejgojgahaaGreatDoor
