/-
  A part of the proof of MessageTakes: the texts V1.
-/
import Derived.Test.YtjehnejgojgahaaGreatDoorK21
import Derived.Shelf.Unicode.ValidAny
namespace Go.Proofs.YtjehnejgojgahaaGreatDoor
set_option linter.unusedVariables false
set_option linter.unusedSimpArgs false
open Go Go.RowKit Go.Lib Go.Shelf Go.Proofs
theorem BytesAt.tail {w : World} {A : Option Addr} {t : ByteArray} {i : Nat} (h : BytesAt w A t.data.toList) (hi : i ≤ t.size) :
  BytesAt w (if t.size = i then A else Option.map (fun x => x.add i) A) (t.extract i t.size).data.toList := by
 have := h.piece (c := t.size) (i := i) (m := t.size) (by rw [← Lib.size_eq]; exact Nat.le_refl _) (by rw [← Lib.size_eq]; exact Nat.le_refl _)
 rw [Lib.ext_list]
 rwa [List.take_of_length_le (by rw [← Lib.size_eq]; exact Nat.le_refl _)] at this
theorem BytesAt.get {w : World} {A : Option Addr} {t : ByteArray} {i : Nat} (h : BytesAt w A t.data.toList) (hi : i < t.size) :
  ∃ b o, A = some ⟨b, o, none⟩ ∧ w.cell? ⟨b, o + i, none⟩ = some (.int .u8 ((t.get! i).toNat : Int)) := by
 rw [Lib.size_eq] at hi
 refine h i _ ?_
 rw [← Lib.getD_get!', List.getD_eq_getElem?_getD, List.getElem?_eq_getElem hi]; rfl
structure VM (w : World) (ANS : Bool) (t : ByteArray) (A : Option Addr) (wx : World) : Prop where
 only : Only (fun _ => False) w wx
 bytes : BytesAt wx A t.data.toList
 ans : Lib.validD t.data.toList = ANS
 len : t.size ≤ 2 ^ 40
theorem VM.drewN {w : World} {ANS : Bool} {t : ByteArray} {A : Option Addr} {wx : World} (h : VM w ANS t A wx) (q : Nat) : VM w ANS t A (wx.drewN q) := ⟨h.only.drewN q, h.bytes, h.ans, h.len⟩
theorem VM.alloc {w : World} {ANS : Bool} {t : ByteArray} {A : Option Addr} {wx : World} (h : VM w ANS t A wx) (o : Obj) : VM w ANS t A (wx.alloc o) :=
 ⟨h.only.alloc o, h.bytes.only (G := fun _ => False) ((Only.refl _ _).alloc o) (fun _ _ _ => id), h.ans, h.len⟩
theorem VM.skip {w : World} {ANS : Bool} {t : ByteArray} {A : Option Addr} {wx : World} (h : VM w ANS t A wx) (k : Nat) (hk : k ≤ t.size) (hv : Lib.validD (t.extract k t.size).data.toList = ANS) :
  VM w ANS (t.extract k t.size) (if t.size = k then A else Option.map (fun x => x.add k) A) wx :=
 ⟨h.only, h.bytes.tail hk, hv, by rw [Lib.ext_size]; have := h.len; omega⟩
theorem VM.asc {w : World} {ANS : Bool} {t : ByteArray} {A : Option Addr} {wx : World} (h : VM w ANS t A wx) (k : Nat) (hk : k ≤ t.size) (ha : Lib.Asc t k) :
  VM w ANS (t.extract k t.size) (if t.size = k then A else Option.map (fun x => x.add k) A) wx :=
 h.skip k hk (by rw [Lib.valid_skip t k ha]; exact h.ans)
theorem word_at {w : World} {ANS : Bool} {t : ByteArray} {A : Option Addr} {W : World} (hm : VM w ANS t A W) (k : Nat) (h8 : k + 8 ≤ t.size) {X : Option Addr} {N : Nat}
  (hX : (if t.size = k then A else Option.map (fun x => Addr.add x k) A) = X) (hN : t.size - k = N) :
  ∃ a : Nat, a < 18446744073709551616 ∧ (a &&& 9259542123273814144 = 0 → Lib.Asc (t.extract k t.size) 8) ∧
   ∀ q, Calls Tryz.prog 128 #[.slice X N N] (W.drewN q) fun e w' => e = .returned (.int .u64 a) ∧ ∃ m, w' = (W.drewN q).drewN m := by
 have hb := hm.bytes.tail (i := k) (by omega)
 rw [hX] at hb
 have hs : (t.extract k t.size).size = N := by rw [Lib.ext_size]; exact hN
 exact ⟨_, Lib.word_lt _, (Lib.word_asc _ (by omega)).1, fun q => word_any (fun i x hx => hb i x hx) hs.symm (by omega)⟩
theorem word_at0 {w : World} {ANS : Bool} {t : ByteArray} {A : Option Addr} {W : World} (hm : VM w ANS t A W) (h8 : 8 ≤ t.size) :
  ∃ a : Nat, a < 18446744073709551616 ∧ (a &&& 9259542123273814144 = 0 → Lib.Asc t 8) ∧
   ∀ q, Calls Tryz.prog 128 #[.slice A t.size t.size] (W.drewN q) fun e w' => e = .returned (.int .u64 a) ∧ ∃ m, w' = (W.drewN q).drewN m :=
 ⟨_, Lib.word_lt _, (Lib.word_asc _ h8).1, fun q => word_any (fun i x hx => hm.bytes i x hx) rfl h8⟩
set_option maxRecDepth 100000 in
set_option maxHeartbeats 8000000 in
theorem validSaid : ValidSaid := by
 intro A n c l w hB hn hnc hl hG
 subst hn
 obtain ⟨s, hs⟩ : ∃ s : ByteArray, s = ⟨l.toArray⟩ := ⟨_, rfl⟩
 have hsl : s.data.toList = l := by subst hs; rfl
 have hsz : s.size = l.length := by rw [Lib.size_eq, hsl]
 rw [← hsz] at hnc hl ⊢
 rw [← hsl] at hB ⊢
 clear hs hsl hsz
 obtain ⟨ANS, hANS⟩ : ∃ ANS, Lib.validD s.data.toList = ANS := ⟨_, rfl⟩
 rw [hANS]
 have hnz : (s.size : Int) ≤ (c : Int) := by omega
 have HB := Lib.hid hB
 have HL := Lib.hid hl
 clear hB hl
 go_enter Tryz.func106, Tryz.ntmps106
 go_wp2
 go_loopg [0] (s.size + 1) (fun gk s0 wx => ∃ (t : ByteArray) (A' : Option Addr), s0 = .slice A' t.size t.size ∧ VM w ANS t A' wx ∧ t.size < gk)
 case atStart => exact ⟨s, A, rfl, ⟨Only.refl _ _, HB.out, hANS, HL.out⟩, by omega⟩
 case round =>
  obtain ⟨t, A', rfl, hm, hg⟩ := hrel
  have HM := Lib.hid hm
  clear hm
  by_cases h0 : 0 < t.size
  ·obtain ⟨g', rfl⟩ : ∃ g', gk = g' + 1 := ⟨gk - 1, by omega⟩
   have h0z : (0 : Int) < (t.size : Int) := by omega
   obtain ⟨b, o, rfl, c0⟩ := HM.out.bytes.get h0
   rw [Nat.add_zero] at c0
   obtain ⟨x0, hx0⟩ : ∃ x0, t.get! 0 = x0 := ⟨_, rfl⟩
   rw [hx0] at c0
   have hx0lt : x0.toNat < 256 := x0.toNat_lt
   by_cases hasc : x0.toNat < 128
   ·as_aux_lemma =>
     have hascz : (x0.toNat : Int) < 128 := by omega
     have h1z : (1 : Int) ≤ (t.size : Int) := by omega
     have hm1 := HM.out.asc 1 (by omega) (Lib.asc_one t h0 (by rw [hx0]; exact hasc))
     obtain ⟨t1, ht1⟩ : ∃ t1, t.extract 1 t.size = t1 := ⟨_, rfl⟩
     have z1 : t.size - 1 = t1.size := by rw [← ht1, Lib.ext_size]
     rw [ht1] at hm1
     go_upto_region 5 with fail
     obtain ⟨A0, hA0⟩ : ∃ A0, A0 = some (⟨b, o, none⟩ : Addr) := ⟨_, rfl⟩
     rw [← hA0] at hm1
     simp only [← hA0]
     clear hA0 c0
     obtain ⟨A1, hA1⟩ : ∃ A1, (if t.size = 1 then A0 else Option.map (fun x => (⟨x.block, x.off + 1, none⟩ : Addr)) A0) = A1 := ⟨_, rfl⟩
     have hm1 : VM w ANS t1 A1 wr := by rw [← hA1]; exact hm1
     clear ht1 HM
     go_upto_region 6 with fail
     by_cases c8 : 8 < t1.size
     ·have c8z : (8 : Int) < (t1.size : Int) := by omega
      have s8z : (8 : Int) ≤ (t1.size : Int) := by omega
      obtain ⟨a1, la1, ka1, cw1⟩ := word_at0 hm1 (by omega)
      have hand1 : bits .and .u64 (a1 : Int) 9259542123273814144 = ((a1 &&& 9259542123273814144 : Nat) : Int) := u64_and_nat a1 9259542123273814144 la1 (by omega)
      obtain ⟨Z1, hZ1⟩ : ∃ Z1, a1 &&& 9259542123273814144 = Z1 := ⟨_, rfl⟩
      rw [hZ1] at hand1 ka1
      by_cases hz1 : Z1 = 0
      ·as_aux_lemma =>
        have hz1b : ((Z1 : Int) == 0) = true := by simp [hz1]
        have hm2 := hm1.asc 8 (by omega) (ka1 hz1)
        obtain ⟨t2, ht2⟩ : ∃ t2, t1.extract 8 t1.size = t2 := ⟨_, rfl⟩
        have z2 : t1.size - 8 = t2.size := by rw [← ht2, Lib.ext_size]
        obtain ⟨A2, hA2⟩ : ∃ A2, (if t1.size = 8 then A1 else Option.map (fun x => (⟨x.block, x.off + 8, none⟩ : Addr)) A1) = A2 := ⟨_, rfl⟩
        have hA2' : Option.map (fun x => (⟨x.block, x.off + 8, none⟩ : Addr)) A1 = A2 := by rw [← hA2, if_neg (by omega)]
        have hm2 : VM w ANS t2 A2 wr := by rw [← hA2, ← ht2]; exact hm2
        clear ka1 ht2
        go_upto_region 8 with (go_at_call 128; refine (cw1 0).mono ?_; rintro e W1 ⟨rfl, q1, rfl⟩)
        have hm2' := hm2.drewN q1
        refine wp_gen0 (fun W => VM w ANS t2 A2 W) hm2' ?_
        intro wq hm2q
        clear cw1 hm1 hm2 hm2'
        by_cases c16 : 16 < t2.size
        ·as_aux_lemma =>
          have c16b : decide ((16 : Int) < (t2.size : Int)) = true := by simp; omega
          have s8y : (8 : Int) ≤ (t2.size : Int) := by omega
          have s16y : (16 : Int) ≤ (t2.size : Int) := by omega
          obtain ⟨X8, hX8⟩ : ∃ X8, (if t2.size = 8 then A2 else Option.map (fun x => (⟨x.block, x.off + 8, none⟩ : Addr)) A2) = X8 := ⟨_, rfl⟩
          have hX8' : Option.map (fun x => (⟨x.block, x.off + 8, none⟩ : Addr)) A2 = X8 := by rw [← hX8, if_neg (by omega)]
          obtain ⟨N8, hN8⟩ : ∃ N8, t2.size - 8 = N8 := ⟨_, rfl⟩
          obtain ⟨a2, la2, ka2, cw2⟩ := word_at0 hm2q (by omega)
          obtain ⟨a3, la3, ka3, cw3⟩ := word_at hm2q 8 (by omega) hX8 hN8
          have hor2 : bits .or .u64 (a2 : Int) (a3 : Int) = ((a2 ||| a3 : Nat) : Int) := u64_or_nat a2 a3 la2 la3
          have lor2 : a2 ||| a3 < 18446744073709551616 := Nat.or_lt_two_pow (n := 64) la2 la3
          have hand2 : bits .and .u64 ((a2 ||| a3 : Nat) : Int) 9259542123273814144 = (((a2 ||| a3) &&& 9259542123273814144 : Nat) : Int) := u64_and_nat _ 9259542123273814144 lor2 (by omega)
          have k2 : (a2 ||| a3) &&& 9259542123273814144 = 0 → Lib.Asc t2 16 := fun h0' => by
           obtain ⟨e1, e2⟩ := (Lib.or_mask a2 a3 _).1 h0'
           exact Lib.asc_add t2 8 8 (ka2 e1) (ka3 e2)
          obtain ⟨O2, hO2⟩ : ∃ O2, a2 ||| a3 = O2 := ⟨_, rfl⟩
          rw [hO2] at hor2 hand2 k2
          obtain ⟨Z2, hZ2⟩ : ∃ Z2, O2 &&& 9259542123273814144 = Z2 := ⟨_, rfl⟩
          rw [hZ2] at hand2 k2
          clear ka2 ka3 lor2 hO2 hZ2
          have CW2 := Lib.hid cw2
          have CW3 := Lib.hid cw3
          clear cw2 cw3
          by_cases hz2 : Z2 = 0
          ·as_aux_lemma =>
            have hz2b : ((Z2 : Int) == 0) = true := by simp [hz2]
            have hm3 := hm2q.asc 16 (by omega) (k2 hz2)
            obtain ⟨t3, ht3⟩ : ∃ t3, t2.extract 16 t2.size = t3 := ⟨_, rfl⟩
            have z3 : t2.size - 16 = t3.size := by rw [← ht3, Lib.ext_size]
            obtain ⟨A3, hA3⟩ : ∃ A3, (if t2.size = 16 then A2 else Option.map (fun x => (⟨x.block, x.off + 16, none⟩ : Addr)) A2) = A3 := ⟨_, rfl⟩
            have hA3' : Option.map (fun x => (⟨x.block, x.off + 16, none⟩ : Addr)) A2 = A3 := by rw [← hA3, if_neg (by omega)]
            have hm3 : VM w ANS t3 A3 wq := by rw [← hA3, ← ht3]; exact hm3
            clear ht3 k2
            go_wp2_with fail
            go_quiet (first | (go_at_call 128; with_reducible exact Calls.quiet_of (CW2.out _)) | (go_at_call 128; with_reducible exact Calls.quiet_of (CW3.out _)))
            have hm3q := hm3.drewN nq
            generalize wq.drewN nq = wq2 at hm3q ⊢
            clear hm3 hm2q CW2 CW3
            go_wp2
            have lt3 : t3.size ≤ g' := by omega
            clear c16b
            go_loopg [0] (t3.size + 1) (fun g2 s0 wx => ∃ (u : ByteArray) (AU : Option Addr), s0 = .slice AU u.size u.size ∧ VM w ANS u AU wx ∧ u.size < g2 ∧ u.size ≤ t3.size)
            case atStart => exact ⟨t3, A3, rfl, hm3q, by omega, Nat.le_refl _⟩
            case round =>
             obtain ⟨u, AU, rfl, hmu, hgu, hut⟩ := hrel
             by_cases c32 : 32 < u.size
             ·obtain ⟨g3, rfl⟩ : ∃ g3, gk = g3 + 1 := ⟨gk - 1, by omega⟩
              have c32b : decide ((32 : Int) < (u.size : Int)) = true := by simp; omega
              have y8 : (8 : Int) ≤ (u.size : Int) := by omega
              have y16 : (16 : Int) ≤ (u.size : Int) := by omega
              have y24 : (24 : Int) ≤ (u.size : Int) := by omega
              have y32 : (32 : Int) ≤ (u.size : Int) := by omega
              obtain ⟨B8, hB8⟩ : ∃ B8, (if u.size = 8 then AU else Option.map (fun x => (⟨x.block, x.off + 8, none⟩ : Addr)) AU) = B8 := ⟨_, rfl⟩
              have hB8' : Option.map (fun x => (⟨x.block, x.off + 8, none⟩ : Addr)) AU = B8 := by rw [← hB8, if_neg (by omega)]
              obtain ⟨B16, hB16⟩ : ∃ B16, (if u.size = 16 then AU else Option.map (fun x => (⟨x.block, x.off + 16, none⟩ : Addr)) AU) = B16 := ⟨_, rfl⟩
              have hB16' : Option.map (fun x => (⟨x.block, x.off + 16, none⟩ : Addr)) AU = B16 := by rw [← hB16, if_neg (by omega)]
              obtain ⟨B24, hB24⟩ : ∃ B24, (if u.size = 24 then AU else Option.map (fun x => (⟨x.block, x.off + 24, none⟩ : Addr)) AU) = B24 := ⟨_, rfl⟩
              have hB24' : Option.map (fun x => (⟨x.block, x.off + 24, none⟩ : Addr)) AU = B24 := by rw [← hB24, if_neg (by omega)]
              obtain ⟨B32, hB32⟩ : ∃ B32, (if u.size = 32 then AU else Option.map (fun x => (⟨x.block, x.off + 32, none⟩ : Addr)) AU) = B32 := ⟨_, rfl⟩
              have hB32' : Option.map (fun x => (⟨x.block, x.off + 32, none⟩ : Addr)) AU = B32 := by rw [← hB32, if_neg (by omega)]
              obtain ⟨M8, hM8⟩ : ∃ M8, u.size - 8 = M8 := ⟨_, rfl⟩
              obtain ⟨M16, hM16⟩ : ∃ M16, u.size - 16 = M16 := ⟨_, rfl⟩
              obtain ⟨M24, hM24⟩ : ∃ M24, u.size - 24 = M24 := ⟨_, rfl⟩
              obtain ⟨d0, ld0, kd0, cd0⟩ := word_at0 hmu (by omega)
              obtain ⟨d1, ld1, kd1, cd1⟩ := word_at hmu 8 (by omega) hB8 hM8
              obtain ⟨d2, ld2, kd2, cd2⟩ := word_at hmu 16 (by omega) hB16 hM16
              obtain ⟨d3, ld3, kd3, cd3⟩ := word_at hmu 24 (by omega) hB24 hM24
              have ho1 : bits .or .u64 (d0 : Int) (d1 : Int) = ((d0 ||| d1 : Nat) : Int) := u64_or_nat d0 d1 ld0 ld1
              have ho2 : bits .or .u64 (d2 : Int) (d3 : Int) = ((d2 ||| d3 : Nat) : Int) := u64_or_nat d2 d3 ld2 ld3
              have lo1 : d0 ||| d1 < 18446744073709551616 := Nat.or_lt_two_pow (n := 64) ld0 ld1
              have lo2 : d2 ||| d3 < 18446744073709551616 := Nat.or_lt_two_pow (n := 64) ld2 ld3
              have ho3 : bits .or .u64 ((d0 ||| d1 : Nat) : Int) ((d2 ||| d3 : Nat) : Int) = (((d0 ||| d1) ||| (d2 ||| d3) : Nat) : Int) := u64_or_nat _ _ lo1 lo2
              have lo3 : (d0 ||| d1) ||| (d2 ||| d3) < 18446744073709551616 := Nat.or_lt_two_pow (n := 64) lo1 lo2
              have hand3 : bits .and .u64 (((d0 ||| d1) ||| (d2 ||| d3) : Nat) : Int) 9259542123273814144 = ((((d0 ||| d1) ||| (d2 ||| d3)) &&& 9259542123273814144 : Nat) : Int) := u64_and_nat _ 9259542123273814144 lo3 (by omega)
              have k3 : ((d0 ||| d1) ||| (d2 ||| d3)) &&& 9259542123273814144 = 0 → Lib.Asc u 32 := fun h0' => by
               obtain ⟨e01, e23⟩ := (Lib.or_mask _ _ _).1 h0'
               obtain ⟨e0, e1⟩ := (Lib.or_mask _ _ _).1 e01
               obtain ⟨e2, e3⟩ := (Lib.or_mask _ _ _).1 e23
               have s16 : Lib.Asc u 16 := Lib.asc_add u 8 8 (kd0 e0) (kd1 e1)
               have s24 : Lib.Asc u 24 := Lib.asc_add u 16 8 s16 (kd2 e2)
               exact Lib.asc_add u 24 8 s24 (kd3 e3)
              obtain ⟨P1, hP1⟩ : ∃ P1, d0 ||| d1 = P1 := ⟨_, rfl⟩
              obtain ⟨P2, hP2⟩ : ∃ P2, d2 ||| d3 = P2 := ⟨_, rfl⟩
              rw [hP1, hP2] at ho3 hand3 k3
              rw [hP1] at ho1
              rw [hP2] at ho2
              obtain ⟨P3, hP3⟩ : ∃ P3, P1 ||| P2 = P3 := ⟨_, rfl⟩
              rw [hP3] at ho3 hand3 k3
              obtain ⟨Z3, hZ3⟩ : ∃ Z3, P3 &&& 9259542123273814144 = Z3 := ⟨_, rfl⟩
              rw [hZ3] at hand3 k3
              clear kd0 kd1 kd2 kd3 lo1 lo2 lo3 hP1 hP2 hP3 hZ3
              have CD0 := Lib.hid cd0
              have CD1 := Lib.hid cd1
              have CD2 := Lib.hid cd2
              have CD3 := Lib.hid cd3
              clear cd0 cd1 cd2 cd3
              by_cases hz3 : Z3 = 0
              ·as_aux_lemma =>
                have hz3b : ((Z3 : Int) == 0) = true := by simp [hz3]
                have hmv := hmu.asc 32 (by omega) (k3 hz3)
                obtain ⟨v, hv⟩ : ∃ v, u.extract 32 u.size = v := ⟨_, rfl⟩
                have zv : u.size - 32 = v.size := by rw [← hv, Lib.ext_size]
                rw [show (if u.size = 32 then AU else Option.map (fun x => Addr.add x 32) AU) = B32 from hB32, hv] at hmv
                clear hv k3
                go_wp2_with fail
                go_quiet (first | (go_at_call 128; with_reducible exact Calls.quiet_of (CD0.out _)) | (go_at_call 128; with_reducible exact Calls.quiet_of (CD1.out _)) | (go_at_call 128; with_reducible exact Calls.quiet_of (CD2.out _)) | (go_at_call 128; with_reducible exact Calls.quiet_of (CD3.out _)))
                go_wp2
                go_roundg g3
                case measure => omega
                case rel => exact ⟨v, B32, rfl, hmv.drewN _, by omega, by omega⟩
              ·as_aux_lemma =>
                have hz3b : ((Z3 : Int) == 0) = false := by simp; omega
                clear k3
                go_wp2_with fail
                go_quiet (first | (go_at_call 128; with_reducible exact Calls.quiet_of (CD0.out _)) | (go_at_call 128; with_reducible exact Calls.quiet_of (CD1.out _)) | (go_at_call 128; with_reducible exact Calls.quiet_of (CD2.out _)) | (go_at_call 128; with_reducible exact Calls.quiet_of (CD3.out _)))
                go_wp2
                go_roundg g'
                case measure => omega
                case rel => exact ⟨u, AU, rfl, hmu.drewN _, by omega⟩
             ·as_aux_lemma =>
               have c32b : decide ((32 : Int) < (u.size : Int)) = false := by simp; omega
               go_wp2_with fail
               go_quiet (fail)
               go_wp2
               go_roundg g'
               case measure => omega
               case rel => exact ⟨u, AU, rfl, hmu.drewN _, by omega⟩
          ·as_aux_lemma =>
            have hz2b : ((Z2 : Int) == 0) = false := by simp; omega
            go_wp2_with fail
            go_quiet (first | (go_at_call 128; with_reducible exact Calls.quiet_of (CW2.out _)) | (go_at_call 128; with_reducible exact Calls.quiet_of (CW3.out _)))
            go_wp2
            go_roundg g'
            case measure => omega
            case rel => exact ⟨t2, A2, rfl, hm2q.drewN _, by omega⟩
        ·as_aux_lemma =>
          have c16b : decide ((16 : Int) < (t2.size : Int)) = false := by simp; omega
          go_wp2_with fail
          go_quiet (fail)
          go_wp2
          go_roundg g'
          case measure => omega
          case rel => exact ⟨t2, A2, rfl, hm2q.drewN _, by omega⟩
      ·as_aux_lemma =>
        have hz1b : ((Z1 : Int) == 0) = false := by simp; omega
        go_wp2_with (go_at_call 128; refine (cw1 0).mono ?_; rintro e W1 ⟨rfl, q1, rfl⟩)
        go_roundg g'
        case measure => omega
        case rel => exact ⟨t1, A1, rfl, hm1.drewN _, by omega⟩
     ·have c8z : ¬ ((8 : Int) < (t1.size : Int)) := by omega
      go_wp2
      go_roundg g'
      case measure => omega
      case rel => exact ⟨t1, A1, rfl, hm1, by omega⟩
   ·have hge : 128 ≤ x0.toNat := by omega
    have hascz : ¬ ((x0.toNat : Int) < 128) := by omega
    obtain ⟨x1, hx1⟩ : ∃ x1, t.get! 1 = x1 := ⟨_, rfl⟩
    obtain ⟨x2, hx2⟩ : ∃ x2, t.get! 2 = x2 := ⟨_, rfl⟩
    obtain ⟨x3, hx3⟩ : ∃ x3, t.get! 3 = x3 := ⟨_, rfl⟩
    have l1 := x1.toNat_lt; have l2 := x2.toNat_lt; have l3 := x3.toNat_lt
    have hne : t.data.toList ≠ [] := fun h => by rw [Lib.size_eq, h] at h0; simp at h0
    have hlead := Lib.validD_lead t.data.toList hne (by rw [Lib.getD_get!', hx0]; exact hge)
    rw [Lib.getD_get!', Lib.getD_get!', Lib.getD_get!', Lib.getD_get!', hx0, hx1, hx2, hx3, ← Lib.size_eq, HM.out.ans] at hlead
    have hTr := (hG.only HM.out.only (fun _ _ => id)).utf
    have hc0 := hTr.1 x0.toNat hx0lt
    have hXlt : Lib.firstT x0.toNat < 256 := by rcases Lib.firstT_cases x0.toNat with h | h | h | h | h | h | h | h | h <;> omega
    obtain ⟨X, hX⟩ : ∃ X, Lib.firstT x0.toNat = X := ⟨_, rfl⟩
    rw [hX] at hc0 hXlt hlead
    have h7 := and7 ⟨X, hXlt⟩
    simp only at h7
    have ha0 : wr.cell? ⟨1, X / 16 * 2, none⟩ = some (.int .u8 (Lib.accLo (X / 16))) := by rw [Nat.mul_comm]; exact (hTr.2 (X / 16) (by omega)).1
    have ha1 : wr.cell? ⟨1, X / 16 * 2 + 1, none⟩ = some (.int .u8 (Lib.accHi (X / 16))) := by rw [Nat.mul_comm]; exact (hTr.2 (X / 16) (by omega)).2
    obtain ⟨LO, hLO⟩ : ∃ LO, Lib.accLo (X / 16) = LO := ⟨_, rfl⟩
    obtain ⟨HI, hHI⟩ : ∃ HI, Lib.accHi (X / 16) = HI := ⟨_, rfl⟩
    rw [hLO] at ha0 hlead
    rw [hHI] at ha1 hlead
    obtain ⟨SZ, hSZ⟩ : ∃ SZ, X % 8 = SZ := ⟨_, rfl⟩
    rw [hSZ] at hlead
    have HLEAD := Lib.hid hlead
    clear hTr hX hLO hHI hne hx0 hlead
    by_cases s2 : SZ = 2
    ·subst s2
     have hSZz : (X : Int) % 8 = 2 := by omega
     have hlead := HLEAD.out
     simp only [Lib.checkN, Nat.reduceEqDiff, if_true, if_false] at hlead
     have HLD := Lib.hid hlead
     clear hlead HLEAD
     go_upto_region 18 with fail
     have hmx := HM.out.alloc (.cells #[.int .u8 LO, .int .u8 HI] 230)
     have kb := Blk.new wr [.int .u8 LO, .int .u8 HI] 230
     refine wp_gen0 (fun W => VM w ANS t (some ⟨b, o, none⟩) W ∧ Blk W wr.heap.size [.int .u8 LO, .int .u8 HI] 230) ⟨hmx, kb⟩ ?_
     rintro W5 ⟨hmx5, kb5⟩
     have HMX := Lib.hid hmx5
     have k0 := kb5.cell 0 rfl
     have k1 := kb5.cell 1 rfl
     have C1 := Lib.hid (show 1 < t.size → W5.cell? ⟨b, o + 1, none⟩ = some (.int .u8 (x1.toNat : Int)) from fun h => by obtain ⟨b', o', e, h'⟩ := HMX.out.bytes.get h; cases e; rw [← hx1]; exact h')
     have C2 := Lib.hid (show 2 < t.size → W5.cell? ⟨b, o + 2, none⟩ = some (.int .u8 (x2.toNat : Int)) from fun h => by obtain ⟨b', o', e, h'⟩ := HMX.out.bytes.get h; cases e; rw [← hx2]; exact h')
     have C3 := Lib.hid (show 3 < t.size → W5.cell? ⟨b, o + 3, none⟩ = some (.int .u8 (x3.toNat : Int)) from fun h => by obtain ⟨b', o', e, h'⟩ := HMX.out.bytes.get h; cases e; rw [← hx3]; exact h')
     clear hmx kb hmx5 kb5 hx1 hx2 hx3
     generalize wr.heap.size = H at k0 k1 ⊢
     go_cut [103] from 85 to 103 (fun cc wx => cc = .bool (decide (t.size < 2 ∨ x1.toNat < LO ∨ HI < x1.toNat)) ∧ VM w ANS t (some ⟨b, o, none⟩) wx)
     case first =>
      by_cases q0 : t.size < 2
      ·as_aux_lemma =>
        have q0b : decide ((t.size : Int) < (2 : Int)) = true := by simp; omega
        go_wp2_with fail
        go_quiet (fail)
        go_wp2
        go_meet
        exact ⟨congrArg Value.bool (decide_eq_true (p := t.size < 2 ∨ x1.toNat < LO ∨ HI < x1.toNat) (by omega)).symm, HMX.out.drewN _⟩
      ·as_aux_lemma =>
        have q0b : decide ((t.size : Int) < (2 : Int)) = false := by simp; omega
        obtain ⟨c1', d1⟩ : (1 : Int) < (t.size : Int) ∧ 1 < t.size := ⟨by omega, by omega⟩
        have e1 := C1.out d1
        by_cases q1 : x1.toNat < LO
        ·as_aux_lemma =>
          have q1b : decide ((x1.toNat : Int) < (LO : Int)) = true := by simp; omega
          go_wp2_with fail
          go_quiet (fail)
          go_wp2
          go_meet
          exact ⟨congrArg Value.bool (decide_eq_true (p := t.size < 2 ∨ x1.toNat < LO ∨ HI < x1.toNat) (by omega)).symm, HMX.out.drewN _⟩
        ·as_aux_lemma =>
          have q1b : decide ((x1.toNat : Int) < (LO : Int)) = false := by simp; omega
          by_cases q2 : HI < x1.toNat
          ·as_aux_lemma =>
            have q2b : decide ((HI : Int) < (x1.toNat : Int)) = true := by simp; omega
            go_wp2_with fail
            go_quiet (fail)
            go_wp2
            go_meet
            exact ⟨congrArg Value.bool (decide_eq_true (p := t.size < 2 ∨ x1.toNat < LO ∨ HI < x1.toNat) (by omega)).symm, HMX.out.drewN _⟩
          ·as_aux_lemma =>
            have q2b : decide ((HI : Int) < (x1.toNat : Int)) = false := by simp; omega
            go_wp2_with fail
            go_quiet (fail)
            go_wp2
            go_meet
            exact ⟨congrArg Value.bool (decide_eq_false (p := t.size < 2 ∨ x1.toNat < LO ∨ HI < x1.toNat) (by omega)).symm, HMX.out.drewN _⟩
     case rest =>
      obtain ⟨rfl, hbc⟩ := hcut
      have hlead := HLD.out
      by_cases hb : t.size < 2 ∨ x1.toNat < LO ∨ HI < x1.toNat
      ·as_aux_lemma =>
        have hbd : decide (t.size < 2 ∨ x1.toNat < LO ∨ HI < x1.toNat) = true := decide_eq_true hb
        rw [if_pos hb] at hlead
        have HO := Lib.hid hbc.only
        clear hbc
        go_wp2
        all_goals (go_ret; exact ⟨by first | rfl | rw [hlead], HO.out⟩)
      ·as_aux_lemma =>
        have hbd : decide (t.size < 2 ∨ x1.toNat < LO ∨ HI < x1.toNat) = false := decide_eq_false hb
        rw [if_neg hb] at hlead
        have hszk : 2 ≤ t.size := by omega
        have hszkz : (2 : Int) ≤ (t.size : Int) := by omega
        have hmk := hbc.skip 2 (by omega) (by rw [Lib.ext_list]; exact hlead.symm)
        obtain ⟨A0, hA0⟩ : ∃ A0, A0 = some (⟨b, o, none⟩ : Addr) := ⟨_, rfl⟩
        rw [← hA0] at hmk
        simp only [← hA0]
        clear hA0
        obtain ⟨AK, hAK⟩ : ∃ AK, (if t.size = 2 then A0 else Option.map (fun x => (⟨x.block, x.off + 2, none⟩ : Addr)) A0) = AK := ⟨_, rfl⟩
        rw [show (if t.size = 2 then A0 else Option.map (fun x => Addr.add x 2) A0) = AK from hAK] at hmk
        obtain ⟨tk, htk⟩ : ∃ tk, t.extract 2 t.size = tk := ⟨_, rfl⟩
        have zk : t.size - 2 = tk.size := by rw [← htk, Lib.ext_size]
        rw [htk] at hmk
        clear htk hlead
        go_wp2
        go_roundg g'
        case measure => omega
        case rel => exact ⟨tk, AK, rfl, hmk, by omega⟩
    by_cases s3 : SZ = 3
    ·subst s3
     have hSZz : (X : Int) % 8 = 3 := by omega
     have hlead := HLEAD.out
     simp only [Lib.checkN, Nat.reduceEqDiff, if_true, if_false] at hlead
     have HLD := Lib.hid hlead
     clear hlead HLEAD
     go_upto_region 22 with fail
     have hmx := HM.out.alloc (.cells #[.int .u8 LO, .int .u8 HI] 230)
     have kb := Blk.new wr [.int .u8 LO, .int .u8 HI] 230
     refine wp_gen0 (fun W => VM w ANS t (some ⟨b, o, none⟩) W ∧ Blk W wr.heap.size [.int .u8 LO, .int .u8 HI] 230) ⟨hmx, kb⟩ ?_
     rintro W5 ⟨hmx5, kb5⟩
     have HMX := Lib.hid hmx5
     have k0 := kb5.cell 0 rfl
     have k1 := kb5.cell 1 rfl
     have C1 := Lib.hid (show 1 < t.size → W5.cell? ⟨b, o + 1, none⟩ = some (.int .u8 (x1.toNat : Int)) from fun h => by obtain ⟨b', o', e, h'⟩ := HMX.out.bytes.get h; cases e; rw [← hx1]; exact h')
     have C2 := Lib.hid (show 2 < t.size → W5.cell? ⟨b, o + 2, none⟩ = some (.int .u8 (x2.toNat : Int)) from fun h => by obtain ⟨b', o', e, h'⟩ := HMX.out.bytes.get h; cases e; rw [← hx2]; exact h')
     have C3 := Lib.hid (show 3 < t.size → W5.cell? ⟨b, o + 3, none⟩ = some (.int .u8 (x3.toNat : Int)) from fun h => by obtain ⟨b', o', e, h'⟩ := HMX.out.bytes.get h; cases e; rw [← hx3]; exact h')
     clear hmx kb hmx5 kb5 hx1 hx2 hx3
     generalize wr.heap.size = H at k0 k1 ⊢
     go_cut [138] from 108 to 138 (fun cc wx => cc = .bool (decide (t.size < 3 ∨ x1.toNat < LO ∨ HI < x1.toNat ∨ x2.toNat < 128 ∨ 191 < x2.toNat)) ∧ VM w ANS t (some ⟨b, o, none⟩) wx)
     case first =>
      by_cases q0 : t.size < 3
      ·as_aux_lemma =>
        have q0b : decide ((t.size : Int) < (3 : Int)) = true := by simp; omega
        go_wp2_with fail
        go_quiet (fail)
        go_wp2
        go_meet
        exact ⟨congrArg Value.bool (decide_eq_true (p := t.size < 3 ∨ x1.toNat < LO ∨ HI < x1.toNat ∨ x2.toNat < 128 ∨ 191 < x2.toNat) (by omega)).symm, HMX.out.drewN _⟩
      ·as_aux_lemma =>
        have q0b : decide ((t.size : Int) < (3 : Int)) = false := by simp; omega
        obtain ⟨c1', d1⟩ : (1 : Int) < (t.size : Int) ∧ 1 < t.size := ⟨by omega, by omega⟩
        have e1 := C1.out d1
        obtain ⟨c2', d2⟩ : (2 : Int) < (t.size : Int) ∧ 2 < t.size := ⟨by omega, by omega⟩
        have e2 := C2.out d2
        by_cases q1 : x1.toNat < LO
        ·as_aux_lemma =>
          have q1b : decide ((x1.toNat : Int) < (LO : Int)) = true := by simp; omega
          go_wp2_with fail
          go_quiet (fail)
          go_wp2
          go_meet
          exact ⟨congrArg Value.bool (decide_eq_true (p := t.size < 3 ∨ x1.toNat < LO ∨ HI < x1.toNat ∨ x2.toNat < 128 ∨ 191 < x2.toNat) (by omega)).symm, HMX.out.drewN _⟩
        ·as_aux_lemma =>
          have q1b : decide ((x1.toNat : Int) < (LO : Int)) = false := by simp; omega
          by_cases q2 : HI < x1.toNat
          ·as_aux_lemma =>
            have q2b : decide ((HI : Int) < (x1.toNat : Int)) = true := by simp; omega
            go_wp2_with fail
            go_quiet (fail)
            go_wp2
            go_meet
            exact ⟨congrArg Value.bool (decide_eq_true (p := t.size < 3 ∨ x1.toNat < LO ∨ HI < x1.toNat ∨ x2.toNat < 128 ∨ 191 < x2.toNat) (by omega)).symm, HMX.out.drewN _⟩
          ·as_aux_lemma =>
            have q2b : decide ((HI : Int) < (x1.toNat : Int)) = false := by simp; omega
            by_cases q3 : x2.toNat < 128
            ·as_aux_lemma =>
              have q3b : decide ((x2.toNat : Int) < (128 : Int)) = true := by simp; omega
              go_wp2_with fail
              go_quiet (fail)
              go_wp2
              go_meet
              exact ⟨congrArg Value.bool (decide_eq_true (p := t.size < 3 ∨ x1.toNat < LO ∨ HI < x1.toNat ∨ x2.toNat < 128 ∨ 191 < x2.toNat) (by omega)).symm, HMX.out.drewN _⟩
            ·as_aux_lemma =>
              have q3b : decide ((x2.toNat : Int) < (128 : Int)) = false := by simp; omega
              by_cases q4 : 191 < x2.toNat
              ·as_aux_lemma =>
                have q4b : decide ((191 : Int) < (x2.toNat : Int)) = true := by simp; omega
                go_wp2_with fail
                go_quiet (fail)
                go_wp2
                go_meet
                exact ⟨congrArg Value.bool (decide_eq_true (p := t.size < 3 ∨ x1.toNat < LO ∨ HI < x1.toNat ∨ x2.toNat < 128 ∨ 191 < x2.toNat) (by omega)).symm, HMX.out.drewN _⟩
              ·as_aux_lemma =>
                have q4b : decide ((191 : Int) < (x2.toNat : Int)) = false := by simp; omega
                go_wp2_with fail
                go_quiet (fail)
                go_wp2
                go_meet
                exact ⟨congrArg Value.bool (decide_eq_false (p := t.size < 3 ∨ x1.toNat < LO ∨ HI < x1.toNat ∨ x2.toNat < 128 ∨ 191 < x2.toNat) (by omega)).symm, HMX.out.drewN _⟩
     case rest =>
      obtain ⟨rfl, hbc⟩ := hcut
      have hlead := HLD.out
      by_cases hb : t.size < 3 ∨ x1.toNat < LO ∨ HI < x1.toNat ∨ x2.toNat < 128 ∨ 191 < x2.toNat
      ·as_aux_lemma =>
        have hbd : decide (t.size < 3 ∨ x1.toNat < LO ∨ HI < x1.toNat ∨ x2.toNat < 128 ∨ 191 < x2.toNat) = true := decide_eq_true hb
        rw [if_pos hb] at hlead
        have HO := Lib.hid hbc.only
        clear hbc
        go_wp2
        all_goals (go_ret; exact ⟨by first | rfl | rw [hlead], HO.out⟩)
      ·as_aux_lemma =>
        have hbd : decide (t.size < 3 ∨ x1.toNat < LO ∨ HI < x1.toNat ∨ x2.toNat < 128 ∨ 191 < x2.toNat) = false := decide_eq_false hb
        rw [if_neg hb] at hlead
        have hszk : 3 ≤ t.size := by omega
        have hszkz : (3 : Int) ≤ (t.size : Int) := by omega
        have hmk := hbc.skip 3 (by omega) (by rw [Lib.ext_list]; exact hlead.symm)
        obtain ⟨A0, hA0⟩ : ∃ A0, A0 = some (⟨b, o, none⟩ : Addr) := ⟨_, rfl⟩
        rw [← hA0] at hmk
        simp only [← hA0]
        clear hA0
        obtain ⟨AK, hAK⟩ : ∃ AK, (if t.size = 3 then A0 else Option.map (fun x => (⟨x.block, x.off + 3, none⟩ : Addr)) A0) = AK := ⟨_, rfl⟩
        rw [show (if t.size = 3 then A0 else Option.map (fun x => Addr.add x 3) A0) = AK from hAK] at hmk
        obtain ⟨tk, htk⟩ : ∃ tk, t.extract 3 t.size = tk := ⟨_, rfl⟩
        have zk : t.size - 3 = tk.size := by rw [← htk, Lib.ext_size]
        rw [htk] at hmk
        clear htk hlead
        go_wp2
        go_roundg g'
        case measure => omega
        case rel => exact ⟨tk, AK, rfl, hmk, by omega⟩
    by_cases s4 : SZ = 4
    ·subst s4
     have hSZz : (X : Int) % 8 = 4 := by omega
     have hlead := HLEAD.out
     simp only [Lib.checkN, Nat.reduceEqDiff, if_true, if_false] at hlead
     have HLD := Lib.hid hlead
     clear hlead HLEAD
     go_upto_region 26 with fail
     have hmx := HM.out.alloc (.cells #[.int .u8 LO, .int .u8 HI] 230)
     have kb := Blk.new wr [.int .u8 LO, .int .u8 HI] 230
     refine wp_gen0 (fun W => VM w ANS t (some ⟨b, o, none⟩) W ∧ Blk W wr.heap.size [.int .u8 LO, .int .u8 HI] 230) ⟨hmx, kb⟩ ?_
     rintro W5 ⟨hmx5, kb5⟩
     have HMX := Lib.hid hmx5
     have k0 := kb5.cell 0 rfl
     have k1 := kb5.cell 1 rfl
     have C1 := Lib.hid (show 1 < t.size → W5.cell? ⟨b, o + 1, none⟩ = some (.int .u8 (x1.toNat : Int)) from fun h => by obtain ⟨b', o', e, h'⟩ := HMX.out.bytes.get h; cases e; rw [← hx1]; exact h')
     have C2 := Lib.hid (show 2 < t.size → W5.cell? ⟨b, o + 2, none⟩ = some (.int .u8 (x2.toNat : Int)) from fun h => by obtain ⟨b', o', e, h'⟩ := HMX.out.bytes.get h; cases e; rw [← hx2]; exact h')
     have C3 := Lib.hid (show 3 < t.size → W5.cell? ⟨b, o + 3, none⟩ = some (.int .u8 (x3.toNat : Int)) from fun h => by obtain ⟨b', o', e, h'⟩ := HMX.out.bytes.get h; cases e; rw [← hx3]; exact h')
     clear hmx kb hmx5 kb5 hx1 hx2 hx3
     generalize wr.heap.size = H at k0 k1 ⊢
     go_cut [185] from 143 to 185 (fun cc wx => cc = .bool (decide (t.size < 4 ∨ x1.toNat < LO ∨ HI < x1.toNat ∨ x2.toNat < 128 ∨ 191 < x2.toNat ∨ x3.toNat < 128 ∨ 191 < x3.toNat)) ∧ VM w ANS t (some ⟨b, o, none⟩) wx)
     case first =>
      by_cases q0 : t.size < 4
      ·as_aux_lemma =>
        have q0b : decide ((t.size : Int) < (4 : Int)) = true := by simp; omega
        go_wp2_with fail
        go_quiet (fail)
        go_wp2
        go_meet
        exact ⟨congrArg Value.bool (decide_eq_true (p := t.size < 4 ∨ x1.toNat < LO ∨ HI < x1.toNat ∨ x2.toNat < 128 ∨ 191 < x2.toNat ∨ x3.toNat < 128 ∨ 191 < x3.toNat) (by omega)).symm, HMX.out.drewN _⟩
      ·as_aux_lemma =>
        have q0b : decide ((t.size : Int) < (4 : Int)) = false := by simp; omega
        obtain ⟨c1', d1⟩ : (1 : Int) < (t.size : Int) ∧ 1 < t.size := ⟨by omega, by omega⟩
        have e1 := C1.out d1
        obtain ⟨c2', d2⟩ : (2 : Int) < (t.size : Int) ∧ 2 < t.size := ⟨by omega, by omega⟩
        have e2 := C2.out d2
        obtain ⟨c3', d3⟩ : (3 : Int) < (t.size : Int) ∧ 3 < t.size := ⟨by omega, by omega⟩
        have e3 := C3.out d3
        by_cases q1 : x1.toNat < LO
        ·as_aux_lemma =>
          have q1b : decide ((x1.toNat : Int) < (LO : Int)) = true := by simp; omega
          go_wp2_with fail
          go_quiet (fail)
          go_wp2
          go_meet
          exact ⟨congrArg Value.bool (decide_eq_true (p := t.size < 4 ∨ x1.toNat < LO ∨ HI < x1.toNat ∨ x2.toNat < 128 ∨ 191 < x2.toNat ∨ x3.toNat < 128 ∨ 191 < x3.toNat) (by omega)).symm, HMX.out.drewN _⟩
        ·as_aux_lemma =>
          have q1b : decide ((x1.toNat : Int) < (LO : Int)) = false := by simp; omega
          by_cases q2 : HI < x1.toNat
          ·as_aux_lemma =>
            have q2b : decide ((HI : Int) < (x1.toNat : Int)) = true := by simp; omega
            go_wp2_with fail
            go_quiet (fail)
            go_wp2
            go_meet
            exact ⟨congrArg Value.bool (decide_eq_true (p := t.size < 4 ∨ x1.toNat < LO ∨ HI < x1.toNat ∨ x2.toNat < 128 ∨ 191 < x2.toNat ∨ x3.toNat < 128 ∨ 191 < x3.toNat) (by omega)).symm, HMX.out.drewN _⟩
          ·as_aux_lemma =>
            have q2b : decide ((HI : Int) < (x1.toNat : Int)) = false := by simp; omega
            by_cases q3 : x2.toNat < 128
            ·as_aux_lemma =>
              have q3b : decide ((x2.toNat : Int) < (128 : Int)) = true := by simp; omega
              go_wp2_with fail
              go_quiet (fail)
              go_wp2
              go_meet
              exact ⟨congrArg Value.bool (decide_eq_true (p := t.size < 4 ∨ x1.toNat < LO ∨ HI < x1.toNat ∨ x2.toNat < 128 ∨ 191 < x2.toNat ∨ x3.toNat < 128 ∨ 191 < x3.toNat) (by omega)).symm, HMX.out.drewN _⟩
            ·as_aux_lemma =>
              have q3b : decide ((x2.toNat : Int) < (128 : Int)) = false := by simp; omega
              by_cases q4 : 191 < x2.toNat
              ·as_aux_lemma =>
                have q4b : decide ((191 : Int) < (x2.toNat : Int)) = true := by simp; omega
                go_wp2_with fail
                go_quiet (fail)
                go_wp2
                go_meet
                exact ⟨congrArg Value.bool (decide_eq_true (p := t.size < 4 ∨ x1.toNat < LO ∨ HI < x1.toNat ∨ x2.toNat < 128 ∨ 191 < x2.toNat ∨ x3.toNat < 128 ∨ 191 < x3.toNat) (by omega)).symm, HMX.out.drewN _⟩
              ·as_aux_lemma =>
                have q4b : decide ((191 : Int) < (x2.toNat : Int)) = false := by simp; omega
                by_cases q5 : x3.toNat < 128
                ·as_aux_lemma =>
                  have q5b : decide ((x3.toNat : Int) < (128 : Int)) = true := by simp; omega
                  go_wp2_with fail
                  go_quiet (fail)
                  go_wp2
                  go_meet
                  exact ⟨congrArg Value.bool (decide_eq_true (p := t.size < 4 ∨ x1.toNat < LO ∨ HI < x1.toNat ∨ x2.toNat < 128 ∨ 191 < x2.toNat ∨ x3.toNat < 128 ∨ 191 < x3.toNat) (by omega)).symm, HMX.out.drewN _⟩
                ·as_aux_lemma =>
                  have q5b : decide ((x3.toNat : Int) < (128 : Int)) = false := by simp; omega
                  by_cases q6 : 191 < x3.toNat
                  ·as_aux_lemma =>
                    have q6b : decide ((191 : Int) < (x3.toNat : Int)) = true := by simp; omega
                    go_wp2_with fail
                    go_quiet (fail)
                    go_wp2
                    go_meet
                    exact ⟨congrArg Value.bool (decide_eq_true (p := t.size < 4 ∨ x1.toNat < LO ∨ HI < x1.toNat ∨ x2.toNat < 128 ∨ 191 < x2.toNat ∨ x3.toNat < 128 ∨ 191 < x3.toNat) (by omega)).symm, HMX.out.drewN _⟩
                  ·as_aux_lemma =>
                    have q6b : decide ((191 : Int) < (x3.toNat : Int)) = false := by simp; omega
                    go_wp2_with fail
                    go_quiet (fail)
                    go_wp2
                    go_meet
                    exact ⟨congrArg Value.bool (decide_eq_false (p := t.size < 4 ∨ x1.toNat < LO ∨ HI < x1.toNat ∨ x2.toNat < 128 ∨ 191 < x2.toNat ∨ x3.toNat < 128 ∨ 191 < x3.toNat) (by omega)).symm, HMX.out.drewN _⟩
     case rest =>
      obtain ⟨rfl, hbc⟩ := hcut
      have hlead := HLD.out
      by_cases hb : t.size < 4 ∨ x1.toNat < LO ∨ HI < x1.toNat ∨ x2.toNat < 128 ∨ 191 < x2.toNat ∨ x3.toNat < 128 ∨ 191 < x3.toNat
      ·as_aux_lemma =>
        have hbd : decide (t.size < 4 ∨ x1.toNat < LO ∨ HI < x1.toNat ∨ x2.toNat < 128 ∨ 191 < x2.toNat ∨ x3.toNat < 128 ∨ 191 < x3.toNat) = true := decide_eq_true hb
        rw [if_pos hb] at hlead
        have HO := Lib.hid hbc.only
        clear hbc
        go_wp2
        all_goals (go_ret; exact ⟨by first | rfl | rw [hlead], HO.out⟩)
      ·as_aux_lemma =>
        have hbd : decide (t.size < 4 ∨ x1.toNat < LO ∨ HI < x1.toNat ∨ x2.toNat < 128 ∨ 191 < x2.toNat ∨ x3.toNat < 128 ∨ 191 < x3.toNat) = false := decide_eq_false hb
        rw [if_neg hb] at hlead
        have hszk : 4 ≤ t.size := by omega
        have hszkz : (4 : Int) ≤ (t.size : Int) := by omega
        have hmk := hbc.skip 4 (by omega) (by rw [Lib.ext_list]; exact hlead.symm)
        obtain ⟨A0, hA0⟩ : ∃ A0, A0 = some (⟨b, o, none⟩ : Addr) := ⟨_, rfl⟩
        rw [← hA0] at hmk
        simp only [← hA0]
        clear hA0
        obtain ⟨AK, hAK⟩ : ∃ AK, (if t.size = 4 then A0 else Option.map (fun x => (⟨x.block, x.off + 4, none⟩ : Addr)) A0) = AK := ⟨_, rfl⟩
        rw [show (if t.size = 4 then A0 else Option.map (fun x => Addr.add x 4) A0) = AK from hAK] at hmk
        obtain ⟨tk, htk⟩ : ∃ tk, t.extract 4 t.size = tk := ⟨_, rfl⟩
        have zk : t.size - 4 = tk.size := by rw [← htk, Lib.ext_size]
        rw [htk] at hmk
        clear htk hlead
        go_wp2
        go_roundg g'
        case measure => omega
        case rel => exact ⟨tk, AK, rfl, hmk, by omega⟩
    ·as_aux_lemma =>
      have e2 : ¬ ((X : Int) % 8 = 2) := by omega
      have e3 : ¬ ((X : Int) % 8 = 3) := by omega
      have e4 : ¬ ((X : Int) % 8 = 4) := by omega
      have e2b : (((X : Int) % 8) == 2) = false := by simp; omega
      have e3b : (((X : Int) % 8) == 3) = false := by simp; omega
      have e4b : (((X : Int) % 8) == 4) = false := by simp; omega
      have hlead := HLEAD.out
      simp only [Lib.checkN, s2, s3, s4, if_false] at hlead
      have HO := Lib.hid HM.out.only
      go_wp2
      all_goals (go_ret; exact ⟨by first | rfl | rw [hlead], HO.out.alloc _⟩)
  ·have h0z : ¬ ((0 : Int) < (t.size : Int)) := by omega
   have ht0 : t.data.toList = [] := List.eq_nil_of_length_eq_zero (by rw [← Lib.size_eq]; omega)
   have hv := HM.out.ans
   rw [ht0, Lib.validD_nil] at hv
   subst hv
   go_wp2
   go_ret
   exact ⟨rfl, HM.out.only⟩
end Go.Proofs.YtjehnejgojgahaaGreatDoor
