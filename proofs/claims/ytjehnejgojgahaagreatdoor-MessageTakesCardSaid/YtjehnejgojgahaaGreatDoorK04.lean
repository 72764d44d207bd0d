/-
  A part of the proof of MessageTakes: the texts R4 R5 R6.
-/
import Derived.Test.YtjehnejgojgahaaGreatDoorK02
import Derived.Test.YtjehnejgojgahaaGreatDoorK03
namespace Go.Proofs.YtjehnejgojgahaaGreatDoor
open Go.RowKit
set_option linter.unusedVariables false
set_option linter.unusedSimpArgs false
def U8Rel (s : ByteArray) (w : World) (v : Value) (gk : Nat) (w' : World) : Prop :=
 ∃ i : Nat, i ≤ s.size ∧ v = .int .i64 i ∧ Lib.validD (s.data.toList.drop i) = Lib.validD s.data.toList ∧ gk = s.size - i ∧ w = w'
def U8Post (s : ByteArray) (w : World) (e : Ending) (w' : World) : Prop := e = .returned (.bool (Lib.validD s.data.toList)) ∧ w = w'
def ContRel (t : Bytes) (n r0 : Nat) (w : World) (v7 v8 : Value) (gk : Nat) (w' : World) : Prop :=
 ∃ k r : Nat, 1 ≤ k ∧ k ≤ n ∧ v7 = .int .i64 r ∧ v8 = .int .i64 k ∧ contF (n - k) r (t.drop (k - 1)) = contF (n - 1) r0 t ∧ gk = n - k ∧ r < 256 * 64 ^ k ∧ w = w'
theorem drop_at (s : ByteArray) (i : Nat) (h : i < s.size) : s.data.toList.drop i = s[i] :: s.data.toList.drop (i + 1) := by
 rw [List.drop_eq_getElem_cons (by simpa using h)]; rfl
theorem len_drop (s : ByteArray) (i : Nat) : (s.data.toList.drop i).length = s.size - i := by simp
theorem u8_none {s : ByteArray} {i n least r0 : Nat} (h : i < s.size) (hl : leadR s[i].toNat = some (n, least, r0)) (hn : n ≤ s.size - i) (hc : contF (n - 1) r0 (s.data.toList.drop (i + 1)) = none) : Lib.validD (s.data.toList.drop i) = false := by
 rw [drop_at s i h, valid_rstep _ (by simp), rstep_none hl (by rw [len_drop]; omega) hc]
theorem u8_lead {s : ByteArray} {i : Nat} (h : i < s.size) (hl : leadR s[i].toNat = none) : Lib.validD (s.data.toList.drop i) = false := by
 rw [drop_at s i h, valid_rstep _ (by simp)]
 simp only [rstep, hl]
theorem u8_short {s : ByteArray} {i n least r0 : Nat} (h : i < s.size) (hl : leadR s[i].toNat = some (n, least, r0)) (hn : s.size - i < n) : Lib.validD (s.data.toList.drop i) = false := by
 rw [drop_at s i h, valid_rstep _ (by simp), rstep_short hl (by rw [len_drop]; omega)]
theorem u8_bad {s : ByteArray} {i n least r0 r : Nat} (h : i < s.size) (hl : leadR s[i].toNat = some (n, least, r0)) (hn : n ≤ s.size - i) (hc : contF (n - 1) r0 (s.data.toList.drop (i + 1)) = some r) (hb : runeBad least r) : Lib.validD (s.data.toList.drop i) = false := by
 rw [drop_at s i h, valid_rstep _ (by simp), rstep_some hl (by rw [len_drop]; omega) hc, if_pos hb]
theorem u8_good {s : ByteArray} {i n least r0 r : Nat} (h : i < s.size) (hl : leadR s[i].toNat = some (n, least, r0)) (hn : n ≤ s.size - i) (hc : contF (n - 1) r0 (s.data.toList.drop (i + 1)) = some r) (hb : ¬ runeBad least r) : Lib.validD (s.data.toList.drop (i + n)) = Lib.validD (s.data.toList.drop i) := by
 rw [drop_at s i h, valid_rstep (s[i] :: _) (by simp), rstep_some hl (by rw [len_drop]; omega) hc, if_neg hb]
 simp only []
 rw [← drop_at s i h, List.drop_drop]
theorem cont_step {s : ByteArray} {i k n r r0 : Nat} (hk : 1 ≤ k) (hkn : k < n) (hik : i + k < s.size) (h : contF (n - k) r ((s.data.toList.drop (i + 1)).drop (k - 1)) = contF (n - 1) r0 (s.data.toList.drop (i + 1))) :
  (128 ≤ s[i + k].toNat ∧ s[i + k].toNat ≤ 191 → contF (n - (k + 1)) (64 * r + (s[i + k].toNat - 128)) ((s.data.toList.drop (i + 1)).drop (k + 1 - 1)) = contF (n - 1) r0 (s.data.toList.drop (i + 1))) ∧
  (¬ (128 ≤ s[i + k].toNat ∧ s[i + k].toNat ≤ 191) → contF (n - 1) r0 (s.data.toList.drop (i + 1)) = none) := by
 rw [← h]
 rw [List.drop_drop, List.drop_drop, show i + 1 + (k - 1) = i + k by omega, drop_at s (i + k) hik, show i + 1 + (k + 1 - 1) = i + k + 1 by omega, show n - k = n - (k + 1) + 1 by omega]
 simp only [contF]
 constructor
 ·intro q; rw [if_pos q]
 ·intro q; rw [if_neg q]
theorem r_bound {r k x : Nat} (h : r < 256 * 64 ^ k) (hx : x ≤ 191) : 64 * r + (x - 128) < 256 * 64 ^ (k + 1) := by
 rw [Nat.pow_succ]; omega
theorem r_small {r k n : Nat} (h : r < 256 * 64 ^ k) (hk : k ≤ n) (hn : n ≤ 4) : r ≤ 4294967296 := by
 have := Nat.pow_le_pow_right (n := 64) (by omega) (show k ≤ 4 by omega)
 omega
theorem int_eq' {k : IntKind} {a b : Int} (h : a = b) : Value.int k a = .int k b := by rw [h]
set_option maxHeartbeats 2000000 in
set_option maxRecDepth 100000 in
theorem utf8_any (s : ByteArray) (w : World) (hs : s.size ≤ maxLen) : Calls Tryz.prog 115 #[.string s] w (U8Post s w) := by
 unfold maxLen at hs
 go_enter Tryz.func115, Tryz.ntmps115
 go_wp2
 go_loopg [3] (s.size) (fun gk v wr => U8Rel s w v gk wr)
 case atStart => exact ⟨0, Nat.zero_le _, rfl, rfl, rfl, rfl⟩
 case round =>
  obtain ⟨i, hi, rfl, hv, hgk, rfl⟩ := hrel
  have HG := Lib.hid hgk
  have HV := Lib.hid hv
  clear hgk hv
  by_cases hlt : i < s.size
  ·have hz2 : (s[i]'hlt).toNat < 256 := s[i].toNat_lt
   have HI := Lib.hid hlt
   by_cases h2 : 194 ≤ (s[i]'hlt).toNat ∧ (s[i]'hlt).toNat < 224
   ·have HL := Lib.hid (lead2 h2)
    obtain ⟨p1, p2⟩ := h2
    have HB := Lib.hid hz2
    have d1 : decide (((s[i]'hlt).toNat : Int) < 128) = false := by simp; omega
    have d2 : decide (194 ≤ ((s[i]'hlt).toNat : Int)) = true := by simp; omega
    have d3 : decide (((s[i]'hlt).toNat : Int) < 224) = true := by simp; omega
    by_cases hn : s.size < i + 2
    ·have HN := Lib.hid hn
     go_wp2
     go_ret
     exact ⟨by rw [← HV.out, u8_short HI.out HL.out (by have := HN.out; have := HI.out; omega)]; rfl, rfl⟩
    ·have HN := Lib.hid (show 2 ≤ s.size - i by omega)
     have hn2 : i + 2 ≤ s.size := by omega
     clear hn
     go_wp2
     go_loopg [7, 8] 1 (fun gk v7 v8 wr => ContRel (s.data.toList.drop (i + 1)) 2 ((s[i]'hlt).toNat - 192) w v7 v8 gk wr)
     case atStart => exact ⟨1, (s[i]'hlt).toNat - 192, by omega, by omega, int_eq' (by omega), rfl, rfl, by rfl, by omega, rfl⟩
     case round =>
      obtain ⟨k, r, hk1, hkn, rfl, rfl, hc, hgk, hr, rfl⟩ := hrel
      have HC := Lib.hid hc
      have HG2 := Lib.hid hgk
      have HR := Lib.hid hr
      have hrs := r_small hr hkn (by omega)
      have HK1 := Lib.hid hk1
      clear hc hgk hr
      by_cases hk : k < 2
      ·have hik : i + k < s.size := by have := HN.out; omega
       have hd2 : (s[i + k]'hik).toNat < 256 := s[i + k].toNat_lt
       have HS := Lib.hid (cont_step HK1.out hk hik HC.out)
       have HK := Lib.hid hk
       by_cases hd : 128 ≤ (s[i + k]'hik).toNat ∧ (s[i + k]'hik).toNat ≤ 191
       ·have HD := Lib.hid hd
        obtain ⟨q1, q2⟩ := hd
        go_wp2
        go_roundg (2 - (k + 1))
        case rel => exact ⟨k + 1, 64 * r + ((s[i + k]'hik).toNat - 128), by omega, HK.out, int_eq' (by omega), rfl, HS.out.1 HD.out, rfl, r_bound HR.out HD.out.2, rfl⟩
        case measure => have := HG2.out; have := HK.out; omega
       ·have HD := Lib.hid hd
        have hd' : (s[i + k]'hik).toNat < 128 ∨ 191 < (s[i + k]'hik).toNat := by omega
        clear hd
        rcases hd' with q1 | q1
        all_goals
         go_wp2
         go_ret
         exact ⟨by rw [← HV.out, u8_none HI.out HL.out HN.out (HS.out.2 HD.out)]; rfl, rfl⟩
      ·obtain rfl : k = 2 := by omega
       have HC' : Hid (contF (2 - 1) ((s[i]'hlt).toNat - 192) (s.data.toList.drop (i + 1)) = some r) := HC.out.symm
       by_cases hb : runeBad 128 r
       ·have HBB := Lib.hid hb
        have hb' : r < 128 ∨ (128 ≤ r ∧ 1114111 < r) ∨ (128 ≤ r ∧ r ≤ 1114111 ∧ 55296 ≤ r ∧ r < 57344) := by unfold runeBad at hb; omega
        clear hb
        rcases hb' with q1 | ⟨q1, q2⟩ | ⟨q1, q2, q3, q4⟩
        all_goals
         go_wp2 <;> (go_ret; exact ⟨by rw [← HV.out, u8_bad HI.out HL.out HN.out HC'.out HBB.out]; rfl, rfl⟩)
       ·have HBB := Lib.hid hb
        have hb' : 128 ≤ r ∧ r ≤ 1114111 ∧ (r < 55296 ∨ (55296 ≤ r ∧ 57344 ≤ r)) := by unfold runeBad at hb; omega
        clear hb
        obtain ⟨q1, q2, q3⟩ := hb'
        rcases q3 with q3 | ⟨q3, q4⟩
        all_goals
         go_wp2 <;> (go_roundg (s.size - (i + 2)); (case rel => exact ⟨i + 2, by have := HN.out; have := HI.out; omega, rfl, (u8_good HI.out HL.out HN.out HC'.out HBB.out).trans HV.out, rfl, rfl⟩); (case measure => have := HG.out; have := HI.out; omega))
   by_cases h3 : 224 ≤ (s[i]'hlt).toNat ∧ (s[i]'hlt).toNat < 240
   ·have HL := Lib.hid (lead3 h3)
    obtain ⟨p1, p2⟩ := h3
    have HB := Lib.hid hz2
    have d1 : decide (((s[i]'hlt).toNat : Int) < 128) = false := by simp; omega
    have d2 : decide (194 ≤ ((s[i]'hlt).toNat : Int)) = true := by simp; omega
    have d3 : decide (((s[i]'hlt).toNat : Int) < 224) = false := by simp; omega
    have d4 : decide (224 ≤ ((s[i]'hlt).toNat : Int)) = true := by simp; omega
    have d5 : decide (((s[i]'hlt).toNat : Int) < 240) = true := by simp; omega
    by_cases hn : s.size < i + 3
    ·have HN := Lib.hid hn
     go_wp2
     go_ret
     exact ⟨by rw [← HV.out, u8_short HI.out HL.out (by have := HN.out; have := HI.out; omega)]; rfl, rfl⟩
    ·have HN := Lib.hid (show 3 ≤ s.size - i by omega)
     have hn2 : i + 3 ≤ s.size := by omega
     clear hn
     go_wp2
     go_loopg [7, 8] 2 (fun gk v7 v8 wr => ContRel (s.data.toList.drop (i + 1)) 3 ((s[i]'hlt).toNat - 224) w v7 v8 gk wr)
     case atStart => exact ⟨1, (s[i]'hlt).toNat - 224, by omega, by omega, int_eq' (by omega), rfl, rfl, by rfl, by omega, rfl⟩
     case round =>
      obtain ⟨k, r, hk1, hkn, rfl, rfl, hc, hgk, hr, rfl⟩ := hrel
      have HC := Lib.hid hc
      have HG2 := Lib.hid hgk
      have HR := Lib.hid hr
      have hrs := r_small hr hkn (by omega)
      have HK1 := Lib.hid hk1
      clear hc hgk hr
      by_cases hk : k < 3
      ·have hik : i + k < s.size := by have := HN.out; omega
       have hd2 : (s[i + k]'hik).toNat < 256 := s[i + k].toNat_lt
       have HS := Lib.hid (cont_step HK1.out hk hik HC.out)
       have HK := Lib.hid hk
       by_cases hd : 128 ≤ (s[i + k]'hik).toNat ∧ (s[i + k]'hik).toNat ≤ 191
       ·have HD := Lib.hid hd
        obtain ⟨q1, q2⟩ := hd
        go_wp2
        go_roundg (3 - (k + 1))
        case rel => exact ⟨k + 1, 64 * r + ((s[i + k]'hik).toNat - 128), by omega, HK.out, int_eq' (by omega), rfl, HS.out.1 HD.out, rfl, r_bound HR.out HD.out.2, rfl⟩
        case measure => have := HG2.out; have := HK.out; omega
       ·have HD := Lib.hid hd
        have hd' : (s[i + k]'hik).toNat < 128 ∨ 191 < (s[i + k]'hik).toNat := by omega
        clear hd
        rcases hd' with q1 | q1
        all_goals
         go_wp2
         go_ret
         exact ⟨by rw [← HV.out, u8_none HI.out HL.out HN.out (HS.out.2 HD.out)]; rfl, rfl⟩
      ·obtain rfl : k = 3 := by omega
       have HC' : Hid (contF (3 - 1) ((s[i]'hlt).toNat - 224) (s.data.toList.drop (i + 1)) = some r) := HC.out.symm
       by_cases hb : runeBad 2048 r
       ·have HBB := Lib.hid hb
        have hb' : r < 2048 ∨ (2048 ≤ r ∧ 1114111 < r) ∨ (2048 ≤ r ∧ r ≤ 1114111 ∧ 55296 ≤ r ∧ r < 57344) := by unfold runeBad at hb; omega
        clear hb
        rcases hb' with q1 | ⟨q1, q2⟩ | ⟨q1, q2, q3, q4⟩
        all_goals
         go_wp2 <;> (go_ret; exact ⟨by rw [← HV.out, u8_bad HI.out HL.out HN.out HC'.out HBB.out]; rfl, rfl⟩)
       ·have HBB := Lib.hid hb
        have hb' : 2048 ≤ r ∧ r ≤ 1114111 ∧ (r < 55296 ∨ (55296 ≤ r ∧ 57344 ≤ r)) := by unfold runeBad at hb; omega
        clear hb
        obtain ⟨q1, q2, q3⟩ := hb'
        rcases q3 with q3 | ⟨q3, q4⟩
        all_goals
         go_wp2 <;> (go_roundg (s.size - (i + 3)); (case rel => exact ⟨i + 3, by have := HN.out; have := HI.out; omega, rfl, (u8_good HI.out HL.out HN.out HC'.out HBB.out).trans HV.out, rfl, rfl⟩); (case measure => have := HG.out; have := HI.out; omega))
   by_cases h4 : 240 ≤ (s[i]'hlt).toNat ∧ (s[i]'hlt).toNat < 245
   ·have HL := Lib.hid (lead4 h4)
    obtain ⟨p1, p2⟩ := h4
    have HB := Lib.hid hz2
    have d1 : decide (((s[i]'hlt).toNat : Int) < 128) = false := by simp; omega
    have d2 : decide (194 ≤ ((s[i]'hlt).toNat : Int)) = true := by simp; omega
    have d3 : decide (((s[i]'hlt).toNat : Int) < 224) = false := by simp; omega
    have d4 : decide (224 ≤ ((s[i]'hlt).toNat : Int)) = true := by simp; omega
    have d5 : decide (((s[i]'hlt).toNat : Int) < 240) = false := by simp; omega
    have d6 : decide (240 ≤ ((s[i]'hlt).toNat : Int)) = true := by simp; omega
    have d7 : decide (((s[i]'hlt).toNat : Int) < 245) = true := by simp; omega
    by_cases hn : s.size < i + 4
    ·have HN := Lib.hid hn
     go_wp2
     go_ret
     exact ⟨by rw [← HV.out, u8_short HI.out HL.out (by have := HN.out; have := HI.out; omega)]; rfl, rfl⟩
    ·have HN := Lib.hid (show 4 ≤ s.size - i by omega)
     have hn2 : i + 4 ≤ s.size := by omega
     clear hn
     go_wp2
     go_loopg [7, 8] 3 (fun gk v7 v8 wr => ContRel (s.data.toList.drop (i + 1)) 4 ((s[i]'hlt).toNat - 240) w v7 v8 gk wr)
     case atStart => exact ⟨1, (s[i]'hlt).toNat - 240, by omega, by omega, int_eq' (by omega), rfl, rfl, by rfl, by omega, rfl⟩
     case round =>
      obtain ⟨k, r, hk1, hkn, rfl, rfl, hc, hgk, hr, rfl⟩ := hrel
      have HC := Lib.hid hc
      have HG2 := Lib.hid hgk
      have HR := Lib.hid hr
      have hrs := r_small hr hkn (by omega)
      have HK1 := Lib.hid hk1
      clear hc hgk hr
      by_cases hk : k < 4
      ·have hik : i + k < s.size := by have := HN.out; omega
       have hd2 : (s[i + k]'hik).toNat < 256 := s[i + k].toNat_lt
       have HS := Lib.hid (cont_step HK1.out hk hik HC.out)
       have HK := Lib.hid hk
       by_cases hd : 128 ≤ (s[i + k]'hik).toNat ∧ (s[i + k]'hik).toNat ≤ 191
       ·have HD := Lib.hid hd
        obtain ⟨q1, q2⟩ := hd
        go_wp2
        go_roundg (4 - (k + 1))
        case rel => exact ⟨k + 1, 64 * r + ((s[i + k]'hik).toNat - 128), by omega, HK.out, int_eq' (by omega), rfl, HS.out.1 HD.out, rfl, r_bound HR.out HD.out.2, rfl⟩
        case measure => have := HG2.out; have := HK.out; omega
       ·have HD := Lib.hid hd
        have hd' : (s[i + k]'hik).toNat < 128 ∨ 191 < (s[i + k]'hik).toNat := by omega
        clear hd
        rcases hd' with q1 | q1
        all_goals
         go_wp2
         go_ret
         exact ⟨by rw [← HV.out, u8_none HI.out HL.out HN.out (HS.out.2 HD.out)]; rfl, rfl⟩
      ·obtain rfl : k = 4 := by omega
       have HC' : Hid (contF (4 - 1) ((s[i]'hlt).toNat - 240) (s.data.toList.drop (i + 1)) = some r) := HC.out.symm
       by_cases hb : runeBad 65536 r
       ·have HBB := Lib.hid hb
        have hb' : r < 65536 ∨ (65536 ≤ r ∧ 1114111 < r) ∨ (65536 ≤ r ∧ r ≤ 1114111 ∧ 55296 ≤ r ∧ r < 57344) := by unfold runeBad at hb; omega
        clear hb
        rcases hb' with q1 | ⟨q1, q2⟩ | ⟨q1, q2, q3, q4⟩
        all_goals
         go_wp2 <;> (go_ret; exact ⟨by rw [← HV.out, u8_bad HI.out HL.out HN.out HC'.out HBB.out]; rfl, rfl⟩)
       ·have HBB := Lib.hid hb
        have hb' : 65536 ≤ r ∧ r ≤ 1114111 ∧ (r < 55296 ∨ (55296 ≤ r ∧ 57344 ≤ r)) := by unfold runeBad at hb; omega
        clear hb
        obtain ⟨q1, q2, q3⟩ := hb'
        rcases q3 with q3 | ⟨q3, q4⟩
        all_goals
         go_wp2 <;> (go_roundg (s.size - (i + 4)); (case rel => exact ⟨i + 4, by have := HN.out; have := HI.out; omega, rfl, (u8_good HI.out HL.out HN.out HC'.out HBB.out).trans HV.out, rfl, rfl⟩); (case measure => have := HG.out; have := HI.out; omega))
   by_cases h1 : (s[i]'hlt).toNat < 128
   ·have HL := Lib.hid (lead1 h1)
    go_wp2
    go_loopg [7, 8] 1 (fun gk v7 v8 wr => v7 = .int .i64 ((s[i]'hlt).toNat : Nat) ∧ v8 = .int .i64 (1 : Nat) ∧ wr = w)
    case atStart => exact ⟨rfl, rfl, rfl⟩
    case round =>
     obtain ⟨rfl, rfl, rfl⟩ := hrel
     go_wp2
     go_roundg (s.size - (i + 1))
     case rel => exact ⟨i + 1, HI.out, rfl, (u8_good HI.out HL.out (by have := HI.out; omega) rfl (by unfold runeBad; omega)).trans HV.out, rfl, rfl⟩
     case measure => have := HG.out; have := HI.out; omega
   ·have HL := Lib.hid (show leadR (s[i]'hlt).toNat = none by unfold leadR; rw [if_neg h1, if_neg h2, if_neg h3, if_neg h4])
    have h5 : (128 ≤ (s[i]'hlt).toNat ∧ (s[i]'hlt).toNat < 194) ∨ 245 ≤ (s[i]'hlt).toNat := by omega
    clear h1 h2 h3 h4
    rcases h5 with ⟨q1, q2⟩ | q1
    all_goals
     go_wp2
     go_ret
     exact ⟨by rw [← HV.out, u8_lead HI.out HL.out]; rfl, rfl⟩
  ·obtain rfl : i = s.size := by omega
   go_wp2
   go_ret
   exact ⟨by rw [← HV.out, List.drop_eq_nil_of_le (by simp)]; rfl, rfl⟩
def LowA (A : Option Addr) (l : Bytes) (base : Nat) : Prop := ∀ b o, A = some ⟨b, o, none⟩ → l ≠ [] → b < base
theorem BytesAt.low {w : World} {A : Option Addr} {l : Bytes} (h : BytesAt w A l) : LowA A l w.heap.size := by
 intro b o e hne
 cases l with
 | nil => exact absurd rfl hne
 | cons x l =>
  obtain ⟨b', o', e', hc⟩ := h 0 x rfl
  rw [e'] at e; cases e
  exact cell_lt hc
theorem BytesAt.only' {w w' : World} {A : Option Addr} {l : Bytes} {G : Nat → Prop} (h : BytesAt w A l) (ho : Only G w w') (hg : ∀ b o, A = some ⟨b, o, none⟩ → l ≠ [] → ¬ G b) : BytesAt w' A l := by
 intro i x hx
 obtain ⟨b, o, e, hc⟩ := h i x hx
 exact ⟨b, o, e, ho.cell hc (hg _ _ e (by rintro rfl; simp at hx))⟩
theorem RS.only {w w' : World} {g : Nat} {A : Option Addr} {c : Nat} {l : Bytes} {i : Nat} {bad : Bool} {G : Nat → Prop} (h : RS w g A c l i bad) (ho : Only G w w') (hg : ¬ G g)
  (hA : ∀ b o, A = some ⟨b, o, none⟩ → l ≠ [] → ¬ G b) : RS w' g A c l i bad :=
 ⟨h.blk.only ho hg, h.bytes.only' ho hA, h.ne, h.le, h.len⟩
theorem RS.grown {w w' : World} {g : Nat} {A : Option Addr} {c : Nat} {l : Bytes} {i : Nat} {bad : Bool} {base : Nat} {v : Value} {acc : Bytes} (h : RS w g A c l i bad)
  (hO : OwnB w base v acc) (hg : w.grownBy w' v.ownBlock) (hgb : g < base) (hA : LowA A l base) : RS w' g A c l i bad := by
 refine h.only (Only.ofGrown hg) ?_ ?_
 ·intro e; have := (hO.lt _ e).1; omega
 ·intro b o ea hl e
  have := (hO.lt _ e).1
  have := hA b o ea hl
  omega
theorem RS.alloc {w : World} {g : Nat} {A : Option Addr} {c : Nat} {l : Bytes} {i : Nat} {bad : Bool} (h : RS w g A c l i bad) (o : Obj) : RS (w.alloc o) g A c l i bad :=
 h.only (G := fun _ => False) ((Only.refl _ _).alloc o) id (fun _ _ _ _ => id)
theorem OwnB.set {w : World} {base : Nat} {v : Value} {l : Bytes} (h : OwnB w base v l) {p : Addr} (hp : p.block < base) (x : Value) : OwnB (w.setCell p x) base v l :=
 h.only ((Only.refl (fun k => k = p.block) w).setCell (fun _ => rfl) x) (fun k hk e => by have := (h.lt k hk).1; omega)
theorem OwnB.only' {w w' : World} {base : Nat} {v : Value} {l : Bytes} {g : Nat} (h : OwnB w base v l) (ho : Only (· = g) w w') (hg : g < base) : OwnB w' base v l :=
 h.only ho (fun k hk e => by have := (h.lt k hk).1; omega)
def remG : Option Bytes → Nat
 | some r => r.length + 1
 | none => 0
structure StrRel (g : Nat) (A : Option Addr) (c : Nat) (l : Bytes) (T : Option (Bytes × Bytes)) (base : Nat) (w : World) (v : Value) (gk : Nat) (w' : World) (s : Option Bytes) (acc : Bytes) : Prop where
 rs : RSo w' g A c l s
 own : OwnB w' base v acc
 only : Only (· = g) w w'
 size : base ≤ w'.heap.size
 gk_is : gk = remG s
 short : match s with | some r => acc.length + r.length ≤ 1048576 | none => acc.length ≤ 1048600
 target : match s with | some r => strB (r.length + 1) acc r = T | none => T = none
def StrR (g : Nat) (A : Option Addr) (c : Nat) (l : Bytes) (T : Option (Bytes × Bytes)) (base : Nat) (w : World) (v : Value) (gk : Nat) (w' : World) : Prop :=
 ∃ s acc, StrRel g A c l T base w v gk w' s acc
def StrAt (g : Nat) (A : Option Addr) (c : Nat) (l : Bytes) (T : Option (Bytes × Bytes)) (w : World) (e : Ending) (w' : World) : Prop :=
 Only (· = g) w w' ∧ ∃ t, e = .returned (.string t) ∧ RSo w' g A c l (T.map (·.2)) ∧ ∀ p, T = some p → t = ⟨p.1.toArray⟩
def valT (T : Option (Bytes × Bytes)) : Option (Bytes × Bytes) := T.bind fun p => if Lib.validD p.1 then some p else none
theorem strOf_valT {r q : Bytes} (h : mustB [34] r = some q) : strOf r = valT (strB (q.length + 1) [] q) := by
 unfold strOf valT
 rw [h]
 simp only []
 cases strB (q.length + 1) [] q with
 | none => rfl
 | some p => rfl
theorem bind_valT (s : Option Bytes) : s.bind strOf = valT ((s.bind (mustB [34])).bind fun q => strB (q.length + 1) [] q) := by
 cases s with
 | none => rfl
 | some r =>
  cases h : mustB [34] r with
  | none => simp [strOf, h, valT]
  | some q => simp [h, strOf_valT h]
theorem StrRel.start {g : Nat} {A : Option Addr} {c : Nat} {l : Bytes} {base : Nat} {w w1 : World} {s : Option Bytes} (hr : RSo w1 g A c l s) (ho : Only (· = g) w w1) (hb : base = w.heap.size) :
  StrR g A c l (s.bind fun q => strB (q.length + 1) [] q) base w (.slice none 0 0) (remG s) w1 := by
 refine ⟨s, [], hr, OwnB.nil _ _, ho, by rw [hb]; exact ho.size, rfl, ?_, ?_⟩
 ·cases s with
  | none => simp
  | some r =>
   obtain ⟨j, h, e⟩ := hr
   have := h.len
   have h2 : (l.drop j).length ≤ l.length := by simp
   rw [e] at h2
   simp; omega
 ·cases s with
  | none => rfl
  | some r => rfl
theorem StrRel.fall {g : Nat} {A : Option Addr} {c : Nat} {l : Bytes} {T : Option (Bytes × Bytes)} {w w' : World} {s : Option Bytes} {t : ByteArray} {j : Nat}
  (hT : T = ((s.bind (mustB [34])).bind fun q => strB (q.length + 1) [] q)) (hn : T = none) (ho : Only (· = g) w w') (hR : RS w' g A c l j true) :
  StrAt g A c l (s.bind strOf) w (.returned (.string t)) w' := by
 rw [bind_valT, ← hT, hn]
 exact ⟨ho, t, rfl, ⟨j, hR⟩, fun p hp => by cases hp⟩
theorem StrRel.ends {g : Nat} {A : Option Addr} {c : Nat} {l : Bytes} {T : Option (Bytes × Bytes)} {base : Nat} {w wr w' : World} {v : Value} {gk : Nat} {acc r : Bytes} {s : Option Bytes} {j : Nat}
  (h : StrRel g A c l T base w v gk wr (some (34 :: r)) acc) (hT : T = ((s.bind (mustB [34])).bind fun q => strB (q.length + 1) [] q)) (ho : Only (· = g) w w')
  (hR : RS w' g A c l j (!Lib.validD acc)) (hd : l.drop j = r) : StrAt g A c l (s.bind strOf) w (.returned (.string ⟨acc.toArray⟩)) w' := by
 have ht : T = some (acc, r) := by have := h.target; rw [← this]; exact strB_end acc r
 rw [bind_valT, ← hT, ht]
 cases hv : Lib.validD acc
 ·refine ⟨ho, _, rfl, ?_, ?_⟩
  ·simp only [valT, Option.bind_some, hv]; exact ⟨j, by rw [hv] at hR; exact hR⟩
  ·intro p hp; simp [valT, hv] at hp
 ·refine ⟨ho, _, rfl, ?_, ?_⟩
  ·simp only [valT, Option.bind_some, hv, if_true]; exact ⟨j, by rw [hv] at hR; exact hR, hd⟩
  ·intro p hp; simp [valT, hv] at hp; rw [← hp]
theorem StrRel.step {g : Nat} {A : Option Addr} {c : Nat} {l : Bytes} {T : Option (Bytes × Bytes)} {base : Nat} {w wr w' : World} {v v' : Value} {gk : Nat} {acc acc' r q : Bytes} {j : Nat}
  (h : StrRel g A c l T base w v gk wr (some r) acc) (he : strB (q.length + 1) acc' q = strB (r.length + 1) acc r) (hl : acc'.length + q.length ≤ acc.length + r.length)
  (hR : RS w' g A c l j false) (hd : l.drop j = q) (hO : OwnB w' base v' acc') (ho : Only (· = g) w w') (hs : base ≤ w'.heap.size) : StrR g A c l T base w v' (remG (some q)) w' :=
 ⟨some q, acc', ⟨j, hR, hd⟩, hO, ho, hs, rfl, Nat.le_trans hl h.short, he.trans h.target⟩
theorem StrRel.stepBad {g : Nat} {A : Option Addr} {c : Nat} {l : Bytes} {T : Option (Bytes × Bytes)} {base : Nat} {w wr w' : World} {v v' : Value} {gk : Nat} {acc acc' r : Bytes} {j : Nat}
  (h : StrRel g A c l T base w v gk wr (some r) acc) (he : strB (r.length + 1) acc r = none) (hl : acc'.length ≤ 1048600)
  (hR : RS w' g A c l j true) (hO : OwnB w' base v' acc') (ho : Only (· = g) w w') (hs : base ≤ w'.heap.size) : StrR g A c l T base w v' (remG none) w' :=
 ⟨none, acc', ⟨j, hR⟩, hO, ho, hs, rfl, hl, h.target.symm.trans he⟩
theorem StrRel.room {g : Nat} {A : Option Addr} {c : Nat} {l : Bytes} {T : Option (Bytes × Bytes)} {base : Nat} {w wr : World} {v : Value} {gk : Nat} {acc : Bytes} {s : Option Bytes}
  (h : StrRel g A c l T base w v gk wr s acc) : acc.length + 10 ≤ 2 ^ 40 := by
 have := h.short
 cases s <;> simp at this <;> omega
theorem StrRel.tail_none {g : Nat} {A : Option Addr} {c : Nat} {l : Bytes} {T : Option (Bytes × Bytes)} {base : Nat} {w wr : World} {v : Value} {gk : Nat} {acc : Bytes} {s : Option Bytes} {t : ByteArray}
  (h : StrRel g A c l T base w v gk wr none acc) (hT : T = ((s.bind (mustB [34])).bind fun q => strB (q.length + 1) [] q)) :
  StrAt g A c l (s.bind strOf) w (.returned (.string t)) wr := by
 have ht : T = none := h.target
 rw [bind_valT, ← hT, ht]
 exact ⟨h.only, t, rfl, h.rs, fun p hp => by cases hp⟩
theorem StrRel.tail_bad {g : Nat} {A : Option Addr} {c : Nat} {l : Bytes} {T : Option (Bytes × Bytes)} {base : Nat} {w wr : World} {v : Value} {gk : Nat} {acc : Bytes} {s : Option Bytes} {t : ByteArray}
  (h : StrRel g A c l T base w v gk wr none acc) (hT : T = ((s.bind (mustB [34])).bind fun q => strB (q.length + 1) [] q)) :
  StrAt g A c l (s.bind strOf) w (.returned (.string t)) (wr.setCell ⟨g, 2, none⟩ (.bool true)) := by
 have ht : T = none := h.target
 rw [bind_valT, ← hT, ht]
 exact ⟨h.only.setCell (fun _ => rfl) _, t, rfl, h.rs.setBad, fun p hp => by cases hp⟩
def IntPost (g : Nat) (A : Option Addr) (c : Nat) (l : Bytes) (n : Nat) (s : Option Bytes) (w : World) (e : Ending) (w' : World) : Prop :=
 e = .returned (.int .i64 n) ∧ RSo w' g A c l s ∧ Only (· = g) w w'
theorem four_some {g : Nat} {A : Option Addr} {c : Nat} {l r q : Bytes} {n : Nat} {w : World} (hR : RSo w g A c l (some r)) (h : hexN 4 0 r = some (n, q)) :
  Calls Tryz.prog 114 #[.pointer (some ⟨g, 0, none⟩)] w (IntPost g A c l n (some q) w) := by
 obtain ⟨i, hi, hd⟩ := hR
 refine (four_at hi).mono ?_
 rintro e w' ⟨ho, ⟨n', j, r', h1, he, hr, hd'⟩ | ⟨h1, _⟩⟩
 ·rw [hd, h] at h1
  simp only [Option.some.injEq, Prod.mk.injEq] at h1
  obtain ⟨rfl, rfl⟩ := h1
  exact ⟨he, ⟨j, hr, hd'⟩, ho⟩
 ·rw [hd, h] at h1; cases h1
theorem four_none_o {g : Nat} {A : Option Addr} {c : Nat} {l r : Bytes} {w : World} (hR : RSo w g A c l (some r)) (h : hexN 4 0 r = none) :
  Calls Tryz.prog 114 #[.pointer (some ⟨g, 0, none⟩)] w (IntPost g A c l 0 none w) := by
 obtain ⟨i, hi, hd⟩ := hR
 refine (four_at hi).mono ?_
 rintro e w' ⟨ho, ⟨n', j, r', h1, he, hr, hd'⟩ | ⟨h1, he, j, hr⟩⟩
 ·rw [hd, h] at h1; cases h1
 ·exact ⟨he, ⟨j, hr⟩, ho⟩
theorem four_bad_o {g : Nat} {A : Option Addr} {c : Nat} {l : Bytes} {w : World} (hR : RSo w g A c l none) :
  Calls Tryz.prog 114 #[.pointer (some ⟨g, 0, none⟩)] w (fun e w' => ∃ n, n < 65536 ∧ IntPost g A c l n none w e w') := by
 obtain ⟨i, hi⟩ := hR
 refine (four_at hi).mono ?_
 rintro e w' ⟨ho, ⟨n', j, r', h1, he, hr, hd'⟩ | ⟨h1, he, j, hr⟩⟩
 ·exact ⟨n', by have := (hexN_lt h1).1; omega, he, ⟨j, hr⟩, ho⟩
 ·exact ⟨0, by omega, he, ⟨j, hr⟩, ho⟩
structure StrMid (g : Nat) (A : Option Addr) (c : Nat) (l : Bytes) (base : Nat) (w : World) (v : Value) (acc : Bytes) (s : Option Bytes) (w' : World) : Prop where
 rs : RSo w' g A c l s
 own : OwnB w' base v acc
 only : Only (· = g) w w'
 size : base ≤ w'.heap.size
theorem StrMid.call {g : Nat} {A : Option Addr} {c : Nat} {l : Bytes} {base : Nat} {w : World} {v : Value} {acc : Bytes} {s s2 : Option Bytes} {w1 w2 : World}
  (h : StrMid g A c l base w v acc s w1) (hr : RSo w2 g A c l s2) (ho : Only (· = g) w1 w2) (hgb : g < base) : StrMid g A c l base w v acc s2 w2 :=
 ⟨hr, h.own.only' ho hgb, h.only.trans ho, Nat.le_trans h.size ho.size⟩
theorem StrMid.setBad {g : Nat} {A : Option Addr} {c : Nat} {l : Bytes} {base : Nat} {w : World} {v : Value} {acc : Bytes} {s : Option Bytes} {w1 : World}
  (h : StrMid g A c l base w v acc s w1) (hgb : g < base) : StrMid g A c l base w v acc none (w1.setCell ⟨g, 2, none⟩ (.bool true)) :=
 ⟨h.rs.setBad, h.own.set (p := ⟨g, 2, none⟩) hgb _, h.only.setCell (fun _ => rfl) _, by rw [size_setCell]; exact h.size⟩
theorem StrMid.drewN {g : Nat} {A : Option Addr} {c : Nat} {l : Bytes} {base : Nat} {w : World} {v : Value} {acc : Bytes} {s : Option Bytes} {w1 : World}
  (h : StrMid g A c l base w v acc s w1) (n : Nat) : StrMid g A c l base w v acc s (w1.drewN n) :=
 ⟨h.rs.drewN n, h.own.drewN n, h.only.drewN n, h.size⟩
theorem RSo.grown {w w' : World} {g : Nat} {A : Option Addr} {c : Nat} {l : Bytes} {s : Option Bytes} {base : Nat} {v : Value} {acc : Bytes} (h : RSo w g A c l s)
  (hO : OwnB w base v acc) (hg : w.grownBy w' v.ownBlock) (hgb : g < base) (hA : LowA A l base) : RSo w' g A c l s := by
 obtain ⟨j, h, e⟩ := h.get
 exact RSo.mk (h.grown hO hg hgb hA) e
theorem StrMid.app {g : Nat} {A : Option Addr} {c : Nat} {l : Bytes} {T : Option (Bytes × Bytes)} {base gk : Nat} {w wr : World} {v v0 v' : Value} {acc acc' r q : Bytes} {w1 w2 : World}
  (h : StrMid g A c l base w v acc (some q) w1) (hrel : StrRel g A c l T base w v0 gk wr (some r) acc) (he : strB (q.length + 1) acc' q = strB (r.length + 1) acc r) (hl : acc'.length + q.length ≤ acc.length + r.length)
  (hO : OwnB w2 base v' acc') (hg : w1.grownBy w2 v.ownBlock) (hgb : g < base) (hb : base = w.heap.size) (hA : LowA A l base) : StrR g A c l T base w v' (remG (some q)) w2 :=
 ⟨some q, acc', h.rs.grown h.own hg hgb hA, hO, h.only.grown hg (fun k hk hlt => absurd hlt (by have := (h.own.lt k hk).1; omega)), Nat.le_trans h.size hg.size, rfl, Nat.le_trans hl hrel.short, he.trans hrel.target⟩
theorem StrMid.appBad {g : Nat} {A : Option Addr} {c : Nat} {l : Bytes} {T : Option (Bytes × Bytes)} {base gk : Nat} {w wr : World} {v v0 v' : Value} {acc acc' r : Bytes} {w1 w2 : World}
  (h : StrMid g A c l base w v acc none w1) (hrel : StrRel g A c l T base w v0 gk wr (some r) acc) (he : strB (r.length + 1) acc r = none) (hl : acc'.length ≤ acc.length + 4)
  (hO : OwnB w2 base v' acc') (hg : w1.grownBy w2 v.ownBlock) (hgb : g < base) (hb : base = w.heap.size) (hA : LowA A l base) : StrR g A c l T base w v' (remG none) w2 :=
 ⟨none, acc', h.rs.grown h.own hg hgb hA, hO, h.only.grown hg (fun k hk hlt => absurd hlt (by have := (h.own.lt k hk).1; omega)), Nat.le_trans h.size hg.size, rfl, by have := hrel.short; simp at this; omega, hrel.target.symm.trans he⟩
theorem escNone_of {r : Bytes} (h : uniB r = none) : escB (117 :: r) = none := by
 show (match escOne 117 with | some y => some ([y], r) | none => if (117 : UInt8) = 117 then uniB r else none) = none
 rw [show escOne 117 = none from rfl]; simp [h]
theorem esc_of {r u q : Bytes} (h : uniB r = some (u, q)) : escB (117 :: r) = some (u, q) := by
 show (match escOne 117 with | some y => some ([y], r) | none => if (117 : UInt8) = 117 then uniB r else none) = some (u, q)
 rw [show escOne 117 = none from rfl]; simp [h]
theorem uniB_length' {r u q : Bytes} (h : escB (117 :: r) = some (u, q)) : u.length + q.length ≤ r.length ∧ q.length < r.length + 1 := by
 have h2 : escB (117 :: r) = uniB r := by
  show (match escOne 117 with | some y => some ([y], r) | none => if (117 : UInt8) = 117 then uniB r else none) = uniB r
  rw [show escOne 117 = none from rfl]; simp
 rw [h2] at h
 have := uniB_length h
 omega
theorem m_cases (m : Nat) : (decide ((m : Int) < 56320) = true ∧ decide (m < 56320) = true) ∨ ((decide ((m : Int) < 56320) = false ∧ decide (m < 56320) = false) ∧ decide (57343 < (m : Int)) = true ∧ decide (57343 < m) = true) ∨
  ((decide ((m : Int) < 56320) = false ∧ decide (m < 56320) = false) ∧ decide (57343 < (m : Int)) = false ∧ decide (57343 < m) = false) := by
 by_cases h1 : m < 56320
 ·left; constructor <;> simp <;> omega
 ·by_cases h2 : 57343 < m
  ·right; left; refine ⟨⟨?_, ?_⟩, ?_, ?_⟩ <;> simp <;> omega
  ·right; right; refine ⟨⟨?_, ?_⟩, ?_, ?_⟩ <;> simp <;> omega
theorem encode_of {t : ByteArray} {z : Int} (ht : t = Utf8.encode z) {n : Nat} (h : z = n) : t.data.toList = runeB n := by subst h; rw [ht]; exact encode_runeB n
theorem uni_pair {r r1 : Bytes} {n : Nat} (h : hexN 4 0 r = some (n, r1)) (hn : 55296 ≤ n ∧ n < 56320) :
  uniB r = match mustB [92, 117] r1 with
   | none => none
   | some r2 => match hexN 4 0 r2 with
    | none => none
    | some (m, r3) => if 56320 ≤ m ∧ m ≤ 57343 then some (runeB (65536 + 1024 * (n - 55296) + (m - 56320)), r3) else none := by
 unfold uniB
 rw [h]
 simp only []
 rw [if_neg (by omega), if_neg (by omega)]
 cases mustB [92, 117] r1 with
 | none => rfl
 | some r2 =>
  simp only []
  cases hexN 4 0 r2 with
  | none => rfl
  | some p => rfl
theorem StrMid.stepBad {g : Nat} {A : Option Addr} {c : Nat} {l : Bytes} {T : Option (Bytes × Bytes)} {base gk : Nat} {w wr : World} {v v0 : Value} {acc r : Bytes} {w1 : World}
  (h : StrMid g A c l base w v acc none w1) (hrel : StrRel g A c l T base w v0 gk wr (some r) acc) (he : strB (r.length + 1) acc r = none) : StrR g A c l T base w v (remG none) w1 :=
 ⟨none, acc, h.rs, h.own, h.only, h.size, rfl, by have := hrel.short; simp at this ⊢; omega, hrel.target.symm.trans he⟩
theorem escNone_else {e : UInt8} {r : Bytes} {y : Nat} (hy : y = e.toNat) (h : y ≠ 34 ∧ y ≠ 92 ∧ y ≠ 47 ∧ y ≠ 98 ∧ y ≠ 102 ∧ y ≠ 110 ∧ y ≠ 114 ∧ y ≠ 116 ∧ y ≠ 117) : escB (e :: r) = none := by
 obtain ⟨h1, h2, h3, h4, h5, h6, h7, h8, h9⟩ := h
 have ne : ∀ k : UInt8, y ≠ k.toNat → e ≠ k := by rintro k q rfl; exact q hy
 simp only [escB, escOne]
 rw [if_neg (fun q => q.elim (ne 34 h1) (fun q => q.elim (ne 92 h2) (ne 47 h3))), if_neg (ne 98 h4), if_neg (ne 102 h5), if_neg (ne 110 h6), if_neg (ne 114 h7), if_neg (ne 116 h8)]
 simp only []
 rw [if_neg (ne 117 h9)]
theorem encode_len (z : Int) : (Utf8.encode z).data.toList.length ≤ 4 := by rw [encode_data]; exact (encC_length _).1
theorem encode_size_of {t : ByteArray} {z : Int} (h : t = Utf8.encode z) : t.size ≤ 4 := by have := encode_len z; rw [← h] at this; simpa using this
theorem appended_len_of {acc : Bytes} {t : ByteArray} {z : Int} (h : t = Utf8.encode z) : (acc ++ t.data.toList).length ≤ acc.length + 4 := by
 have := encode_len z
 rw [← h] at this
 rw [List.length_append]; omega
set_option maxHeartbeats 8000000 in
set_option maxRecDepth 100000 in
theorem str_at {g : Nat} {A : Option Addr} {c : Nat} {l : Bytes} {s : Option Bytes} {w : World} (hR : RSo w g A c l s) :
  Calls Tryz.prog 90 #[.pointer (some ⟨g, 0, none⟩)] w (StrAt g A c l (s.bind strOf) w) := by
 have HR := Lib.hid hR
 have hgl : g < w.heap.size := by obtain ⟨j, h, _⟩ := hR.get; exact h.blk.lt
 have hlow : LowA A l w.heap.size := by obtain ⟨j, h, _⟩ := hR.get; exact h.bytes.low
 clear hR
 obtain ⟨base, hbase⟩ : ∃ base, base = w.heap.size := ⟨_, rfl⟩
 rw [← hbase] at hgl hlow
 have HLOW := Lib.hid hlow
 clear hlow
 have HB := Lib.hid hbase
 clear hbase
 go_enter Tryz.func90, Tryz.ntmps90
 go_wp2_with (go_at_call 89; refine (must_any (by decide) HR.out).mono ?_; rintro e w1 ⟨rfl, hr1, ho1⟩; have HR1 := Lib.hid hr1; have HO1 := Lib.hid ho1; clear hr1 ho1)
 go_loopg [3] (remG (s.bind (mustB [34]))) (fun gk v wr => StrR g A c l ((s.bind (mustB [34])).bind fun q => strB (q.length + 1) [] q) base w v gk wr)
 case atStart => exact StrRel.start HR1.out HO1.out HB.out
 case round =>
  obtain ⟨T, hT⟩ : ∃ T, T = ((s.bind (mustB [34])).bind fun q => strB (q.length + 1) [] q) := ⟨_, rfl⟩
  rw [← hT] at hrel
  have HT := Lib.hid hT
  clear hT
  obtain ⟨s', acc, hrl⟩ := hrel
  have HREL := Lib.hid hrl
  have hrs := hrl.rs
  obtain ⟨h2, h4⟩ := hrs.bad
  clear hrl
  cases s' with
  | none =>
   have HRS := Lib.hid hrs
   clear hrs
   obtain ⟨A', c', rfl⟩ := HREL.out.own.form
   have hlen : (⟨acc.toArray⟩ : ByteArray).size ≤ maxLen := by have := HREL.out.short; simp at this; simp [maxLen, ByteArray.size]; omega
   have HLEN := Lib.hid hlen
   clear hlen
   go_wp2_with (first | (refine wpList_text_of rfl _ rfl rfl rfl HREL.out.own.bytes.2 ?_) | (refine wpList_text_of rfl _ rfl rfl rfl (HREL.out.own.set (p := ⟨g, 2, none⟩) hgl _).bytes.2 ?_) | (go_at_call 115; refine (utf8_any _ _ HLEN.out).mono ?_; rintro e w2 ⟨rfl, rfl⟩))
   ·go_ret
    exact HREL.out.tail_bad HT.out
   ·go_ret
    exact HREL.out.tail_none HT.out
  | some r =>
   obtain ⟨j, hj, hd⟩ := hrs
   have hl := hj.len
   obtain ⟨h0, h1, _, h3, _⟩ := hj.cells
   have hj0 := hj.le
   have hgb := Lib.hid hgl
   cases r with
   | nil =>
    have hge : decide (l.length ≤ j) = true := by
     have := congrArg List.length hd
     simp at this ⊢; omega
    have HJ := Lib.hid hj
    clear hj hd
    go_wp2
    go_quiet (fail)
    go_wp2
    go_ret
    exact StrRel.fall HT.out (HREL.out.target.symm.trans rfl) ((HREL.out.only.drewN _).setCell (fun _ => rfl) _) ((HJ.out.drewN _).setBad true)
   | cons x r =>
    have hlt : j < l.length := by
     rcases Nat.lt_or_ge j l.length with h | h
     ·exact h
     ·rw [List.drop_eq_nil_of_le h] at hd; cases hd
    have hge : decide (l.length ≤ j) = false := by simp; omega
    have hx : l[j]? = some x := by rw [← List.head?_drop, hd]; rfl
    have HD1 := Lib.hid (show l.drop (j + 1) = r by rw [← List.tail_drop, hd]; rfl)
    have HL1 := Lib.hid (show j + 1 ≤ l.length from hlt)
    obtain ⟨b, o, rfl, hc⟩ := hj.bytes j x hx
    have HJ := Lib.hid hj
    obtain ⟨z, hz⟩ : ∃ z : Nat, z = x.toNat := ⟨_, rfl⟩
    rw [← hz] at hc
    have hz2 : z < 256 := by rw [hz]; exact x.toNat_lt
    have HZ := Lib.hid hz
    have hbg : b ≠ g := hj.ne b o rfl
    clear hj hd hx hz
    by_cases h32 : z < 32
    ·as_aux_lemma =>
      have c32 : decide ((z : Int) < 32) = true := by simp; omega
      have H32 := Lib.hid h32
      clear h32
      go_wp2
      go_quiet (fail)
      go_wp2
      go_ret
      exact StrRel.fall HT.out (HREL.out.target.symm.trans (strB_low _ _ _ (by rw [← HZ.out]; exact H32.out))) ((HREL.out.only.drewN _).setCell (fun _ => rfl) _) ((HJ.out.drewN _).setBad true)
    ·have c32 : decide ((z : Int) < 32) = false := by simp; omega
     have H32 := Lib.hid h32
     clear h32
     by_cases h34 : z = 34
     ·as_aux_lemma =>
       subst h34
       obtain rfl : x = 34 := UInt8.toNat_inj.1 HZ.out.symm
       obtain ⟨A', c', rfl⟩ := HREL.out.own.form
       have hlen : (⟨acc.toArray⟩ : ByteArray).size ≤ maxLen := by have := HREL.out.short; simp at this; simp [maxLen, ByteArray.size]; omega
       have HLEN := Lib.hid hlen
       clear hlen
       go_wp2
       go_quiet (fail)
       go_wp2
       go_quiet (fail)
       go_wp2_with (first | (with_reducible refine wpList_text_of rfl _ rfl rfl rfl ?_ ?_; first | exact ((HREL.out.own.drewN _).set (p := ⟨g, 1, none⟩) hgl _).bytes.2 | exact (((HREL.out.own.drewN _).set (p := ⟨g, 1, none⟩) hgl _).set (p := ⟨g, 2, none⟩) hgl _).bytes.2) | (go_at_call 115; refine (utf8_any _ _ HLEN.out).mono ?_; rintro e w2 ⟨rfl, rfl⟩))
       ·rename_i hv
        go_ret
        exact HREL.out.ends HT.out (((HREL.out.only.drewN _).setCell (fun _ => rfl) _).setCell (fun _ => rfl) _) (by rw [hv]; exact ((HJ.out.drewN _).setAt (j + 1) HL1.out).setBad true) HD1.out
       ·rename_i hv
        go_ret
        exact HREL.out.ends HT.out ((HREL.out.only.drewN _).setCell (fun _ => rfl) _) (by rw [hv]; exact ((HJ.out.drewN _).setAt (j + 1) HL1.out)) HD1.out
     ·have H34 := Lib.hid h34
      have c34 : ((z : Int) == 34) = false := by simp; omega
      clear h34
      by_cases h92 : z = 92
      ·as_aux_lemma =>
        subst h92
        obtain rfl : x = 92 := UInt8.toNat_inj.1 HZ.out.symm
        cases r with
        | nil =>
         have hge2 : decide ((l.length : Int) ≤ (j : Int) + 1) = true := by
          have := congrArg List.length HD1.out
          simp at this ⊢; omega
         go_wp2
         go_quiet (fail)
         go_wp2
         go_quiet (fail)
         go_wp2
         go_quiet (fail)
         go_wp2
         go_ret
         exact StrRel.fall HT.out (HREL.out.target.symm.trans (strB_escNone _ _ rfl)) ((((HREL.out.only.drewN _).setCell (fun _ => rfl) _).drewN _).setCell (fun _ => rfl) _) ((((HJ.out.drewN _).setAt (j + 1) HL1.out).drewN _).setBad true)
        | cons e r =>
         have hlt2 : j + 1 < l.length := by
          rcases Nat.lt_or_ge (j + 1) l.length with h | h
          ·exact h
          ·have hd := HD1.out; rw [List.drop_eq_nil_of_le h] at hd; cases hd
         have hge2 : decide ((l.length : Int) ≤ (j : Int) + 1) = false := by simp; omega
         have he : l[j + 1]? = some e := by rw [← List.head?_drop, HD1.out]; rfl
         have HD2 := Lib.hid (show l.drop (j + 2) = r by rw [← List.tail_drop, HD1.out]; rfl)
         have HL2 := Lib.hid (show j + 2 ≤ l.length from hlt2)
         obtain ⟨b', o', eb, hc2⟩ := HJ.out.bytes (j + 1) e he
         cases eb
         obtain ⟨y, hy⟩ : ∃ y : Nat, y = e.toNat := ⟨_, rfl⟩
         rw [← hy] at hc2
         have hy2 : y < 256 := by rw [hy]; exact e.toNat_lt
         have HY := Lib.hid hy
         have HRM := Lib.hid (show acc.length + 1 ≤ 2 ^ 40 by have := HREL.out.room; omega)
         have HRM4 := Lib.hid (show acc.length + 4 ≤ 2 ^ 40 by have := HREL.out.room; omega)
         clear he hy
         by_cases h34 : y = 34
         ·as_aux_lemma =>
           subst h34
           obtain rfl : e = 34 := UInt8.toNat_inj.1 HY.out.symm
           go_wp2
           go_quiet (fail)
           go_wp2
           go_quiet (fail)
           go_wp2
           go_quiet (fail)
           go_wp2
           go_quiet (fail)
           go_wp2_with (at_builtin; go_must (refine wpList_append_byte (y := 34) rfl _ _ rfl rfl (((((HREL.out.own.drewN _).set (p := ⟨g, 1, none⟩) hgb.out _).drewN _).set (p := ⟨g, 1, none⟩) hgb.out _).alloc _) rfl rfl (cell_new_at _ _ _ _ (((size_setCell _ _ _).trans (size_setCell _ _ _)).symm)) HRM.out (Nat.le_trans HREL.out.size ((((((Only.refl (· = g) _).drewN _).setCell (p := ⟨g, 1, none⟩) (fun _ => rfl) _).drewN _).setCell (p := ⟨g, 1, none⟩) (fun _ => rfl) _).alloc _).size) ?_); intro v' w2 hown2 hgr2; have HO2 := Lib.hid hown2; have HG2 := Lib.hid hgr2; clear hown2 hgr2)
           go_roundg (remG (some r))
           case rel =>
            have hR2 := RS.grown (((((HJ.out.drewN _).setAt (j + 1) HL1.out).drewN _).setAt (j + 2) HL2.out).alloc _) (((((HREL.out.own.drewN _).set (p := ⟨g, 1, none⟩) hgb.out _).drewN _).set (p := ⟨g, 1, none⟩) hgb.out _).alloc _) HG2.out hgb.out HLOW.out
            rw [← HT.out]
            exact HREL.out.step (strB_esc _ _ _ _ (show escB (34 :: r) = some ([34], r) from rfl)) (by simp; omega) hR2 HD2.out HO2.out ((((((HREL.out.only.drewN _).setCell (fun _ => rfl) _).drewN _).setCell (fun _ => rfl) _).alloc _).grown HG2.out (fun k hk hlt => absurd hlt (by have := (HREL.out.own.lt k hk).1; have := HB.out; omega))) (Nat.le_trans HREL.out.size (Nat.le_trans ((((((Only.refl (· = g) _).drewN _).setCell (p := ⟨g, 1, none⟩) (fun _ => rfl) _).drewN _).setCell (p := ⟨g, 1, none⟩) (fun _ => rfl) _).alloc _).size HG2.out.size))
           case measure => have := HREL.out.gk_is; simp [remG] at this ⊢; omega
         by_cases h92 : y = 92
         ·as_aux_lemma =>
           subst h92
           obtain rfl : e = 92 := UInt8.toNat_inj.1 HY.out.symm
           go_wp2
           go_quiet (fail)
           go_wp2
           go_quiet (fail)
           go_wp2
           go_quiet (fail)
           go_wp2
           go_quiet (fail)
           go_wp2_with (at_builtin; go_must (refine wpList_append_byte (y := 92) rfl _ _ rfl rfl (((((HREL.out.own.drewN _).set (p := ⟨g, 1, none⟩) hgb.out _).drewN _).set (p := ⟨g, 1, none⟩) hgb.out _).alloc _) rfl rfl (cell_new_at _ _ _ _ (((size_setCell _ _ _).trans (size_setCell _ _ _)).symm)) HRM.out (Nat.le_trans HREL.out.size ((((((Only.refl (· = g) _).drewN _).setCell (p := ⟨g, 1, none⟩) (fun _ => rfl) _).drewN _).setCell (p := ⟨g, 1, none⟩) (fun _ => rfl) _).alloc _).size) ?_); intro v' w2 hown2 hgr2; have HO2 := Lib.hid hown2; have HG2 := Lib.hid hgr2; clear hown2 hgr2)
           go_roundg (remG (some r))
           case rel =>
            have hR2 := RS.grown (((((HJ.out.drewN _).setAt (j + 1) HL1.out).drewN _).setAt (j + 2) HL2.out).alloc _) (((((HREL.out.own.drewN _).set (p := ⟨g, 1, none⟩) hgb.out _).drewN _).set (p := ⟨g, 1, none⟩) hgb.out _).alloc _) HG2.out hgb.out HLOW.out
            rw [← HT.out]
            exact HREL.out.step (strB_esc _ _ _ _ (show escB (92 :: r) = some ([92], r) from rfl)) (by simp; omega) hR2 HD2.out HO2.out ((((((HREL.out.only.drewN _).setCell (fun _ => rfl) _).drewN _).setCell (fun _ => rfl) _).alloc _).grown HG2.out (fun k hk hlt => absurd hlt (by have := (HREL.out.own.lt k hk).1; have := HB.out; omega))) (Nat.le_trans HREL.out.size (Nat.le_trans ((((((Only.refl (· = g) _).drewN _).setCell (p := ⟨g, 1, none⟩) (fun _ => rfl) _).drewN _).setCell (p := ⟨g, 1, none⟩) (fun _ => rfl) _).alloc _).size HG2.out.size))
           case measure => have := HREL.out.gk_is; simp [remG] at this ⊢; omega
         by_cases h47 : y = 47
         ·as_aux_lemma =>
           subst h47
           obtain rfl : e = 47 := UInt8.toNat_inj.1 HY.out.symm
           go_wp2
           go_quiet (fail)
           go_wp2
           go_quiet (fail)
           go_wp2
           go_quiet (fail)
           go_wp2
           go_quiet (fail)
           go_wp2_with (at_builtin; go_must (refine wpList_append_byte (y := 47) rfl _ _ rfl rfl (((((HREL.out.own.drewN _).set (p := ⟨g, 1, none⟩) hgb.out _).drewN _).set (p := ⟨g, 1, none⟩) hgb.out _).alloc _) rfl rfl (cell_new_at _ _ _ _ (((size_setCell _ _ _).trans (size_setCell _ _ _)).symm)) HRM.out (Nat.le_trans HREL.out.size ((((((Only.refl (· = g) _).drewN _).setCell (p := ⟨g, 1, none⟩) (fun _ => rfl) _).drewN _).setCell (p := ⟨g, 1, none⟩) (fun _ => rfl) _).alloc _).size) ?_); intro v' w2 hown2 hgr2; have HO2 := Lib.hid hown2; have HG2 := Lib.hid hgr2; clear hown2 hgr2)
           go_roundg (remG (some r))
           case rel =>
            have hR2 := RS.grown (((((HJ.out.drewN _).setAt (j + 1) HL1.out).drewN _).setAt (j + 2) HL2.out).alloc _) (((((HREL.out.own.drewN _).set (p := ⟨g, 1, none⟩) hgb.out _).drewN _).set (p := ⟨g, 1, none⟩) hgb.out _).alloc _) HG2.out hgb.out HLOW.out
            rw [← HT.out]
            exact HREL.out.step (strB_esc _ _ _ _ (show escB (47 :: r) = some ([47], r) from rfl)) (by simp; omega) hR2 HD2.out HO2.out ((((((HREL.out.only.drewN _).setCell (fun _ => rfl) _).drewN _).setCell (fun _ => rfl) _).alloc _).grown HG2.out (fun k hk hlt => absurd hlt (by have := (HREL.out.own.lt k hk).1; have := HB.out; omega))) (Nat.le_trans HREL.out.size (Nat.le_trans ((((((Only.refl (· = g) _).drewN _).setCell (p := ⟨g, 1, none⟩) (fun _ => rfl) _).drewN _).setCell (p := ⟨g, 1, none⟩) (fun _ => rfl) _).alloc _).size HG2.out.size))
           case measure => have := HREL.out.gk_is; simp [remG] at this ⊢; omega
         by_cases h98 : y = 98
         ·as_aux_lemma =>
           subst h98
           obtain rfl : e = 98 := UInt8.toNat_inj.1 HY.out.symm
           go_wp2
           go_quiet (fail)
           go_wp2
           go_quiet (fail)
           go_wp2
           go_quiet (fail)
           go_wp2
           go_quiet (fail)
           go_wp2_with (at_builtin; go_must (refine wpList_append_byte (y := 8) rfl _ _ rfl rfl (((((HREL.out.own.drewN _).set (p := ⟨g, 1, none⟩) hgb.out _).drewN _).set (p := ⟨g, 1, none⟩) hgb.out _).alloc _) rfl rfl (cell_new_at _ _ _ _ (((size_setCell _ _ _).trans (size_setCell _ _ _)).symm)) HRM.out (Nat.le_trans HREL.out.size ((((((Only.refl (· = g) _).drewN _).setCell (p := ⟨g, 1, none⟩) (fun _ => rfl) _).drewN _).setCell (p := ⟨g, 1, none⟩) (fun _ => rfl) _).alloc _).size) ?_); intro v' w2 hown2 hgr2; have HO2 := Lib.hid hown2; have HG2 := Lib.hid hgr2; clear hown2 hgr2)
           go_roundg (remG (some r))
           case rel =>
            have hR2 := RS.grown (((((HJ.out.drewN _).setAt (j + 1) HL1.out).drewN _).setAt (j + 2) HL2.out).alloc _) (((((HREL.out.own.drewN _).set (p := ⟨g, 1, none⟩) hgb.out _).drewN _).set (p := ⟨g, 1, none⟩) hgb.out _).alloc _) HG2.out hgb.out HLOW.out
            rw [← HT.out]
            exact HREL.out.step (strB_esc _ _ _ _ (show escB (98 :: r) = some ([8], r) from rfl)) (by simp; omega) hR2 HD2.out HO2.out ((((((HREL.out.only.drewN _).setCell (fun _ => rfl) _).drewN _).setCell (fun _ => rfl) _).alloc _).grown HG2.out (fun k hk hlt => absurd hlt (by have := (HREL.out.own.lt k hk).1; have := HB.out; omega))) (Nat.le_trans HREL.out.size (Nat.le_trans ((((((Only.refl (· = g) _).drewN _).setCell (p := ⟨g, 1, none⟩) (fun _ => rfl) _).drewN _).setCell (p := ⟨g, 1, none⟩) (fun _ => rfl) _).alloc _).size HG2.out.size))
           case measure => have := HREL.out.gk_is; simp [remG] at this ⊢; omega
         by_cases h102 : y = 102
         ·as_aux_lemma =>
           subst h102
           obtain rfl : e = 102 := UInt8.toNat_inj.1 HY.out.symm
           go_wp2
           go_quiet (fail)
           go_wp2
           go_quiet (fail)
           go_wp2
           go_quiet (fail)
           go_wp2
           go_quiet (fail)
           go_wp2_with (at_builtin; go_must (refine wpList_append_byte (y := 12) rfl _ _ rfl rfl (((((HREL.out.own.drewN _).set (p := ⟨g, 1, none⟩) hgb.out _).drewN _).set (p := ⟨g, 1, none⟩) hgb.out _).alloc _) rfl rfl (cell_new_at _ _ _ _ (((size_setCell _ _ _).trans (size_setCell _ _ _)).symm)) HRM.out (Nat.le_trans HREL.out.size ((((((Only.refl (· = g) _).drewN _).setCell (p := ⟨g, 1, none⟩) (fun _ => rfl) _).drewN _).setCell (p := ⟨g, 1, none⟩) (fun _ => rfl) _).alloc _).size) ?_); intro v' w2 hown2 hgr2; have HO2 := Lib.hid hown2; have HG2 := Lib.hid hgr2; clear hown2 hgr2)
           go_roundg (remG (some r))
           case rel =>
            have hR2 := RS.grown (((((HJ.out.drewN _).setAt (j + 1) HL1.out).drewN _).setAt (j + 2) HL2.out).alloc _) (((((HREL.out.own.drewN _).set (p := ⟨g, 1, none⟩) hgb.out _).drewN _).set (p := ⟨g, 1, none⟩) hgb.out _).alloc _) HG2.out hgb.out HLOW.out
            rw [← HT.out]
            exact HREL.out.step (strB_esc _ _ _ _ (show escB (102 :: r) = some ([12], r) from rfl)) (by simp; omega) hR2 HD2.out HO2.out ((((((HREL.out.only.drewN _).setCell (fun _ => rfl) _).drewN _).setCell (fun _ => rfl) _).alloc _).grown HG2.out (fun k hk hlt => absurd hlt (by have := (HREL.out.own.lt k hk).1; have := HB.out; omega))) (Nat.le_trans HREL.out.size (Nat.le_trans ((((((Only.refl (· = g) _).drewN _).setCell (p := ⟨g, 1, none⟩) (fun _ => rfl) _).drewN _).setCell (p := ⟨g, 1, none⟩) (fun _ => rfl) _).alloc _).size HG2.out.size))
           case measure => have := HREL.out.gk_is; simp [remG] at this ⊢; omega
         by_cases h110 : y = 110
         ·as_aux_lemma =>
           subst h110
           obtain rfl : e = 110 := UInt8.toNat_inj.1 HY.out.symm
           go_wp2
           go_quiet (fail)
           go_wp2
           go_quiet (fail)
           go_wp2
           go_quiet (fail)
           go_wp2
           go_quiet (fail)
           go_wp2_with (at_builtin; go_must (refine wpList_append_byte (y := 10) rfl _ _ rfl rfl (((((HREL.out.own.drewN _).set (p := ⟨g, 1, none⟩) hgb.out _).drewN _).set (p := ⟨g, 1, none⟩) hgb.out _).alloc _) rfl rfl (cell_new_at _ _ _ _ (((size_setCell _ _ _).trans (size_setCell _ _ _)).symm)) HRM.out (Nat.le_trans HREL.out.size ((((((Only.refl (· = g) _).drewN _).setCell (p := ⟨g, 1, none⟩) (fun _ => rfl) _).drewN _).setCell (p := ⟨g, 1, none⟩) (fun _ => rfl) _).alloc _).size) ?_); intro v' w2 hown2 hgr2; have HO2 := Lib.hid hown2; have HG2 := Lib.hid hgr2; clear hown2 hgr2)
           go_roundg (remG (some r))
           case rel =>
            have hR2 := RS.grown (((((HJ.out.drewN _).setAt (j + 1) HL1.out).drewN _).setAt (j + 2) HL2.out).alloc _) (((((HREL.out.own.drewN _).set (p := ⟨g, 1, none⟩) hgb.out _).drewN _).set (p := ⟨g, 1, none⟩) hgb.out _).alloc _) HG2.out hgb.out HLOW.out
            rw [← HT.out]
            exact HREL.out.step (strB_esc _ _ _ _ (show escB (110 :: r) = some ([10], r) from rfl)) (by simp; omega) hR2 HD2.out HO2.out ((((((HREL.out.only.drewN _).setCell (fun _ => rfl) _).drewN _).setCell (fun _ => rfl) _).alloc _).grown HG2.out (fun k hk hlt => absurd hlt (by have := (HREL.out.own.lt k hk).1; have := HB.out; omega))) (Nat.le_trans HREL.out.size (Nat.le_trans ((((((Only.refl (· = g) _).drewN _).setCell (p := ⟨g, 1, none⟩) (fun _ => rfl) _).drewN _).setCell (p := ⟨g, 1, none⟩) (fun _ => rfl) _).alloc _).size HG2.out.size))
           case measure => have := HREL.out.gk_is; simp [remG] at this ⊢; omega
         by_cases h114 : y = 114
         ·as_aux_lemma =>
           subst h114
           obtain rfl : e = 114 := UInt8.toNat_inj.1 HY.out.symm
           go_wp2
           go_quiet (fail)
           go_wp2
           go_quiet (fail)
           go_wp2
           go_quiet (fail)
           go_wp2
           go_quiet (fail)
           go_wp2_with (at_builtin; go_must (refine wpList_append_byte (y := 13) rfl _ _ rfl rfl (((((HREL.out.own.drewN _).set (p := ⟨g, 1, none⟩) hgb.out _).drewN _).set (p := ⟨g, 1, none⟩) hgb.out _).alloc _) rfl rfl (cell_new_at _ _ _ _ (((size_setCell _ _ _).trans (size_setCell _ _ _)).symm)) HRM.out (Nat.le_trans HREL.out.size ((((((Only.refl (· = g) _).drewN _).setCell (p := ⟨g, 1, none⟩) (fun _ => rfl) _).drewN _).setCell (p := ⟨g, 1, none⟩) (fun _ => rfl) _).alloc _).size) ?_); intro v' w2 hown2 hgr2; have HO2 := Lib.hid hown2; have HG2 := Lib.hid hgr2; clear hown2 hgr2)
           go_roundg (remG (some r))
           case rel =>
            have hR2 := RS.grown (((((HJ.out.drewN _).setAt (j + 1) HL1.out).drewN _).setAt (j + 2) HL2.out).alloc _) (((((HREL.out.own.drewN _).set (p := ⟨g, 1, none⟩) hgb.out _).drewN _).set (p := ⟨g, 1, none⟩) hgb.out _).alloc _) HG2.out hgb.out HLOW.out
            rw [← HT.out]
            exact HREL.out.step (strB_esc _ _ _ _ (show escB (114 :: r) = some ([13], r) from rfl)) (by simp; omega) hR2 HD2.out HO2.out ((((((HREL.out.only.drewN _).setCell (fun _ => rfl) _).drewN _).setCell (fun _ => rfl) _).alloc _).grown HG2.out (fun k hk hlt => absurd hlt (by have := (HREL.out.own.lt k hk).1; have := HB.out; omega))) (Nat.le_trans HREL.out.size (Nat.le_trans ((((((Only.refl (· = g) _).drewN _).setCell (p := ⟨g, 1, none⟩) (fun _ => rfl) _).drewN _).setCell (p := ⟨g, 1, none⟩) (fun _ => rfl) _).alloc _).size HG2.out.size))
           case measure => have := HREL.out.gk_is; simp [remG] at this ⊢; omega
         by_cases h116 : y = 116
         ·as_aux_lemma =>
           subst h116
           obtain rfl : e = 116 := UInt8.toNat_inj.1 HY.out.symm
           go_wp2
           go_quiet (fail)
           go_wp2
           go_quiet (fail)
           go_wp2
           go_quiet (fail)
           go_wp2
           go_quiet (fail)
           go_wp2_with (at_builtin; go_must (refine wpList_append_byte (y := 9) rfl _ _ rfl rfl (((((HREL.out.own.drewN _).set (p := ⟨g, 1, none⟩) hgb.out _).drewN _).set (p := ⟨g, 1, none⟩) hgb.out _).alloc _) rfl rfl (cell_new_at _ _ _ _ (((size_setCell _ _ _).trans (size_setCell _ _ _)).symm)) HRM.out (Nat.le_trans HREL.out.size ((((((Only.refl (· = g) _).drewN _).setCell (p := ⟨g, 1, none⟩) (fun _ => rfl) _).drewN _).setCell (p := ⟨g, 1, none⟩) (fun _ => rfl) _).alloc _).size) ?_); intro v' w2 hown2 hgr2; have HO2 := Lib.hid hown2; have HG2 := Lib.hid hgr2; clear hown2 hgr2)
           go_roundg (remG (some r))
           case rel =>
            have hR2 := RS.grown (((((HJ.out.drewN _).setAt (j + 1) HL1.out).drewN _).setAt (j + 2) HL2.out).alloc _) (((((HREL.out.own.drewN _).set (p := ⟨g, 1, none⟩) hgb.out _).drewN _).set (p := ⟨g, 1, none⟩) hgb.out _).alloc _) HG2.out hgb.out HLOW.out
            rw [← HT.out]
            exact HREL.out.step (strB_esc _ _ _ _ (show escB (116 :: r) = some ([9], r) from rfl)) (by simp; omega) hR2 HD2.out HO2.out ((((((HREL.out.only.drewN _).setCell (fun _ => rfl) _).drewN _).setCell (fun _ => rfl) _).alloc _).grown HG2.out (fun k hk hlt => absurd hlt (by have := (HREL.out.own.lt k hk).1; have := HB.out; omega))) (Nat.le_trans HREL.out.size (Nat.le_trans ((((((Only.refl (· = g) _).drewN _).setCell (p := ⟨g, 1, none⟩) (fun _ => rfl) _).drewN _).setCell (p := ⟨g, 1, none⟩) (fun _ => rfl) _).alloc _).size HG2.out.size))
           case measure => have := HREL.out.gk_is; simp [remG] at this ⊢; omega
         by_cases h117 : y = 117
         ·as_aux_lemma =>
           subst h117
           obtain rfl : e = 117 := UInt8.toNat_inj.1 HY.out.symm
           have hmid := fun n m => (⟨⟨j + 2, (((HJ.out.drewN n).setAt (j + 1) HL1.out).drewN m).setAt (j + 2) HL2.out, HD2.out⟩, ((((HREL.out.own.drewN n).set (p := ⟨g, 1, none⟩) hgb.out _).drewN m).set (p := ⟨g, 1, none⟩) hgb.out _), ((((HREL.out.only.drewN n).setCell (fun _ => rfl) _).drewN m).setCell (fun _ => rfl) _), by rw [size_setCell]; show base ≤ (World.setCell _ _ _).heap.size; rw [size_setCell]; exact HREL.out.size⟩ : StrMid g (some ⟨b, o, none⟩) c l base w _ acc (some r) ((((wr.drewN n).setCell ⟨g, 1, none⟩ (.int .i64 ((j + 1 : Nat) : Int))).drewN m).setCell ⟨g, 1, none⟩ (.int .i64 ((j + 2 : Nat) : Int))))
           have HMID := Lib.hid hmid
           clear hmid
           cases hh : hexN 4 0 r with
           | none =>
            have HH := Lib.hid hh
            clear hh
            go_wp2
            go_quiet (fail)
            go_wp2
            go_quiet (fail)
            go_wp2
            go_quiet (fail)
            go_wp2
            go_quiet (fail)
            go_wp2_with (first | (go_at_call 114; go_must (refine (four_none_o (HMID.out _ _).rs HH.out).mono ?_); rintro e w2 ⟨rfl, hr2, ho2⟩; obtain ⟨k2, k4⟩ := hr2.bad; have HM2 := Lib.hid ((HMID.out _ _).call hr2 ho2 hgb.out); clear hr2 ho2) | (with_reducible refine wpList_rune_text rfl _ rfl rfl ?_; intro tx htx; have HTX := Lib.hid htx; clear htx) | (at_builtin; go_must (refine wpList_append_text rfl _ _ rfl rfl HM2.out.own rfl (Nat.le_trans (Nat.add_le_add_left (encode_size_of HTX.out) _) HRM4.out) HM2.out.size ?_); intro v' w3 hown2 hgr2; have HO2 := Lib.hid hown2; have HG2 := Lib.hid hgr2; clear hown2 hgr2))
            go_roundg (remG none)
            case rel =>
             rw [← HT.out]
             exact HM2.out.appBad HREL.out (strB_escNone _ _ (escNone_of (by unfold uniB; rw [HH.out]))) (appended_len_of HTX.out) HO2.out HG2.out hgb.out HB.out HLOW.out
            case measure => have := HREL.out.gk_is; simp [remG] at this ⊢; omega
           | some p =>
            obtain ⟨n, r1⟩ := p
            have hn : n < 65536 := by have := (hexN_lt hh).1; omega
            have HH := Lib.hid hh
            clear hh
            by_cases ha : n < 55296
            ·as_aux_lemma =>
              have HC := Lib.hid ha
              clear ha
              obtain ⟨d1a, d1b⟩ : decide (55296 ≤ (n : Int)) = false ∧ decide (55296 ≤ n) = false := by have := HC.out; constructor <;> simp <;> omega
              obtain ⟨d2a, d2b⟩ : decide (56320 ≤ (n : Int)) = false ∧ decide (56320 ≤ n) = false := by have := HC.out; constructor <;> simp <;> omega
              go_wp2
              go_quiet (fail)
              go_wp2
              go_quiet (fail)
              go_wp2
              go_quiet (fail)
              go_wp2
              go_quiet (fail)
              go_wp2_with (first | (go_at_call 114; go_must (refine (four_some (HMID.out _ _).rs HH.out).mono ?_); rintro e w2 ⟨rfl, hr2, ho2⟩; obtain ⟨k2, k4⟩ := hr2.bad; have HM2 := Lib.hid ((HMID.out _ _).call hr2 ho2 hgb.out); clear hr2 ho2) | (with_reducible refine wpList_rune_text rfl _ rfl rfl ?_; intro tx htx; have HTX := Lib.hid htx; clear htx) | (at_builtin; go_must (refine wpList_append_text rfl _ _ rfl rfl HM2.out.own rfl (Nat.le_trans (Nat.add_le_add_left (encode_size_of HTX.out) _) HRM4.out) HM2.out.size ?_); intro v' w3 hown2 hgr2; have HO2 := Lib.hid hown2; have HG2 := Lib.hid hgr2; clear hown2 hgr2))
              go_roundg (remG (some r1))
              case rel =>
               rw [← HT.out]
               have hu := esc_of (show uniB r = some (runeB n, r1) by unfold uniB; rw [HH.out]; simp only []; rw [if_neg (by have := HC.out; omega), if_pos (by have := HC.out; omega)])
               have e1 := encode_of HTX.out (n := n) (by first | rfl | (have := HC.out; have := HMM.out; omega))
               have hO3 := HO2.out
               rw [e1] at hO3
               exact HM2.out.app HREL.out (strB_esc _ _ _ _ hu) (by have := uniB_length' hu; simp only [List.length_append, List.length_cons]; omega) hO3 HG2.out hgb.out HB.out HLOW.out
              case measure => have hgk := HREL.out.gk_is; have hlq := uniB_length' (esc_of (show uniB r = some (runeB n, r1) by unfold uniB; rw [HH.out]; simp only []; rw [if_neg (by have := HC.out; omega), if_pos (by have := HC.out; omega)])); simp only [remG, List.length_cons] at hgk ⊢; omega
            by_cases hb : 57344 ≤ n
            ·as_aux_lemma =>
              have HC := Lib.hid hb
              clear ha hb
              obtain ⟨d1a, d1b⟩ : decide (55296 ≤ (n : Int)) = true ∧ decide (55296 ≤ n) = true := by have := HC.out; constructor <;> simp <;> omega
              obtain ⟨d2a, d2b⟩ : decide ((n : Int) < 56320) = false ∧ decide (n < 56320) = false := by have := HC.out; constructor <;> simp <;> omega
              obtain ⟨d3a, d3b⟩ : decide (56320 ≤ (n : Int)) = true ∧ decide (56320 ≤ n) = true := by have := HC.out; constructor <;> simp <;> omega
              obtain ⟨d4a, d4b⟩ : decide ((n : Int) < 57344) = false ∧ decide (n < 57344) = false := by have := HC.out; constructor <;> simp <;> omega
              go_wp2
              go_quiet (fail)
              go_wp2
              go_quiet (fail)
              go_wp2
              go_quiet (fail)
              go_wp2
              go_quiet (fail)
              go_wp2_with (first | (go_at_call 114; go_must (refine (four_some (HMID.out _ _).rs HH.out).mono ?_); rintro e w2 ⟨rfl, hr2, ho2⟩; obtain ⟨k2, k4⟩ := hr2.bad; have HM2 := Lib.hid ((HMID.out _ _).call hr2 ho2 hgb.out); clear hr2 ho2) | (with_reducible refine wpList_rune_text rfl _ rfl rfl ?_; intro tx htx; have HTX := Lib.hid htx; clear htx) | (at_builtin; go_must (refine wpList_append_text rfl _ _ rfl rfl HM2.out.own rfl (Nat.le_trans (Nat.add_le_add_left (encode_size_of HTX.out) _) HRM4.out) HM2.out.size ?_); intro v' w3 hown2 hgr2; have HO2 := Lib.hid hown2; have HG2 := Lib.hid hgr2; clear hown2 hgr2))
              go_roundg (remG (some r1))
              case rel =>
               rw [← HT.out]
               have hu := esc_of (show uniB r = some (runeB n, r1) by unfold uniB; rw [HH.out]; simp only []; rw [if_neg (by have := HC.out; omega), if_pos (by have := HC.out; omega)])
               have e1 := encode_of HTX.out (n := n) (by first | rfl | (have := HC.out; have := HMM.out; omega))
               have hO3 := HO2.out
               rw [e1] at hO3
               exact HM2.out.app HREL.out (strB_esc _ _ _ _ hu) (by have := uniB_length' hu; simp only [List.length_append, List.length_cons]; omega) hO3 HG2.out hgb.out HB.out HLOW.out
              case measure => have hgk := HREL.out.gk_is; have hlq := uniB_length' (esc_of (show uniB r = some (runeB n, r1) by unfold uniB; rw [HH.out]; simp only []; rw [if_neg (by have := HC.out; omega), if_pos (by have := HC.out; omega)])); simp only [remG, List.length_cons] at hgk ⊢; omega
            by_cases hd : 56320 ≤ n
            ·as_aux_lemma =>
              have HC := Lib.hid (show 56320 ≤ n ∧ n < 57344 by omega)
              clear ha hb hd
              obtain ⟨d1a, d1b⟩ : decide (55296 ≤ (n : Int)) = true ∧ decide (55296 ≤ n) = true := by have := HC.out; constructor <;> simp <;> omega
              obtain ⟨d2a, d2b⟩ : decide ((n : Int) < 56320) = false ∧ decide (n < 56320) = false := by have := HC.out; constructor <;> simp <;> omega
              obtain ⟨d3a, d3b⟩ : decide (56320 ≤ (n : Int)) = true ∧ decide (56320 ≤ n) = true := by have := HC.out; constructor <;> simp <;> omega
              obtain ⟨d4a, d4b⟩ : decide ((n : Int) < 57344) = true ∧ decide (n < 57344) = true := by have := HC.out; constructor <;> simp <;> omega
              go_wp2
              go_quiet (fail)
              go_wp2
              go_quiet (fail)
              go_wp2
              go_quiet (fail)
              go_wp2
              go_quiet (fail)
              go_wp2_with (first | (go_at_call 114; go_must (refine (four_some (HMID.out _ _).rs HH.out).mono ?_); rintro e w2 ⟨rfl, hr2, ho2⟩; obtain ⟨k2, k4⟩ := hr2.bad; have HM2 := Lib.hid ((HMID.out _ _).call hr2 ho2 hgb.out); clear hr2 ho2) | (with_reducible refine wpList_rune_text rfl _ rfl rfl ?_; intro tx htx; have HTX := Lib.hid htx; clear htx) | (at_builtin; go_must (refine wpList_append_text rfl _ _ rfl rfl (HM2.out.setBad hgb.out).own rfl (Nat.le_trans (Nat.add_le_add_left (encode_size_of HTX.out) _) HRM4.out) (HM2.out.setBad hgb.out).size ?_); intro v' w3 hown2 hgr2; have HO2 := Lib.hid hown2; have HG2 := Lib.hid hgr2; clear hown2 hgr2))
              go_roundg (remG none)
              case rel =>
               rw [← HT.out]
               exact (HM2.out.setBad hgb.out).appBad HREL.out (strB_escNone _ _ (escNone_of (by unfold uniB; rw [HH.out]; simp only []; rw [if_pos HC.out]))) (appended_len_of HTX.out) HO2.out HG2.out hgb.out HB.out HLOW.out
              case measure => have := HREL.out.gk_is; simp [remG] at this ⊢; omega
            have HC := Lib.hid (show 55296 ≤ n ∧ n < 56320 by omega)
            have hc1 : n < 56321 := by omega
            have hc2 : 55295 < n := by omega
            clear ha hb hd hn
            obtain ⟨d1a, d1b⟩ : decide (55296 ≤ (n : Int)) = true ∧ decide (55296 ≤ n) = true := by have := HC.out; constructor <;> simp <;> omega
            obtain ⟨d2a, d2b⟩ : decide ((n : Int) < 56320) = true ∧ decide (n < 56320) = true := by have := HC.out; constructor <;> simp <;> omega
            have HU := Lib.hid (uni_pair HH.out HC.out)
            cases hm : mustB [92, 117] r1 with
            | none =>
             have HMU := Lib.hid hm
             clear hm
             go_wp2
             go_quiet (fail)
             go_wp2
             go_quiet (fail)
             go_wp2
             go_quiet (fail)
             go_wp2
             go_quiet (fail)
             go_wp2_with (first | (go_at_call 114; refine (four_some (HMID.out _ _).rs HH.out).mono ?_; rintro e w2 ⟨rfl, hr2, ho2⟩; obtain ⟨k2, k4⟩ := hr2.bad; have HM2 := Lib.hid ((HMID.out _ _).call hr2 ho2 hgb.out); clear hr2 ho2) | (go_at_call 89; go_must (refine (must_any (by decide) HM2.out.rs).mono ?_); rintro e w3 ⟨rfl, hr3, ho3⟩; rw [show ((some r1).bind (mustB [92, 117])) = none from HMU.out] at hr3; obtain ⟨k5, k6⟩ := hr3.bad; have HM3 := Lib.hid (HM2.out.call hr3 ho3 hgb.out); clear hr3 ho3) | (go_at_call 114; refine (four_bad_o HM3.out.rs).mono ?_; rintro e w4 ⟨m, hm65, rfl, hr4, ho4⟩; obtain ⟨k7, k8⟩ := hr4.bad; have HM4 := Lib.hid (HM3.out.call hr4 ho4 hgb.out); clear hr4 ho4; rcases m_cases m with ⟨m1, m2⟩ | ⟨⟨m1, m2⟩, m3, m4⟩ | ⟨⟨m1, m2⟩, m3, m4⟩) | (with_reducible refine wpList_rune_text rfl _ rfl rfl ?_; intro tx htx; have HTX := Lib.hid htx; clear htx) | (at_builtin; (refine wpList_append_text rfl _ _ rfl rfl HM4.out.own rfl (Nat.le_trans (Nat.add_le_add_left (encode_size_of HTX.out) _) HRM4.out) HM4.out.size ?_); intro v' w3 hown2 hgr2; have HO2 := Lib.hid hown2; have HG2 := Lib.hid hgr2; clear hown2 hgr2) | (at_builtin; go_must (refine wpList_append_text rfl _ _ rfl rfl (HM4.out.setBad hgb.out).own rfl (Nat.le_trans (Nat.add_le_add_left (encode_size_of HTX.out) _) HRM4.out) (HM4.out.setBad hgb.out).size ?_); intro v' w3 hown2 hgr2; have HO2 := Lib.hid hown2; have HG2 := Lib.hid hgr2; clear hown2 hgr2))
             all_goals first
              | (go_roundg (remG none)
                 case rel =>
                  rw [← HT.out]
                  exact HM4.out.appBad HREL.out (strB_escNone _ _ (escNone_of (by rw [HU.out, HMU.out]))) (appended_len_of HTX.out) HO2.out HG2.out hgb.out HB.out HLOW.out
                 case measure => have := HREL.out.gk_is; simp [remG] at this ⊢; omega)
              | (go_roundg (remG none)
                 case rel =>
                  rw [← HT.out]
                  exact (HM4.out.setBad hgb.out).appBad HREL.out (strB_escNone _ _ (escNone_of (by rw [HU.out, HMU.out]))) (appended_len_of HTX.out) HO2.out HG2.out hgb.out HB.out HLOW.out
                 case measure => have := HREL.out.gk_is; simp [remG] at this ⊢; omega)
            | some r2 =>
             have HMU := Lib.hid hm
             clear hm
             cases hh2 : hexN 4 0 r2 with
             | none =>
              have HH2 := Lib.hid hh2
              clear hh2
              go_wp2
              go_quiet (fail)
              go_wp2
              go_quiet (fail)
              go_wp2
              go_quiet (fail)
              go_wp2
              go_quiet (fail)
              go_wp2_with (first | (go_at_call 114; refine (four_some (HMID.out _ _).rs HH.out).mono ?_; rintro e w2 ⟨rfl, hr2, ho2⟩; obtain ⟨k2, k4⟩ := hr2.bad; have HM2 := Lib.hid ((HMID.out _ _).call hr2 ho2 hgb.out); clear hr2 ho2) | (go_at_call 89; go_must (refine (must_any (by decide) HM2.out.rs).mono ?_); rintro e w3 ⟨rfl, hr3, ho3⟩; rw [show ((some r1).bind (mustB [92, 117])) = some r2 from HMU.out] at hr3; obtain ⟨k5, k6⟩ := hr3.bad; have HM3 := Lib.hid (HM2.out.call hr3 ho3 hgb.out); clear hr3 ho3) | (go_at_call 114; refine (four_none_o HM3.out.rs HH2.out).mono ?_; rintro e w4 ⟨rfl, hr4, ho4⟩; obtain ⟨k7, k8⟩ := hr4.bad; have HM4 := Lib.hid (HM3.out.call hr4 ho4 hgb.out); clear hr4 ho4) | (with_reducible refine wpList_rune_text rfl _ rfl rfl ?_; intro tx htx; have HTX := Lib.hid htx; clear htx) | (at_builtin; go_must (refine wpList_append_text rfl _ _ rfl rfl (HM4.out.setBad hgb.out).own rfl (Nat.le_trans (Nat.add_le_add_left (encode_size_of HTX.out) _) HRM4.out) (HM4.out.setBad hgb.out).size ?_); intro v' w3 hown2 hgr2; have HO2 := Lib.hid hown2; have HG2 := Lib.hid hgr2; clear hown2 hgr2))
              go_roundg (remG none)
              case rel =>
               rw [← HT.out]
               exact (HM4.out.setBad hgb.out).appBad HREL.out (strB_escNone _ _ (escNone_of (by rw [HU.out, HMU.out]; simp only []; rw [HH2.out]))) (appended_len_of HTX.out) HO2.out HG2.out hgb.out HB.out HLOW.out
              case measure => have := HREL.out.gk_is; simp [remG] at this ⊢; omega
             | some p2 =>
              obtain ⟨m, r3⟩ := p2
              have hm65 : m < 65536 := by have := (hexN_lt hh2).1; omega
              have HH2 := Lib.hid hh2
              clear hh2
              rcases m_cases m with ⟨m1, m2⟩ | ⟨⟨m1, m2⟩, m3, m4⟩ | ⟨⟨m1, m2⟩, m3, m4⟩
              ·as_aux_lemma =>
                have HMM := Lib.hid (show ¬ (56320 ≤ m ∧ m ≤ 57343) by have := of_decide_eq_true m2; omega)
                go_wp2
                go_quiet (fail)
                go_wp2
                go_quiet (fail)
                go_wp2
                go_quiet (fail)
                go_wp2
                go_quiet (fail)
                go_wp2_with (first | (go_at_call 114; refine (four_some (HMID.out _ _).rs HH.out).mono ?_; rintro e w2 ⟨rfl, hr2, ho2⟩; obtain ⟨k2, k4⟩ := hr2.bad; have HM2 := Lib.hid ((HMID.out _ _).call hr2 ho2 hgb.out); clear hr2 ho2) | (go_at_call 89; go_must (refine (must_any (by decide) HM2.out.rs).mono ?_); rintro e w3 ⟨rfl, hr3, ho3⟩; rw [show ((some r1).bind (mustB [92, 117])) = some r2 from HMU.out] at hr3; obtain ⟨k5, k6⟩ := hr3.bad; have HM3 := Lib.hid (HM2.out.call hr3 ho3 hgb.out); clear hr3 ho3) | (go_at_call 114; refine (four_some HM3.out.rs HH2.out).mono ?_; rintro e w4 ⟨rfl, hr4, ho4⟩; obtain ⟨k7, k8⟩ := hr4.bad; have HM4 := Lib.hid (HM3.out.call hr4 ho4 hgb.out); clear hr4 ho4) | (with_reducible refine wpList_rune_text rfl _ rfl rfl ?_; intro tx htx; have HTX := Lib.hid htx; clear htx) | (at_builtin; go_must (refine wpList_append_text rfl _ _ rfl rfl (HM4.out.setBad hgb.out).own rfl (Nat.le_trans (Nat.add_le_add_left (encode_size_of HTX.out) _) HRM4.out) (HM4.out.setBad hgb.out).size ?_); intro v' w3 hown2 hgr2; have HO2 := Lib.hid hown2; have HG2 := Lib.hid hgr2; clear hown2 hgr2))
                go_roundg (remG none)
                case rel =>
                 rw [← HT.out]
                 exact (HM4.out.setBad hgb.out).appBad HREL.out (strB_escNone _ _ (escNone_of (by rw [HU.out, HMU.out]; simp only []; rw [HH2.out]; simp only []; rw [if_neg HMM.out]))) (appended_len_of HTX.out) HO2.out HG2.out hgb.out HB.out HLOW.out
                case measure => have := HREL.out.gk_is; simp [remG] at this ⊢; omega
              ·as_aux_lemma =>
                have HMM := Lib.hid (show ¬ (56320 ≤ m ∧ m ≤ 57343) by have := of_decide_eq_true m4; omega)
                go_wp2
                go_quiet (fail)
                go_wp2
                go_quiet (fail)
                go_wp2
                go_quiet (fail)
                go_wp2
                go_quiet (fail)
                go_wp2_with (first | (go_at_call 114; refine (four_some (HMID.out _ _).rs HH.out).mono ?_; rintro e w2 ⟨rfl, hr2, ho2⟩; obtain ⟨k2, k4⟩ := hr2.bad; have HM2 := Lib.hid ((HMID.out _ _).call hr2 ho2 hgb.out); clear hr2 ho2) | (go_at_call 89; go_must (refine (must_any (by decide) HM2.out.rs).mono ?_); rintro e w3 ⟨rfl, hr3, ho3⟩; rw [show ((some r1).bind (mustB [92, 117])) = some r2 from HMU.out] at hr3; obtain ⟨k5, k6⟩ := hr3.bad; have HM3 := Lib.hid (HM2.out.call hr3 ho3 hgb.out); clear hr3 ho3) | (go_at_call 114; refine (four_some HM3.out.rs HH2.out).mono ?_; rintro e w4 ⟨rfl, hr4, ho4⟩; obtain ⟨k7, k8⟩ := hr4.bad; have HM4 := Lib.hid (HM3.out.call hr4 ho4 hgb.out); clear hr4 ho4) | (with_reducible refine wpList_rune_text rfl _ rfl rfl ?_; intro tx htx; have HTX := Lib.hid htx; clear htx) | (at_builtin; go_must (refine wpList_append_text rfl _ _ rfl rfl (HM4.out.setBad hgb.out).own rfl (Nat.le_trans (Nat.add_le_add_left (encode_size_of HTX.out) _) HRM4.out) (HM4.out.setBad hgb.out).size ?_); intro v' w3 hown2 hgr2; have HO2 := Lib.hid hown2; have HG2 := Lib.hid hgr2; clear hown2 hgr2))
                go_roundg (remG none)
                case rel =>
                 rw [← HT.out]
                 exact (HM4.out.setBad hgb.out).appBad HREL.out (strB_escNone _ _ (escNone_of (by rw [HU.out, HMU.out]; simp only []; rw [HH2.out]; simp only []; rw [if_neg HMM.out]))) (appended_len_of HTX.out) HO2.out HG2.out hgb.out HB.out HLOW.out
                case measure => have := HREL.out.gk_is; simp [remG] at this ⊢; omega
              ·as_aux_lemma =>
                have HMM := Lib.hid (show 56320 ≤ m ∧ m ≤ 57343 by have := of_decide_eq_false m2; have := of_decide_eq_false m4; omega)
                go_wp2
                go_quiet (fail)
                go_wp2
                go_quiet (fail)
                go_wp2
                go_quiet (fail)
                go_wp2
                go_quiet (fail)
                go_wp2_with (first | (go_at_call 114; refine (four_some (HMID.out _ _).rs HH.out).mono ?_; rintro e w2 ⟨rfl, hr2, ho2⟩; obtain ⟨k2, k4⟩ := hr2.bad; have HM2 := Lib.hid ((HMID.out _ _).call hr2 ho2 hgb.out); clear hr2 ho2) | (go_at_call 89; go_must (refine (must_any (by decide) HM2.out.rs).mono ?_); rintro e w3 ⟨rfl, hr3, ho3⟩; rw [show ((some r1).bind (mustB [92, 117])) = some r2 from HMU.out] at hr3; obtain ⟨k5, k6⟩ := hr3.bad; have HM3 := Lib.hid (HM2.out.call hr3 ho3 hgb.out); clear hr3 ho3) | (go_at_call 114; refine (four_some HM3.out.rs HH2.out).mono ?_; rintro e w4 ⟨rfl, hr4, ho4⟩; obtain ⟨k7, k8⟩ := hr4.bad; have HM4 := Lib.hid (HM3.out.call hr4 ho4 hgb.out); clear hr4 ho4) | (with_reducible refine wpList_rune_text rfl _ rfl rfl ?_; intro tx htx; have HTX := Lib.hid htx; clear htx) | (at_builtin; go_must (refine wpList_append_text rfl _ _ rfl rfl HM4.out.own rfl (Nat.le_trans (Nat.add_le_add_left (encode_size_of HTX.out) _) HRM4.out) HM4.out.size ?_); intro v' w3 hown2 hgr2; have HO2 := Lib.hid hown2; have HG2 := Lib.hid hgr2; clear hown2 hgr2))
                go_roundg (remG (some r3))
                case rel =>
                 rw [← HT.out]
                 have hu := esc_of (show uniB r = some (runeB (65536 + 1024 * (n - 55296) + (m - 56320)), r3) by rw [HU.out, HMU.out]; simp only []; rw [HH2.out]; simp only []; rw [if_pos HMM.out])
                 have e1 := encode_of HTX.out (n := 65536 + 1024 * (n - 55296) + (m - 56320)) (by first | rfl | (have := HC.out; have := HMM.out; omega))
                 have hO3 := HO2.out
                 rw [e1] at hO3
                 exact HM4.out.app HREL.out (strB_esc _ _ _ _ hu) (by have := uniB_length' hu; simp only [List.length_append, List.length_cons]; omega) hO3 HG2.out hgb.out HB.out HLOW.out
                case measure => have hgk := HREL.out.gk_is; have hlq := uniB_length' (esc_of (show uniB r = some (runeB (65536 + 1024 * (n - 55296) + (m - 56320)), r3) by rw [HU.out, HMU.out]; simp only []; rw [HH2.out]; simp only []; rw [if_pos HMM.out])); simp only [remG, List.length_cons] at hgk ⊢; omega
         ·as_aux_lemma =>
           have hne : y ≠ 34 ∧ y ≠ 92 ∧ y ≠ 47 ∧ y ≠ 98 ∧ y ≠ 102 ∧ y ≠ 110 ∧ y ≠ 114 ∧ y ≠ 116 ∧ y ≠ 117 := ⟨h34, h92, h47, h98, h102, h110, h114, h116, h117⟩
           have HNE := Lib.hid hne
           have q34 : ((y : Int) == 34) = false := by simp; omega
           have q92 : ((y : Int) == 92) = false := by simp; omega
           have q47 : ((y : Int) == 47) = false := by simp; omega
           have q98 : ((y : Int) == 98) = false := by simp; omega
           have q102 : ((y : Int) == 102) = false := by simp; omega
           have q110 : ((y : Int) == 110) = false := by simp; omega
           have q114 : ((y : Int) == 114) = false := by simp; omega
           have q116 : ((y : Int) == 116) = false := by simp; omega
           have q117 : ((y : Int) == 117) = false := by simp; omega
           clear hne h34 h92 h47 h98 h102 h110 h114 h116 h117
           have hmid := fun n m => (⟨⟨j + 2, (((HJ.out.drewN n).setAt (j + 1) HL1.out).drewN m).setAt (j + 2) HL2.out, HD2.out⟩, ((((HREL.out.own.drewN n).set (p := ⟨g, 1, none⟩) hgb.out _).drewN m).set (p := ⟨g, 1, none⟩) hgb.out _), ((((HREL.out.only.drewN n).setCell (fun _ => rfl) _).drewN m).setCell (fun _ => rfl) _), by rw [size_setCell]; show base ≤ (World.setCell _ _ _).heap.size; rw [size_setCell]; exact HREL.out.size⟩ : StrMid g (some ⟨b, o, none⟩) c l base w _ acc (some r) ((((wr.drewN n).setCell ⟨g, 1, none⟩ (.int .i64 ((j + 1 : Nat) : Int))).drewN m).setCell ⟨g, 1, none⟩ (.int .i64 ((j + 2 : Nat) : Int))))
           have HMID := Lib.hid hmid
           clear hmid
           go_wp2
           go_quiet (fail)
           go_wp2
           go_quiet (fail)
           go_wp2
           go_quiet (fail)
           go_wp2
           go_quiet (fail)
           go_wp2
           go_roundg (remG none)
           case rel =>
            rw [← HT.out]
            exact ((HMID.out _ _).setBad hgb.out).stepBad HREL.out (strB_escNone _ _ (escNone_else HY.out HNE.out))
           case measure => have := HREL.out.gk_is; simp [remG] at this ⊢; omega
      ·as_aux_lemma =>
        have c92 : ((z : Int) != 92) = true := by simp; omega
        have H92 := Lib.hid h92
        clear h92
        go_wp2
        go_quiet (fail)
        go_wp2
        go_quiet (fail)
        have HZI := Lib.hid (show (z : Int) = x.toNat by rw [HZ.out])
        have HRM := Lib.hid (show acc.length + 1 ≤ 2 ^ 40 by have := HREL.out.room; omega)
        go_wp2_with (at_builtin; go_must (refine wpList_append_byte rfl _ _ rfl rfl (((HREL.out.own.drewN _).set (p := ⟨g, 1, none⟩) hgb.out _).alloc _) rfl HZI.out (cell_new_at _ _ _ _ (size_setCell _ _ _).symm) HRM.out (Nat.le_trans HREL.out.size ((((Only.refl (· = g) _).drewN _).setCell (p := ⟨g, 1, none⟩) (fun _ => rfl) _).alloc _).size) ?_); intro v' w2 hown2 hgr2; have HO2 := Lib.hid hown2; have HG2 := Lib.hid hgr2; clear hown2 hgr2)
        go_roundg (remG (some r))
        case rel =>
         have hR2 := RS.grown (((HJ.out.drewN _).setAt (j + 1) HL1.out).alloc _) (((HREL.out.own.drewN _).set (p := ⟨g, 1, none⟩) hgb.out _).alloc _) HG2.out hgb.out HLOW.out
         rw [← HT.out]
         exact HREL.out.step (strB_next _ _ _ (by rw [← HZ.out]; exact H32.out) (by rintro rfl; exact H34.out HZ.out) (by rintro rfl; exact H92.out HZ.out)) (by simp; omega) hR2 HD1.out HO2.out ((((HREL.out.only.drewN _).setCell (fun _ => rfl) _).alloc _).grown HG2.out (fun k hk hlt => absurd hlt (by have := (HREL.out.own.lt k hk).1; have := HB.out; omega))) (Nat.le_trans HREL.out.size (Nat.le_trans ((((Only.refl (· = g) _).drewN _).setCell (p := ⟨g, 1, none⟩) (fun _ => rfl) _).alloc _).size HG2.out.size))
        case measure => have := HREL.out.gk_is; simp [remG] at this ⊢; omega
end Go.Proofs.YtjehnejgojgahaaGreatDoor
