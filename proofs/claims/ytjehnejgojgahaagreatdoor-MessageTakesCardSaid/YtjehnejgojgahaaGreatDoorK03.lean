/-
  A part of the proof of MessageTakes: the texts S2 S3 S4 P0 P1 N0 T1.
-/
import Derived.Test.YtjehnejgojgahaaGreatDoorK01
import Derived.Lib.ValidLaws
import GoSem.Core.Utf8
namespace Go.Proofs.YtjehnejgojgahaaGreatDoor
set_option linter.unusedVariables false
set_option linter.unusedSimpArgs false
open Go.Lib
def contF : Nat → Nat → Bytes → Option Nat
 | 0, r, _ => some r
 | _ + 1, _, [] => none
 | k + 1, r, d :: t => if 128 ≤ d.toNat ∧ d.toNat ≤ 191 then contF k (64 * r + (d.toNat - 128)) t else none
def leadR (c : Nat) : Option (Nat × Nat × Nat) :=
 if c < 128 then some (1, 0, c)
 else if 194 ≤ c ∧ c < 224 then some (2, 128, c - 192)
 else if 224 ≤ c ∧ c < 240 then some (3, 2048, c - 224)
 else if 240 ≤ c ∧ c < 245 then some (4, 65536, c - 240)
 else none
def runeBad (least r : Nat) : Prop := r < least ∨ 1114111 < r ∨ (55296 ≤ r ∧ r < 57344)
instance (a b : Nat) : Decidable (runeBad a b) := by unfold runeBad; infer_instance
def rstep : Bytes → Option Nat
 | [] => none
 | c :: t => match leadR c.toNat with
  | none => none
  | some (n, least, r0) => if t.length + 1 < n then none else
   match contF (n - 1) r0 t with
   | none => none
   | some r => if runeBad least r then none else some n
theorem rstep_short {c : UInt8} {t : Bytes} {n least r0 : Nat} (h : leadR c.toNat = some (n, least, r0)) (hl : t.length + 1 < n) : rstep (c :: t) = none := by
 simp only [rstep, h]; rw [if_pos hl]
theorem rstep_none {c : UInt8} {t : Bytes} {n least r0 : Nat} (h : leadR c.toNat = some (n, least, r0)) (hl : n ≤ t.length + 1) (hc : contF (n - 1) r0 t = none) : rstep (c :: t) = none := by
 simp only [rstep, h]; rw [if_neg (by omega), hc]
theorem rstep_some {c : UInt8} {t : Bytes} {n least r0 r : Nat} (h : leadR c.toNat = some (n, least, r0)) (hl : n ≤ t.length + 1) (hc : contF (n - 1) r0 t = some r) : rstep (c :: t) = if runeBad least r then none else some n := by
 simp only [rstep, h]; rw [if_neg (by omega), hc]
theorem lead1 {c : Nat} (h : c < 128) : leadR c = some (1, 0, c) := by unfold leadR; rw [if_pos h]
def Agree (l : Bytes) (d : Nat × Nat) : Prop :=
 (rstep l = none ∧ d = (65533, 1)) ∨ (∃ n, rstep l = some n ∧ d.2 = n ∧ d ≠ (65533, 1) ∧ 1 ≤ n ∧ n ≤ l.length)
theorem agree1 (c : UInt8) (t : Bytes) (h : c.toNat < 128) (b1 b2 b3 n : Nat) : Agree (c :: t) (decodeN n c.toNat b1 b2 b3) := by
 right
 refine ⟨1, ?_, ?_, ?_, by omega, by simp⟩
 ·rw [rstep_some (lead1 h) (by omega) rfl, if_neg (by unfold runeBad; omega)]
 ·unfold decodeN; rw [if_pos h]
 ·unfold decodeN; rw [if_pos h]; simp; omega
theorem agree_bad (c : UInt8) (t : Bytes) (h : leadR c.toNat = none) (b1 b2 b3 n : Nat) : Agree (c :: t) (decodeN n c.toNat b1 b2 b3) := by
 left
 have hc := c.toNat_lt
 refine ⟨by simp only [rstep, h], ?_⟩
 unfold leadR at h
 repeat' split at h
 all_goals simp at h
 unfold decodeN
 rw [if_neg (by omega)]
 by_cases h1 : c.toNat / 32 = 6 ∧ (1 < n ∧ b1 / 64 = 2)
 ·rw [if_pos h1, if_neg (by omega)]
 ·rw [if_neg h1, if_neg (by omega)]
  by_cases h2 : c.toNat / 8 = 30 ∧ (1 < n ∧ b1 / 64 = 2) ∧ (2 < n ∧ b2 / 64 = 2) ∧ (3 < n ∧ b3 / 64 = 2)
  ·rw [if_pos h2, if_neg (by omega)]
  ·rw [if_neg h2]
theorem lead2 {c : Nat} (h : 194 ≤ c ∧ c < 224) : leadR c = some (2, 128, c - 192) := by unfold leadR; rw [if_neg (by omega), if_pos h]
theorem lead3 {c : Nat} (h : 224 ≤ c ∧ c < 240) : leadR c = some (3, 2048, c - 224) := by unfold leadR; rw [if_neg (by omega), if_neg (by omega), if_pos h]
theorem lead4 {c : Nat} (h : 240 ≤ c ∧ c < 245) : leadR c = some (4, 65536, c - 240) := by unfold leadR; rw [if_neg (by omega), if_neg (by omega), if_neg (by omega), if_pos h]
theorem agree2 (c : UInt8) (t : Bytes) (h : 194 ≤ c.toNat ∧ c.toNat < 224) (b2 b3 : Nat) : Agree (c :: t) (decodeN (t.length + 1) c.toNat (t.getD 0 0).toNat b2 b3) := by
 unfold Agree decodeN
 rw [if_neg (by omega : ¬ c.toNat < 128)]
 match t with
 | [] =>
  left
  refine ⟨rstep_short (lead2 h) (by simp), ?_⟩
  simp only [List.length_nil]
  rw [if_neg (by omega), if_neg (by omega), if_neg (by omega)]
 | d :: t =>
  have hd := d.toNat_lt
  simp only [List.getD_cons_zero, List.length_cons]
  by_cases hc : 128 ≤ d.toNat ∧ d.toNat ≤ 191
  ·right
   refine ⟨2, ?_, ?_, ?_, by omega, by simp⟩
   ·rw [rstep_some (lead2 h) (by simp) (show contF 1 (c.toNat - 192) (d :: t) = some _ by simp only [contF]; rw [if_pos hc]), if_neg (by unfold runeBad; omega)]
   ·rw [if_pos (by omega), if_pos (by omega)]
   ·rw [if_pos (by omega), if_pos (by omega)]; simp
  ·left
   refine ⟨rstep_none (lead2 h) (by simp) (show contF 1 (c.toNat - 192) (d :: t) = none by simp only [contF]; rw [if_neg hc]), ?_⟩
   rw [if_neg (by omega), if_neg (by omega), if_neg (by omega)]
theorem agree3 (c : UInt8) (t : Bytes) (h : 224 ≤ c.toNat ∧ c.toNat < 240) (b3 : Nat) : Agree (c :: t) (decodeN (t.length + 1) c.toNat (t.getD 0 0).toNat (t.getD 1 0).toNat b3) := by
 unfold Agree decodeN
 rw [if_neg (by omega : ¬ c.toNat < 128), if_neg (by omega)]
 match t with
 | [] =>
  left
  refine ⟨rstep_short (lead3 h) (by simp), ?_⟩
  simp only [List.length_nil]
  rw [if_neg (by omega), if_neg (by omega)]
 | [d] =>
  left
  refine ⟨rstep_short (lead3 h) (by simp), ?_⟩
  simp only [List.length_nil, List.length_cons]
  rw [if_neg (by omega), if_neg (by omega)]
 | d :: e :: t =>
  have hd := d.toNat_lt
  have he := e.toNat_lt
  simp only [List.getD_cons_zero, List.getD_cons_succ, List.length_cons]
  by_cases hc : (128 ≤ d.toNat ∧ d.toNat ≤ 191) ∧ (128 ≤ e.toNat ∧ e.toNat ≤ 191)
  ·have e1 : c.toNat % 16 * 4096 + d.toNat % 64 * 64 + e.toNat % 64 = 64 * (64 * (c.toNat - 224) + (d.toNat - 128)) + (e.toNat - 128) := by omega
   have e2 : contF 2 (c.toNat - 224) (d :: e :: t) = some (64 * (64 * (c.toNat - 224) + (d.toNat - 128)) + (e.toNat - 128)) := by simp only [contF]; rw [if_pos hc.1, if_pos hc.2]
   rw [if_pos (by omega), e1, rstep_some (lead3 h) (by simp) e2]
   generalize 64 * (64 * (c.toNat - 224) + (d.toNat - 128)) + (e.toNat - 128) = r
   by_cases hb : runeBad 2048 r
   ·left; rw [if_pos hb]; refine ⟨rfl, ?_⟩; unfold runeBad at hb; rw [if_neg (by omega)]
   ·right; rw [if_neg hb]; refine ⟨3, rfl, ?_⟩; unfold runeBad at hb; rw [if_pos (by omega)]; exact ⟨rfl, by simp, by omega, by simp⟩
  ·left
   refine ⟨rstep_none (lead3 h) (by simp) ?_, ?_⟩
   ·show contF 2 (c.toNat - 224) (d :: e :: t) = none
    simp only [contF]
    by_cases hc1 : 128 ≤ d.toNat ∧ d.toNat ≤ 191
    ·rw [if_pos hc1, if_neg (fun q => hc ⟨hc1, q⟩)]
    ·rw [if_neg hc1]
   ·rw [if_neg (by omega), if_neg (by omega)]
theorem agree4 (c : UInt8) (t : Bytes) (h : 240 ≤ c.toNat ∧ c.toNat < 245) : Agree (c :: t) (decodeN (t.length + 1) c.toNat (t.getD 0 0).toNat (t.getD 1 0).toNat (t.getD 2 0).toNat) := by
 unfold Agree decodeN
 rw [if_neg (by omega : ¬ c.toNat < 128), if_neg (by omega), if_neg (by omega)]
 match t with
 | [] =>
  left
  refine ⟨rstep_short (lead4 h) (by simp), ?_⟩
  simp only [List.length_nil]
  rw [if_neg (by omega)]
 | [d] =>
  left
  refine ⟨rstep_short (lead4 h) (by simp), ?_⟩
  simp only [List.length_nil, List.length_cons]
  rw [if_neg (by omega)]
 | [d, e] =>
  left
  refine ⟨rstep_short (lead4 h) (by simp), ?_⟩
  simp only [List.length_nil, List.length_cons]
  rw [if_neg (by omega)]
 | d :: e :: f :: t =>
  have hd := d.toNat_lt
  have he := e.toNat_lt
  have hf := f.toNat_lt
  simp only [List.getD_cons_zero, List.getD_cons_succ, List.length_cons]
  by_cases hc : (128 ≤ d.toNat ∧ d.toNat ≤ 191) ∧ (128 ≤ e.toNat ∧ e.toNat ≤ 191) ∧ (128 ≤ f.toNat ∧ f.toNat ≤ 191)
  ·have e1 : c.toNat % 8 * 262144 + d.toNat % 64 * 4096 + e.toNat % 64 * 64 + f.toNat % 64 = 64 * (64 * (64 * (c.toNat - 240) + (d.toNat - 128)) + (e.toNat - 128)) + (f.toNat - 128) := by omega
   have e2 : contF 3 (c.toNat - 240) (d :: e :: f :: t) = some (64 * (64 * (64 * (c.toNat - 240) + (d.toNat - 128)) + (e.toNat - 128)) + (f.toNat - 128)) := by simp only [contF]; rw [if_pos hc.1, if_pos hc.2.1, if_pos hc.2.2]
   rw [if_pos (by omega), e1, rstep_some (lead4 h) (by simp) e2]
   generalize 64 * (64 * (64 * (c.toNat - 240) + (d.toNat - 128)) + (e.toNat - 128)) + (f.toNat - 128) = r
   by_cases hb : runeBad 65536 r
   ·left; rw [if_pos hb]; refine ⟨rfl, ?_⟩; unfold runeBad at hb; rw [if_neg (by omega)]
   ·right; rw [if_neg hb]; refine ⟨4, rfl, ?_⟩; unfold runeBad at hb; rw [if_pos (by omega)]; exact ⟨rfl, by simp, by omega, by simp⟩
  ·left
   refine ⟨rstep_none (lead4 h) (by simp) ?_, ?_⟩
   ·show contF 3 (c.toNat - 240) (d :: e :: f :: t) = none
    simp only [contF]
    by_cases hc1 : 128 ≤ d.toNat ∧ d.toNat ≤ 191
    ·rw [if_pos hc1]
     by_cases hc2 : 128 ≤ e.toNat ∧ e.toNat ≤ 191
     ·rw [if_pos hc2, if_neg (fun q => hc ⟨hc1, hc2, q⟩)]
     ·rw [if_neg hc2]
    ·rw [if_neg hc1]
   ·rw [if_neg (by omega)]
theorem agree_all (c : UInt8) (t : Bytes) : Agree (c :: t) (decodeL (c :: t)) := by
 rw [decodeL_N]
 simp only [List.getD_cons_zero, List.getD_cons_succ, List.length_cons]
 by_cases h1 : c.toNat < 128
 ·exact agree1 c t h1 _ _ _ _
 ·by_cases h2 : 194 ≤ c.toNat ∧ c.toNat < 224
  ·exact agree2 c t h2 _ _
  ·by_cases h3 : 224 ≤ c.toNat ∧ c.toNat < 240
   ·exact agree3 c t h3 _
   ·by_cases h4 : 240 ≤ c.toNat ∧ c.toNat < 245
    ·exact agree4 c t h4
    ·exact agree_bad c t (by unfold leadR; rw [if_neg h1, if_neg h2, if_neg h3, if_neg h4]) _ _ _ _
theorem valid_rstep (l : Bytes) (hne : l ≠ []) : validD l = match rstep l with | none => false | some n => validD (l.drop n) := by
 cases l with
 | nil => exact absurd rfl hne
 | cons c t =>
  rw [validD_step _ hne]
  rcases agree_all c t with ⟨h1, h2⟩ | ⟨n, h1, h2, h3, h4, h5⟩
  ·rw [h1, h2]; simp
  ·rw [h1, if_neg (by intro q; exact h3 (Prod.ext q.1 q.2)), h2]
def encC (c : Nat) : ByteArray :=
 if c < 128 then ⟨#[UInt8.ofNat c]⟩
 else if c < 2048 then ⟨#[UInt8.ofNat (192 + c / 64), UInt8.ofNat (128 + c % 64)]⟩
 else if c < 65536 then ⟨#[UInt8.ofNat (224 + c / 4096), UInt8.ofNat (128 + c / 64 % 64), UInt8.ofNat (128 + c % 64)]⟩
 else ⟨#[UInt8.ofNat (240 + c / 262144), UInt8.ofNat (128 + c / 4096 % 64), UInt8.ofNat (128 + c / 64 % 64), UInt8.ofNat (128 + c % 64)]⟩
def runeI (r : Int) : Nat := if Utf8.valid r = true then r.toNat else Utf8.runeError
def runeB (n : Nat) : Bytes := (encC (runeI n)).data.toList
theorem encode_encC (r : Int) : Utf8.encode r = encC (runeI r) := by
 unfold Utf8.encode encC runeI
 with_reducible rfl
theorem encode_data (r : Int) : (Utf8.encode r).data.toList = (encC (runeI r)).data.toList := by rw [encode_encC]
theorem encode_runeB (n : Nat) : (Utf8.encode (n : Int)).data.toList = runeB n := by rw [runeB, encode_data]
def uniB (r : Bytes) : Option (Bytes × Bytes) :=
 match hexN 4 0 r with
 | none => none
 | some (n, r1) =>
  if 56320 ≤ n ∧ n < 57344 then none
  else if n < 55296 ∨ 57344 ≤ n then some (runeB n, r1)
  else match mustB [92, 117] r1 with
   | none => none
   | some r2 => match hexN 4 0 r2 with
    | none => none
    | some (m, r3) => if 56320 ≤ m ∧ m ≤ 57343 then some (runeB (65536 + 1024 * (n - 55296) + (m - 56320)), r3) else none
def escOne (e : UInt8) : Option UInt8 :=
 if e = 34 ∨ e = 92 ∨ e = 47 then some e
 else if e = 98 then some 8 else if e = 102 then some 12 else if e = 110 then some 10 else if e = 114 then some 13 else if e = 116 then some 9 else none
def escB : Bytes → Option (Bytes × Bytes)
 | [] => none
 | e :: r => match escOne e with
  | some y => some ([y], r)
  | none => if e = 117 then uniB r else none
def strB : Nat → Bytes → Bytes → Option (Bytes × Bytes)
 | 0, _, _ => none
 | _ + 1, _, [] => none
 | f + 1, acc, x :: r =>
  if x.toNat < 32 then none
  else if x = 34 then some (acc, r)
  else if x ≠ 92 then strB f (acc ++ [x]) r
  else match escB r with
   | none => none
   | some (u, q) => strB f (acc ++ u) q
def strOf (r : Bytes) : Option (Bytes × Bytes) :=
 match mustB [34] r with
 | none => none
 | some r => match strB (r.length + 1) [] r with
  | none => none
  | some (s, q) => if Lib.validD s then some (s, q) else none
theorem encC_length (c : Nat) : (encC c).data.toList.length ≤ 4 ∧ (c < 65536 → (encC c).data.toList.length ≤ 3) := by
 unfold encC
 by_cases h1 : c < 128
 ·rw [if_pos h1]; simp
 ·rw [if_neg h1]
  by_cases h2 : c < 2048
  ·rw [if_pos h2]; simp
  ·rw [if_neg h2]
   by_cases h3 : c < 65536
   ·rw [if_pos h3]; simp
   ·rw [if_neg h3]; refine ⟨by simp, fun h => absurd h h3⟩
theorem runeError_lt : Utf8.runeError < 65536 := by decide
theorem cond_lt (v : Bool) (a e m : Nat) (ha : a < m) (he : e < m) : (if v = true then a else e) < m := by
 cases v
 ·simpa using he
 ·simpa using ha
theorem runeI_lt (r : Int) (h : r.toNat < 65536) : runeI r < 65536 := cond_lt _ _ _ _ h runeError_lt
theorem runeB_length (n : Nat) : (runeB n).length ≤ 4 := by rw [runeB]; exact (encC_length _).1
theorem runeB_length3 (n : Nat) (h : n < 65536) : (runeB n).length ≤ 3 := by rw [runeB]; exact (encC_length _).2 (runeI_lt n (by simpa using h))
theorem uniB_length {r u q : Bytes} (h : uniB r = some (u, q)) : u.length + q.length < r.length := by
 unfold uniB at h
 split at h
 ·cases h
 ·rename_i n r1 h1
  obtain ⟨b1, b2⟩ := hexN_lt h1
  split at h
  ·cases h
  ·split at h
   ·simp only [Option.some.injEq, Prod.mk.injEq] at h
    obtain ⟨hu, hq⟩ := h
    have hl := runeB_length3 n (by omega)
    rw [hu] at hl
    subst hq
    omega
   ·split at h
    ·cases h
    ·rename_i r2 h2
     have b3 := mustB_length h2
     split at h
     ·cases h
     ·rename_i m r3 h3
      obtain ⟨b4, b5⟩ := hexN_lt h3
      split at h
      ·simp only [Option.some.injEq, Prod.mk.injEq] at h
       obtain ⟨hu, hq⟩ := h
       have hl := runeB_length (65536 + 1024 * (n - 55296) + (m - 56320))
       rw [hu] at hl
       subst hq
       have b3' : r2.length + 2 = r1.length := b3
       omega
      ·cases h
theorem escB_length {r u q : Bytes} (h : escB r = some (u, q)) : u.length + q.length ≤ r.length ∧ q.length < r.length := by
 cases r with
 | nil => cases h
 | cons e r =>
  simp only [escB] at h
  split at h
  ·cases h; simp; omega
  ·split at h
   ·have := uniB_length h; simp; omega
   ·cases h
theorem strB_fuel (f : Nat) : ∀ (g : Nat) (acc r : Bytes), r.length < f → r.length < g → strB f acc r = strB g acc r := by
 induction f with
 | zero => intro g acc r h; omega
 | succ f ih =>
  intro g acc r h1 h2
  obtain ⟨g, rfl⟩ : ∃ k, g = k + 1 := ⟨g - 1, by omega⟩
  cases r with
  | nil => rfl
  | cons x r =>
   simp at h1 h2
   simp only [strB]
   rw [ih g (acc ++ [x]) r (by omega) (by omega)]
   cases he : escB r with
   | none => rfl
   | some p =>
    obtain ⟨u, q⟩ := p
    have := escB_length he
    simp only []
    rw [ih g (acc ++ u) q (by omega) (by omega)]
theorem strB_next (acc : Bytes) (x : UInt8) (r : Bytes) (h1 : ¬ x.toNat < 32) (h2 : x ≠ 34) (h3 : x ≠ 92) : strB (r.length + 1) (acc ++ [x]) r = strB ((x :: r).length + 1) acc (x :: r) := by
 conv => rhs; rw [List.length_cons, strB]
 rw [if_neg h1, if_neg h2, if_pos h3]
theorem strB_esc (acc : Bytes) (r u q : Bytes) (h : escB r = some (u, q)) : strB (q.length + 1) (acc ++ u) q = strB ((92 :: r).length + 1) acc (92 :: r) := by
 have := escB_length h
 conv => rhs; rw [List.length_cons, strB]
 rw [if_neg (by decide), if_neg (by decide), if_neg (by decide), h]
 exact strB_fuel _ _ _ _ (by omega) (by omega)
theorem strB_escNone (acc : Bytes) (r : Bytes) (h : escB r = none) : strB ((92 :: r).length + 1) acc (92 :: r) = none := by
 rw [List.length_cons, strB, if_neg (by decide), if_neg (by decide), if_neg (by decide), h]
theorem strB_low (acc : Bytes) (x : UInt8) (r : Bytes) (h : x.toNat < 32) : strB ((x :: r).length + 1) acc (x :: r) = none := by
 rw [List.length_cons, strB, if_pos h]
theorem strB_end (acc : Bytes) (r : Bytes) : strB ((34 :: r).length + 1) acc (34 :: r) = some (acc, r) := by
 rw [List.length_cons, strB, if_neg (by decide), if_pos rfl]
inductive JV where
 | mk (kind : Nat) (str : Bytes) (num : Nat) (list : List JV) (keys : List Bytes)
def JV.kind : JV → Nat | .mk k _ _ _ _ => k
def JV.str : JV → Bytes | .mk _ s _ _ _ => s
def JV.num : JV → Nat | .mk _ _ n _ _ => n
def JV.list : JV → List JV | .mk _ _ _ l _ => l
def JV.keys : JV → List Bytes | .mk _ _ _ _ k => k
def JV.plain (k : Nat) : JV := .mk k [] 0 [] []
def keyB (r : Bytes) : Option (Bytes × Bytes) :=
 match strOf (skipB r) with
 | none => none
 | some (k, q) => (mustB [58] (skipB q)).map fun q2 => (k, q2)
mutual
def valB : Nat → Nat → Bytes → Option (JV × Bytes)
 | 0, _, _ => none
 | f + 1, most, r =>
  match skipB r with
  | [] => none
  | c :: t =>
   if c = 110 then (mustB [110, 117, 108, 108] (c :: t)).map fun q => (.plain 0, q)
   else if c = 102 then (mustB [102, 97, 108, 115, 101] (c :: t)).map fun q => (.plain 1, q)
   else if c = 116 then (mustB [116, 114, 117, 101] (c :: t)).map fun q => (.plain 2, q)
   else if c = 34 then (strOf (c :: t)).map fun p => (.mk 4 p.1 0 [] [], p.2)
   else if c = 91 then
    match most with
    | 0 => none
    | m + 1 => if (skipB t).head? = some 93 then some (.plain 5, (skipB t).tail) else lstB f m 5 93 [] [] (skipB t)
   else if c = 123 then
    match most with
    | 0 => none
    | m + 1 => if (skipB t).head? = some 125 then some (.plain 6, (skipB t).tail) else lstB f m 6 125 [] [] (skipB t)
   else (numB (c :: t)).map fun p => (.mk 3 [] p.1 [] [], p.2)
def lstB : Nat → Nat → Nat → UInt8 → List JV → List Bytes → Bytes → Option (JV × Bytes)
 | 0, _, _, _, _, _, _ => none
 | f + 1, m, kind, e, l, ks, r =>
  match (if kind = 6 then (keyB r).map fun p => (ks ++ [p.1], p.2) else some (ks, r)) with
  | none => none
  | some (ks', q) =>
   match valB f m q with
   | none => none
   | some (v, q2) =>
    if (skipB q2).head? = some e then some (.mk kind [] 0 (l ++ [v]) ks', (skipB q2).tail)
    else match mustB [44] (skipB q2) with
     | none => none
     | some q3 => lstB f m kind e (l ++ [v]) ks' q3
end
theorem strB_length (f : Nat) : ∀ {acc r s q : Bytes}, strB f acc r = some (s, q) → q.length < r.length ∧ s.length + q.length ≤ acc.length + r.length := by
 induction f with
 | zero => intro acc r s q h; cases h
 | succ f ih =>
  intro acc r s q h
  cases r with
  | nil => cases h
  | cons x r =>
   simp only [strB] at h
   split at h
   ·cases h
   ·split at h
    ·cases h; simp
    ·split at h
     ·have := ih h; simp at this ⊢; omega
     ·split at h
      ·cases h
      ·rename_i u p hu
       have h1 := escB_length hu
       have := ih h
       simp at this ⊢; omega
theorem strOf_length {r s q : Bytes} (h : strOf r = some (s, q)) : q.length < r.length ∧ s.length + q.length ≤ r.length ∧ Lib.validD s = true := by
 unfold strOf at h
 split at h
 ·cases h
 ·rename_i t ht
  have h1 := mustB_length ht
  split at h
  ·cases h
  ·rename_i a b hs
   have h2 := strB_length _ hs
   split at h
   ·rename_i hv
    cases h
    simp at h1 h2
    exact ⟨by omega, by omega, hv⟩
   ·cases h
theorem keyB_length {r k q : Bytes} (h : keyB r = some (k, q)) : q.length < r.length ∧ k.length + q.length ≤ r.length ∧ Lib.validD k = true := by
 unfold keyB at h
 split at h
 ·cases h
 ·rename_i a b hs
  have h1 := strOf_length hs
  have h2 := skipB_length r
  cases hm : mustB [58] (skipB b) with
  | none => rw [hm] at h; cases h
  | some c =>
   rw [hm] at h
   cases h
   have h3 := mustB_length hm
   have h4 := skipB_length b
   simp at h3
   exact ⟨by omega, by omega, h1.2.2⟩
theorem numB_length {r q : Bytes} {n : Nat} (h : numB r = some (n, q)) : q.length < r.length ∧ n < big := by
 unfold numB at h
 split at h
 ·rename_i hk
  cases h
  have hl := congrArg List.length (List.takeWhile_append_dropWhile (p := isDig) (l := r))
  rw [List.length_append] at hl
  unfold numOk at hk
  simp only [Bool.not_eq_true', Bool.or_eq_false_iff, decide_eq_false_iff_not] at hk
  refine ⟨?_, by omega⟩
  have : (r.takeWhile isDig).length ≠ 0 := by
   intro e
   have := hk.1.1
   rw [List.length_eq_zero_iff.1 e] at this
   simp at this
  omega
 ·cases h
def keyD (ks : List Bytes) (r : Bytes) : Option (Bytes × Bytes) :=
 match keyB r with
 | none => none
 | some (k, q) => if k ∈ ks then none else some (k, q)
mutual
def valD : Nat → Nat → Bytes → Option (JV × Bytes)
 | 0, _, _ => none
 | f + 1, most, r =>
  match skipB r with
  | [] => none
  | c :: t =>
   if c = 110 then (mustB [110, 117, 108, 108] (c :: t)).map fun q => (.plain 0, q)
   else if c = 102 then (mustB [102, 97, 108, 115, 101] (c :: t)).map fun q => (.plain 1, q)
   else if c = 116 then (mustB [116, 114, 117, 101] (c :: t)).map fun q => (.plain 2, q)
   else if c = 34 then (strOf (c :: t)).map fun p => (.mk 4 p.1 0 [] [], p.2)
   else if c = 91 then
    match most with
    | 0 => none
    | m + 1 => if (skipB t).head? = some 93 then some (.plain 5, (skipB t).tail) else lstD f m 5 93 [] [] (skipB t)
   else if c = 123 then
    match most with
    | 0 => none
    | m + 1 => if (skipB t).head? = some 125 then some (.plain 6, (skipB t).tail) else lstD f m 6 125 [] [] (skipB t)
   else (numB (c :: t)).map fun p => (.mk 3 [] p.1 [] [], p.2)
def lstD : Nat → Nat → Nat → UInt8 → List JV → List Bytes → Bytes → Option (JV × Bytes)
 | 0, _, _, _, _, _, _ => none
 | f + 1, m, kind, e, l, ks, r =>
  match (if kind = 6 then (keyD ks r).map fun p => (ks ++ [p.1], p.2) else some (ks, r)) with
  | none => none
  | some (ks', q) =>
   match valD f m q with
   | none => none
   | some (v, q2) =>
    if (skipB q2).head? = some e then some (.mk kind [] 0 (l ++ [v]) ks', (skipB q2).tail)
    else match mustB [44] (skipB q2) with
     | none => none
     | some q3 => lstD f m kind e (l ++ [v]) ks' q3
end
mutual
def JV.nd : JV → Bool
 | .mk _ _ _ l ks => decide ks.Nodup && ndAll l
def ndAll : List JV → Bool
 | [] => true
 | v :: l => JV.nd v && ndAll l
end
theorem ndAll_append (a b : List JV) : ndAll (a ++ b) = (ndAll a && ndAll b) := by
 induction a with
 | nil => simp [ndAll]
 | cons v a ih => simp [ndAll, ih, Bool.and_assoc]
theorem nd_plain (k : Nat) (s : Bytes) (n : Nat) : JV.nd (.mk k s n [] []) = true := by simp [JV.nd, ndAll]
theorem keyD_none {ks : List Bytes} {r : Bytes} (h : keyB r = none) : keyD ks r = none := by unfold keyD; rw [h]
theorem keyD_some {ks : List Bytes} {r k q : Bytes} (h : keyB r = some (k, q)) : keyD ks r = if k ∈ ks then none else some (k, q) := by unfold keyD; rw [h]
theorem lstB_extends (f : Nat) : ∀ {m kind : Nat} {e : UInt8} {l : List JV} {ks : List Bytes} {r : Bytes} {v : JV} {q : Bytes}, lstB f m kind e l ks r = some (v, q) →
  ∃ l' ks', v = .mk kind [] 0 (l ++ l') (ks ++ ks') := by
 induction f with
 | zero => intro m kind e l ks r v q h; simp [lstB] at h
 | succ f ih =>
  intro m kind e l ks r v q h
  simp only [lstB] at h
  split at h
  ·cases h
  ·rename_i ks' q' hk
   obtain ⟨k1, rfl⟩ : ∃ k1, ks' = ks ++ k1 := by
    split at hk
    ·obtain ⟨p, hp, he⟩ := Option.map_eq_some_iff.1 hk
     cases he; exact ⟨_, rfl⟩
    ·cases hk; exact ⟨[], by simp⟩
   split at h
   ·cases h
   ·rename_i v' q2 hv
    split at h
    ·cases h; exact ⟨[v'], k1, rfl⟩
    ·split at h
     ·cases h
     ·obtain ⟨l', ks', rfl⟩ := ih h
      exact ⟨v' :: l', k1 ++ ks', by simp⟩
theorem filter_none_of {α : Type} {p : α → Bool} {x : Option α} (h : ∀ a, x = some a → p a = false) : x.filter p = none := by
 cases x with
 | none => rfl
 | some a => simp [Option.filter, h a rfl]
theorem valD_eq (f : Nat) : (∀ m r, valD f m r = (valB f m r).filter fun p => p.1.nd) ∧
  (∀ m kind e l ks r, ks.Nodup → ndAll l = true → lstD f m kind e l ks r = (lstB f m kind e l ks r).filter fun p => p.1.nd) := by
 induction f with
 | zero => exact ⟨fun m r => by simp [valD, valB], fun m kind e l ks r _ _ => by simp [lstD, lstB]⟩
 | succ f ih =>
  obtain ⟨ihv, ihl⟩ := ih
  constructor
  ·intro m r
   simp only [valD, valB]
   cases skipB r with
   | nil => rfl
   | cons c t =>
    simp only []
    have wd : ∀ (x : Option Bytes) (k : Nat), (x.map fun q => (JV.plain k, q)) = (x.map fun q => (JV.plain k, q)).filter fun p => p.1.nd := by
     intro x k
     cases x with
     | none => rfl
     | some q => simp [Option.filter, JV.plain, nd_plain]
    split
    ·exact wd _ _
    ·split
     ·exact wd _ _
     ·split
      ·exact wd _ _
      ·split
       ·cases strOf (c :: t) with
        | none => rfl
        | some p => simp [Option.filter, nd_plain]
       ·split
        ·cases m with
         | zero => rfl
         | succ m =>
          simp only []
          split
          ·simp [Option.filter, JV.plain, nd_plain]
          ·exact ihl _ _ _ _ _ _ List.nodup_nil rfl
        ·split
         ·cases m with
          | zero => rfl
          | succ m =>
           simp only []
           split
           ·simp [Option.filter, JV.plain, nd_plain]
           ·exact ihl _ _ _ _ _ _ List.nodup_nil rfl
         ·cases numB (c :: t) with
          | none => rfl
          | some p => simp [Option.filter, nd_plain]
  ·intro m kind e l ks r hks hl
   have step : ∀ ks' q, ks'.Nodup → (match valD f m q with
     | none => none
     | some (v, q2) =>
      if (skipB q2).head? = some e then some (JV.mk kind [] 0 (l ++ [v]) ks', (skipB q2).tail)
      else match mustB [44] (skipB q2) with
       | none => none
       | some q3 => lstD f m kind e (l ++ [v]) ks' q3) = (match valB f m q with
     | none => none
     | some (v, q2) =>
      if (skipB q2).head? = some e then some (JV.mk kind [] 0 (l ++ [v]) ks', (skipB q2).tail)
      else match mustB [44] (skipB q2) with
       | none => none
       | some q3 => lstB f m kind e (l ++ [v]) ks' q3).filter fun p => p.1.nd := by
    intro ks' q hk'
    rw [ihv]
    cases hv : valB f m q with
    | none => rfl
    | some p =>
     obtain ⟨v, q2⟩ := p
     cases hn : v.nd with
     | true =>
      have hl' : ndAll (l ++ [v]) = true := by rw [ndAll_append, hl]; simp [ndAll, hn]
      simp only [Option.filter, hn, if_true]
      split
      ·have : JV.nd (.mk kind [] 0 (l ++ [v]) ks') = true := by simp [JV.nd, hk', hl']
       simp [this]
      ·cases mustB [44] (skipB q2) with
       | none => rfl
       | some q3 => exact ihl _ _ _ _ _ _ hk' hl'
     | false =>
      have e1 : (some (v, q2)).filter (fun p : JV × Bytes => p.1.nd) = none := by simp [Option.filter, hn]
      rw [e1]
      refine (filter_none_of ?_).symm
      rintro ⟨u, q9⟩ hu
      simp only [] at hu
      split at hu
      ·cases hu; simp [JV.nd, ndAll_append, ndAll, hn]
      ·split at hu
       ·cases hu
       ·obtain ⟨l', k', rfl⟩ := lstB_extends f hu
        simp [JV.nd, ndAll_append, ndAll, hn]
   simp only [lstD, lstB]
   by_cases h6 : kind = 6
   ·simp only [if_pos h6]
    cases hk : keyB r with
    | none => rw [keyD_none hk]; rfl
    | some p =>
     obtain ⟨k, q⟩ := p
     rw [keyD_some hk]
     by_cases hin : k ∈ ks
     ·rw [if_pos hin]
      refine (filter_none_of ?_).symm
      rintro ⟨u, q9⟩ hu
      simp only [Option.map_some] at hu
      have hd : ¬ (ks ++ [k]).Nodup := by
       intro h
       rw [List.nodup_append] at h
       exact h.2.2 k hin k (by simp) rfl
      split at hu
      ·cases hu
      ·rename_i v q2 hv
       split at hu
       ·cases hu; simp [JV.nd, hd]
       ·split at hu
        ·cases hu
        ·obtain ⟨l', k', rfl⟩ := lstB_extends f hu
         have hd' : ¬ (ks ++ [k] ++ k').Nodup := fun h => hd (List.nodup_append.1 h).1
         simp only [JV.nd, decide_eq_false hd', Bool.false_and]
     ·rw [if_neg hin]
      simp only [Option.map_some]
      exact step _ _ (by rw [List.nodup_append]; exact ⟨hks, by simp, fun a ha b hb => by simp at hb; subst hb; rintro rfl; exact hin ha⟩)
   ·simp only [if_neg h6]
    exact step _ _ hks
theorem keyD_length {ks : List Bytes} {r k q : Bytes} (h : keyD ks r = some (k, q)) : q.length < r.length ∧ k.length + q.length ≤ r.length ∧ k ∉ ks ∧ Lib.validD k = true := by
 unfold keyD at h
 split at h
 ·cases h
 ·rename_i k' q' hk
  split at h
  ·cases h
  ·cases h
   have := keyB_length hk
   exact ⟨this.1, this.2.1, ‹_›, this.2.2⟩
theorem tail_length {r : Bytes} {e : UInt8} (h : r.head? = some e) : r.tail.length + 1 = r.length := by
 cases r with
 | nil => cases h
 | cons x r => simp
theorem valD_length (f : Nat) : (∀ {m : Nat} {r q : Bytes} {v : JV}, valD f m r = some (v, q) → q.length < r.length) ∧
  (∀ {m kind : Nat} {e : UInt8} {l : List JV} {ks : List Bytes} {r q : Bytes} {v : JV}, lstD f m kind e l ks r = some (v, q) → q.length < r.length) := by
 induction f with
 | zero => exact ⟨fun h => by simp [valD] at h, fun h => by simp [lstD] at h⟩
 | succ f ih =>
  obtain ⟨ihv, ihl⟩ := ih
  constructor
  ·intro m r q v h
   simp only [valD] at h
   have hs := skipB_length r
   cases hr : skipB r with
   | nil => rw [hr] at h; cases h
   | cons c t =>
    rw [hr] at h hs
    simp only [List.length_cons] at hs h
    have wd : ∀ (p : Bytes) (k : Nat), p ≠ [] → ((mustB p (c :: t)).map fun q => (JV.plain k, q)) = some (v, q) → q.length < r.length := by
     intro p k hp hh
     obtain ⟨q', hq', he⟩ := Option.map_eq_some_iff.1 hh
     cases he
     have := mustB_length hq'
     cases p with
     | nil => exact absurd rfl hp
     | cons _ _ => simp at this; omega
    split at h
    ·exact wd _ _ (by simp) h
    ·split at h
     ·exact wd _ _ (by simp) h
     ·split at h
      ·exact wd _ _ (by simp) h
      ·split at h
       ·obtain ⟨p, hp, he⟩ := Option.map_eq_some_iff.1 h
        cases he
        have := strOf_length (s := p.1) (q := p.2) hp
        simp at this; omega
       ·have hsk := skipB_length t
        have op : ∀ (kind : Nat) (e : UInt8) (k : Nat), (if (skipB t).head? = some e then some (JV.plain kind, (skipB t).tail) else lstD f k kind e [] [] (skipB t)) = some (v, q) → q.length < r.length := by
         intro kind e k hh
         split at hh
         ·rename_i he
          cases hh
          have := tail_length he
          omega
         ·have := ihl hh; omega
        split at h
        ·cases m with
         | zero => cases h
         | succ k => exact op _ _ _ h
        ·split at h
         ·cases m with
          | zero => cases h
          | succ k => exact op _ _ _ h
         ·obtain ⟨p, hp, he⟩ := Option.map_eq_some_iff.1 h
          cases he
          have := numB_length (n := p.1) (q := p.2) hp
          simp at this; omega
  ·intro m kind e l ks r q v h
   simp only [lstD] at h
   split at h
   ·cases h
   ·rename_i ks' q' hk
    have hq' : q'.length ≤ r.length := by
     split at hk
     ·obtain ⟨p, hp, he⟩ := Option.map_eq_some_iff.1 hk
      cases he
      have := keyD_length (k := p.1) (q := p.2) hp; omega
     ·cases hk; exact Nat.le_refl _
    split at h
    ·cases h
    ·rename_i v' q2 hv
     have h2 := ihv hv
     have h3 := skipB_length q2
     split at h
     ·rename_i he
      cases h
      have := tail_length he
      omega
     ·split at h
      ·cases h
      ·rename_i q3 h4
       have := mustB_length h4
       have := ihl h
       simp at *; omega
theorem valD_fuel (f : Nat) : (∀ (g m : Nat) (r : Bytes), 2 * r.length + 2 ≤ f → 2 * r.length + 2 ≤ g → valD f m r = valD g m r) ∧
  (∀ (g m kind : Nat) (e : UInt8) (l : List JV) (ks : List Bytes) (r : Bytes), 2 * r.length + 3 ≤ f → 2 * r.length + 3 ≤ g → lstD f m kind e l ks r = lstD g m kind e l ks r) := by
 induction f with
 | zero => exact ⟨fun g m r h => by omega, fun g m kind e l ks r h => by omega⟩
 | succ f ih =>
  obtain ⟨ihv, ihl⟩ := ih
  constructor
  ·intro g m r hf hg
   obtain ⟨g, rfl⟩ : ∃ k, g = k + 1 := ⟨g - 1, by omega⟩
   simp only [valD]
   have hs := skipB_length r
   cases hr : skipB r with
   | nil => rfl
   | cons c t =>
    rw [hr] at hs
    simp only [List.length_cons] at hs
    have hsk := skipB_length t
    cases m with
    | zero => rfl
    | succ k =>
     simp only []
     rw [ihl g k 5 93 [] [] (skipB t) (by omega) (by omega), ihl g k 6 125 [] [] (skipB t) (by omega) (by omega)]
  ·intro g m kind e l ks r hf hg
   obtain ⟨g, rfl⟩ : ∃ k, g = k + 1 := ⟨g - 1, by omega⟩
   simp only [lstD]
   cases hk : (if kind = 6 then (keyD ks r).map fun p => (ks ++ [p.1], p.2) else some (ks, r)) with
   | none => rfl
   | some p =>
    obtain ⟨ks', q'⟩ := p
    have hq' : q'.length ≤ r.length := by
     split at hk
     ·obtain ⟨p, hp, he⟩ := Option.map_eq_some_iff.1 hk
      cases he
      have := keyD_length (k := p.1) (q := p.2) hp; omega
     ·cases hk; exact Nat.le_refl _
    simp only []
    rw [ihv g m q' (by omega) (by omega)]
    cases hv : valD g m q' with
    | none => rfl
    | some p =>
     obtain ⟨v, q2⟩ := p
     simp only []
     have h2 := (valD_length g).1 hv
     have h3 := skipB_length q2
     split
     ·rfl
     ·cases h4 : mustB [44] (skipB q2) with
      | none => rfl
      | some q3 =>
       have := mustB_length h4
       simp at this
       exact ihl g m kind e _ _ q3 (by omega) (by omega)
def VD (m : Nat) (r : Bytes) : Option (JV × Bytes) := valD (2 * r.length + 2) m r
def LD (m kind : Nat) (e : UInt8) (l : List JV) (ks : List Bytes) (r : Bytes) : Option (JV × Bytes) := lstD (2 * r.length + 3) m kind e l ks r
def afterD (m kind : Nat) (e : UInt8) (l : List JV) (ks : List Bytes) (p : JV × Bytes) : Option (JV × Bytes) :=
 if (skipB p.2).head? = some e then some (.mk kind [] 0 (l ++ [p.1]) ks, (skipB p.2).tail)
 else match mustB [44] (skipB p.2) with
  | none => none
  | some q3 => LD m kind e (l ++ [p.1]) ks q3
theorem VD_of {f m : Nat} {r : Bytes} (h : 2 * r.length + 2 ≤ f) : valD f m r = VD m r := (valD_fuel f).1 _ m r h (Nat.le_refl _)
theorem LD_of {f m kind : Nat} {e : UInt8} {l : List JV} {ks : List Bytes} {r : Bytes} (h : 2 * r.length + 3 ≤ f) : lstD f m kind e l ks r = LD m kind e l ks r := (valD_fuel f).2 _ m kind e l ks r h (Nat.le_refl _)
theorem VD_length {m : Nat} {r q : Bytes} {v : JV} (h : VD m r = some (v, q)) : q.length < r.length := (valD_length _).1 h
theorem VD_nil {m : Nat} {r : Bytes} (h : skipB r = []) : VD m r = none := by
 unfold VD; simp only [valD, h]
theorem skipB_skip {m : Nat} {r : Bytes} : VD m (skipB r) = VD m r := by
 have h := skipB_length r
 rw [← VD_of (f := 2 * r.length + 2) (r := skipB r) (by omega)]
 unfold VD
 rw [show 2 * r.length + 2 = (2 * r.length + 1) + 1 from rfl]
 simp only [valD, skipB_idem]
theorem VD_str {m : Nat} {r t : Bytes} (h : skipB r = 34 :: t) : VD m r = (strOf (34 :: t)).map fun p => (.mk 4 p.1 0 [] [], p.2) := by
 unfold VD; simp only [valD, h]
 rw [if_neg (by decide), if_neg (by decide), if_neg (by decide)]
 exact if_pos trivial
theorem VD_num {m : Nat} {r t : Bytes} {c : UInt8} (h : skipB r = c :: t) (hd : isDig c = true) : VD m r = (numB (c :: t)).map fun p => (.mk 3 [] p.1 [] [], p.2) := by
 unfold VD; simp only [valD, h]
 simp only [isDig, decide_eq_true_eq] at hd
 have ne : ∀ k : UInt8, (57 < k.toNat ∨ k.toNat < 48) → c ≠ k := fun k hk e => by subst e; omega
 rw [if_neg (ne _ (by decide)), if_neg (ne _ (by decide)), if_neg (ne _ (by decide)), if_neg (ne _ (by decide)), if_neg (ne _ (by decide)), if_neg (ne _ (by decide))]
theorem VD_open {m kind : Nat} {e : UInt8} {r t : Bytes} {c : UInt8} (h : skipB r = c :: t) (hc : (c = 91 ∧ kind = 5 ∧ e = 93) ∨ (c = 123 ∧ kind = 6 ∧ e = 125)) :
  VD m r = match m with
   | 0 => none
   | k + 1 => if (skipB t).head? = some e then some (.plain kind, (skipB t).tail) else LD k kind e [] [] (skipB t) := by
 have hs := skipB_length r
 rw [h] at hs
 simp only [List.length_cons] at hs
 have hsk := skipB_length t
 unfold VD; simp only [valD, h]
 rcases hc with ⟨rfl, rfl, rfl⟩ | ⟨rfl, rfl, rfl⟩
 ·rw [if_neg (by decide), if_neg (by decide), if_neg (by decide), if_neg (by decide), if_pos rfl]
  cases m with
  | zero => rfl
  | succ k => simp only []; rw [LD_of (by omega)]
 ·rw [if_neg (by decide), if_neg (by decide), if_neg (by decide), if_neg (by decide), if_neg (by decide), if_pos rfl]
  cases m with
  | zero => rfl
  | succ k => simp only []; rw [LD_of (by omega)]
theorem after_of (f m kind : Nat) (e : UInt8) (l : List JV) (ks : List Bytes) (r : Bytes) (h : 2 * r.length + 2 ≤ f) :
  (match valD f m r with
   | none => none
   | some (v, q2) =>
    if (skipB q2).head? = some e then some (JV.mk kind [] 0 (l ++ [v]) ks, (skipB q2).tail)
    else match mustB [44] (skipB q2) with
     | none => none
     | some q3 => lstD f m kind e (l ++ [v]) ks q3) = (VD m r).bind (afterD m kind e l ks) := by
 rw [VD_of h]
 cases hv : VD m r with
 | none => rfl
 | some p =>
  obtain ⟨v, q2⟩ := p
  have h2 := VD_length hv
  have h3 := skipB_length q2
  simp only [Option.bind_some, afterD]
  split
  ·rfl
  ·cases h4 : mustB [44] (skipB q2) with
   | none => rfl
   | some q3 =>
    have := mustB_length h4
    simp at this
    simp only []
    rw [LD_of (by omega)]
theorem LD_list {m : Nat} {l : List JV} {ks : List Bytes} {r : Bytes} : LD m 5 93 l ks r = (VD m r).bind (afterD m 5 93 l ks) := by
 unfold LD; simp only [lstD]
 rw [if_neg (by decide)]
 exact after_of _ m 5 93 l ks r (by omega)
theorem LD_obj {m : Nat} {l : List JV} {ks : List Bytes} {r : Bytes} : LD m 6 125 l ks r = match keyD ks r with
  | none => none
  | some (k, q) => (VD m q).bind (afterD m 6 125 l (ks ++ [k])) := by
 unfold LD
 obtain ⟨F, hF⟩ : ∃ F, F = 2 * r.length + 2 := ⟨_, rfl⟩
 rw [show 2 * r.length + 3 = F + 1 by omega, lstD, if_pos rfl]
 cases hk : keyD ks r with
 | none => rfl
 | some p =>
  obtain ⟨k, q⟩ := p
  have := (keyD_length hk).1
  exact after_of F m 6 125 l (ks ++ [k]) q (by omega)
def plainB (r : Bytes) : Option (Nat × Bytes) :=
 if [110, 117, 108, 108].isPrefixOf r then some (0, r.drop 4)
 else if [102, 97, 108, 115, 101].isPrefixOf r then some (1, r.drop 5)
 else if [116, 114, 117, 101].isPrefixOf r then some (2, r.drop 4)
 else none
theorem must_prefix0 (p r : Bytes) : mustB p r = if p.isPrefixOf r then some (r.drop p.length) else none := by
 induction p generalizing r with
 | nil => simp [mustB]
 | cons a p ih =>
  cases r with
  | nil => simp [mustB]
  | cons b r =>
   by_cases h : b = a
   ·subst h
    simp only [mustB, if_pos, ih]
    simp [List.isPrefixOf]
   ·have : (a == b) = false := by simpa using fun e => h e.symm
    simp [mustB, h, List.isPrefixOf, this]
theorem isPrefixOf_ne {a b : UInt8} {p r : Bytes} (h : b ≠ a) : (a :: p).isPrefixOf (b :: r) = false := by
 have : (a == b) = false := by simpa using fun e => h e.symm
 simp [List.isPrefixOf, this]
theorem VD_word {m : Nat} {r t : Bytes} {c : UInt8} (h : skipB r = c :: t) (hd : isDig c = false) (h1 : c ≠ 34) (h2 : c ≠ 91) (h3 : c ≠ 123) : VD m r = (plainB (c :: t)).map fun p => (JV.plain p.1, p.2) := by
 unfold VD; simp only [valD, h]
 by_cases c1 : c = 110
 ·subst c1
  rw [if_pos rfl, must_prefix0]
  unfold plainB
  by_cases q : ([110, 117, 108, 108] : Bytes).isPrefixOf (110 :: t) = true
  ·simp only [q, if_true]; rfl
  ·rw [if_neg q, if_neg q, isPrefixOf_ne (by decide), isPrefixOf_ne (by decide)]; rfl
 rw [if_neg c1]
 by_cases c2 : c = 102
 ·subst c2
  rw [if_pos rfl, must_prefix0]
  unfold plainB
  rw [show ([110, 117, 108, 108] : Bytes).isPrefixOf (102 :: t) = false from isPrefixOf_ne (by decide)]
  by_cases q : ([102, 97, 108, 115, 101] : Bytes).isPrefixOf (102 :: t) = true
  ·simp only [q, if_true]; rfl
  ·rw [if_neg q, if_neg (by decide), if_neg q, show ([116, 114, 117, 101] : Bytes).isPrefixOf (102 :: t) = false from isPrefixOf_ne (by decide)]; rfl
 rw [if_neg c2]
 by_cases c3 : c = 116
 ·subst c3
  rw [if_pos rfl, must_prefix0]
  unfold plainB
  rw [show ([110, 117, 108, 108] : Bytes).isPrefixOf (116 :: t) = false from isPrefixOf_ne (by decide), show ([102, 97, 108, 115, 101] : Bytes).isPrefixOf (116 :: t) = false from isPrefixOf_ne (by decide)]
  by_cases q : ([116, 114, 117, 101] : Bytes).isPrefixOf (116 :: t) = true
  ·simp only [q, if_true]; rfl
  ·rw [if_neg q, if_neg (by decide), if_neg (by decide), if_neg q]; rfl
 rw [if_neg c3, if_neg h1, if_neg h2, if_neg h3]
 unfold plainB
 rw [isPrefixOf_ne c1, isPrefixOf_ne c2, isPrefixOf_ne c3]
 have : numB (c :: t) = none := by
  unfold numB
  rw [List.takeWhile_cons_of_neg (by rw [hd]; decide)]
  rfl
 rw [this]; rfl
structure Fr where
 kind : Nat
 list : List JV
 keys : List Bytes
def Fr.shut (t : Fr) : UInt8 := if t.kind = 5 then 93 else 125
def behindL : List Fr → JV × Bytes → Option JV
 | [], p => if skipB p.2 = [] then some p.1 else none
 | t :: st, p => (afterD (8 - (st.length + 1)) t.kind t.shut t.list t.keys p).bind (behindL st)
def behind (fs : List Fr) (p : JV × Bytes) : Option JV := behindL fs.reverse p
theorem behind_nil (p : JV × Bytes) : behind [] p = if skipB p.2 = [] then some p.1 else none := rfl
theorem behind_snoc (fs : List Fr) (t : Fr) (p : JV × Bytes) : behind (fs ++ [t]) p = (afterD (8 - (fs.length + 1)) t.kind t.shut t.list t.keys p).bind (behind fs) := by
 unfold behind
 rw [List.reverse_append]
 simp [behindL]
def parseD (l : Bytes) : Option JV := (VD 8 l).bind (behind [])
def Fr.ok (t : Fr) : Prop := t.kind = 5 ∨ t.kind = 6
theorem ans_end {fs : List Fr} {t : Fr} {v : JV} {r q : Bytes} (h : skipB r = t.shut :: q) : behind (fs ++ [t]) (v, r) = behind fs (.mk t.kind [] 0 (t.list ++ [v]) t.keys, q) := by
 rw [behind_snoc]
 simp only [afterD, h]
 rw [if_pos (by simp)]
 rfl
theorem must44 (q : Bytes) : mustB [44] (44 :: q) = some q := by simp [mustB]
theorem ans_comma5 {fs : List Fr} {t : Fr} {v : JV} {r q : Bytes} (hk : t.kind = 5) (h : skipB r = 44 :: q) : behind (fs ++ [t]) (v, r) = (VD (8 - (fs.length + 1)) q).bind (behind (fs ++ [⟨5, t.list ++ [v], t.keys⟩])) := by
 obtain ⟨k, L, K⟩ := t
 simp only at hk; subst hk
 have e : (Fr.mk 5 L K).shut = 93 := rfl
 rw [behind_snoc]
 simp only [afterD, h, e]
 rw [if_neg (by simp)]
 simp only [must44]
 rw [LD_list, Option.bind_assoc]
 congr 1
 funext p
 rw [behind_snoc]
 rfl
theorem ans_comma6 {fs : List Fr} {t : Fr} {v : JV} {r q : Bytes} (hk : t.kind = 6) (h : skipB r = 44 :: q) : behind (fs ++ [t]) (v, r) = (LD (8 - (fs.length + 1)) 6 125 (t.list ++ [v]) t.keys q).bind (behind fs) := by
 obtain ⟨k, L, K⟩ := t
 simp only at hk; subst hk
 have e : (Fr.mk 6 L K).shut = 125 := rfl
 rw [behind_snoc]
 simp only [afterD, h, e]
 rw [if_neg (by simp)]
 simp only [must44]
theorem ans_none {fs : List Fr} {t : Fr} {v : JV} {r : Bytes} (h1 : (skipB r).head? ≠ some t.shut) (h2 : (skipB r).head? ≠ some 44) : behind (fs ++ [t]) (v, r) = none := by
 rw [behind_snoc]
 simp only [afterD]
 rw [if_neg h1]
 cases hs : skipB r with
 | nil => rfl
 | cons x q =>
  rw [hs] at h2
  have : x ≠ 44 := by rintro rfl; exact h2 rfl
  simp [mustB, this]
theorem ans_member {fs : List Fr} {L : List JV} {K : List Bytes} {r k q : Bytes} (h : keyD K r = some (k, q)) : (LD (8 - (fs.length + 1)) 6 125 L K r).bind (behind fs) = (VD (8 - (fs.length + 1)) q).bind (behind (fs ++ [⟨6, L, K ++ [k]⟩])) := by
 rw [LD_obj, h, Option.bind_assoc]
 congr 1
 funext p
 rw [behind_snoc]
 rfl
theorem ans_member_none {fs : List Fr} {L : List JV} {K : List Bytes} {r : Bytes} (h : keyD K r = none) : (LD (8 - (fs.length + 1)) 6 125 L K r).bind (behind fs) = none := by
 rw [LD_obj, h]; rfl
inductive WV : Nat → JV → Prop
 | leaf {m k : Nat} (hk : k < 3) : WV m (.mk k [] 0 [] [])
 | num {m n : Nat} : WV m (.mk 3 [] n [] [])
 | str {m : Nat} {s : Bytes} (hs : Lib.validD s = true) (hl : s.length ≤ 1048576) : WV m (.mk 4 s 0 [] [])
 | arr {m : Nat} {l : List JV} (hl : ∀ v ∈ l, WV m v) (hn : l.length ≤ 1048576) : WV (m + 1) (.mk 5 [] 0 l [])
 | obj {m : Nat} {l : List JV} {ks : List Bytes} (hl : ∀ v ∈ l, WV m v) (hk : ks.length = l.length) (hs : ∀ k ∈ ks, Lib.validD k = true ∧ k.length ≤ 1048576) (hn : l.length ≤ 1048576) : WV (m + 1) (.mk 6 [] 0 l ks)
theorem valB_wv (f : Nat) : (∀ {m : Nat} {r q : Bytes} {v : JV}, valB f m r = some (v, q) → r.length ≤ 1048576 → WV m v ∧ q.length < r.length) ∧
  (∀ {m kind : Nat} {e : UInt8} {l : List JV} {ks : List Bytes} {r q : Bytes} {v : JV}, lstB f m kind e l ks r = some (v, q) → r.length ≤ 1048576 → (∀ x ∈ l, WV m x) → l.length + r.length ≤ 1048576 →
   ((kind = 5 ∧ ks = []) ∨ (kind = 6 ∧ ks.length = l.length ∧ ∀ k ∈ ks, Lib.validD k = true ∧ k.length ≤ 1048576)) → WV (m + 1) v ∧ q.length < r.length) := by
 induction f with
 | zero => exact ⟨fun h => by simp [valB] at h, fun h => by simp [lstB] at h⟩
 | succ f ih =>
  obtain ⟨ihv, ihl⟩ := ih
  constructor
  ·intro m r q v h hb
   simp only [valB] at h
   have hs := skipB_length r
   cases hr : skipB r with
   | nil => rw [hr] at h; cases h
   | cons c t =>
    rw [hr] at h hs
    simp only [List.length_cons] at hs h
    have wd : ∀ (p : Bytes) (k : Nat), k < 3 → p ≠ [] → ((mustB p (c :: t)).map fun q => (JV.plain k, q)) = some (v, q) → WV m v ∧ q.length < r.length := by
     intro p k hk hp hh
     obtain ⟨q', hq', he⟩ := Option.map_eq_some_iff.1 hh
     cases he
     refine ⟨.leaf hk, ?_⟩
     have := mustB_length hq'
     cases p with
     | nil => exact absurd rfl hp
     | cons _ _ => simp at this; omega
    split at h
    ·exact wd _ _ (by decide) (by simp) h
    ·split at h
     ·exact wd _ _ (by decide) (by simp) h
     ·split at h
      ·exact wd _ _ (by decide) (by simp) h
      ·split at h
       ·obtain ⟨p, hp, he⟩ := Option.map_eq_some_iff.1 h
        cases he
        have := strOf_length (s := p.1) (q := p.2) hp
        simp only [List.length_cons] at this
        exact ⟨.str this.2.2 (by omega), by omega⟩
       ·have hsk := skipB_length t
        have op : ∀ (kind : Nat) (e : UInt8) (k : Nat), (kind = 5 ∨ kind = 6) → (if (skipB t).head? = some e then some (JV.plain kind, (skipB t).tail) else lstB f k kind e [] [] (skipB t)) = some (v, q) → WV (k + 1) v ∧ q.length < r.length := by
         intro kind e k hkd hh
         split at hh
         ·rename_i he
          cases hh
          have := tail_length he
          refine ⟨?_, by omega⟩
          rcases hkd with rfl | rfl
          ·exact .arr (by simp) (by simp)
          ·exact .obj (by simp) rfl (by simp) (by simp)
         ·have := ihl hh (by omega) (by simp) (by simp; omega) (by rcases hkd with rfl | rfl <;> first | exact Or.inl ⟨rfl, rfl⟩ | exact Or.inr ⟨rfl, rfl, by simp⟩)
          exact ⟨this.1, by omega⟩
        split at h
        ·cases m with
         | zero => cases h
         | succ k => exact op _ _ _ (Or.inl rfl) h
        ·split at h
         ·cases m with
          | zero => cases h
          | succ k => exact op _ _ _ (Or.inr rfl) h
         ·obtain ⟨p, hp, he⟩ := Option.map_eq_some_iff.1 h
          cases he
          have := numB_length (n := p.1) (q := p.2) hp
          simp only [List.length_cons] at this
          exact ⟨.num, by omega⟩
  ·intro m kind e l ks r q v h hb hl hlr hk
   simp only [lstB] at h
   split at h
   ·cases h
   ·rename_i ks' q' hkk
    have hq' : q'.length ≤ r.length ∧ ((kind = 5 ∧ ks' = []) ∨ (kind = 6 ∧ ks'.length = l.length + 1 ∧ ∀ k ∈ ks', Lib.validD k = true ∧ k.length ≤ 1048576)) := by
     rcases hk with ⟨rfl, rfl⟩ | ⟨rfl, hkl, hks⟩
     ·rw [if_neg (by decide)] at hkk
      cases hkk; exact ⟨Nat.le_refl _, Or.inl ⟨rfl, rfl⟩⟩
     ·rw [if_pos rfl] at hkk
      obtain ⟨p, hp, he⟩ := Option.map_eq_some_iff.1 hkk
      cases he
      have := keyB_length (k := p.1) (q := p.2) hp
      refine ⟨by omega, Or.inr ⟨rfl, by simp [hkl], ?_⟩⟩
      intro k hkm
      rcases List.mem_append.1 hkm with h1 | h1
      ·exact hks k h1
      ·obtain rfl := List.mem_singleton.1 h1
       exact ⟨this.2.2, by omega⟩
    split at h
    ·cases h
    ·rename_i v' q2 hv
     have h2 := ihv hv (by omega)
     have h3 := skipB_length q2
     have hl' : ∀ x ∈ l ++ [v'], WV m x := by
      intro x hx
      rcases List.mem_append.1 hx with h1 | h1
      ·exact hl x h1
      ·obtain rfl := List.mem_singleton.1 h1; exact h2.1
     split at h
     ·rename_i he
      cases h
      have := tail_length he
      refine ⟨?_, by omega⟩
      rcases hq'.2 with ⟨rfl, rfl⟩ | ⟨rfl, hkl, hks⟩
      ·exact .arr hl' (by simp; omega)
      ·exact .obj hl' (by simp [hkl]) hks (by simp; omega)
     ·split at h
      ·cases h
      ·rename_i q3 h4
       have := mustB_length h4
       simp only [List.length_cons, List.length_nil] at this
       have := ihl h (by omega) hl' (by simp; omega) (by
        rcases hq'.2 with ⟨rfl, rfl⟩ | ⟨rfl, hkl, hks⟩
        ·exact Or.inl ⟨rfl, rfl⟩
        ·exact Or.inr ⟨rfl, by simp [hkl], hks⟩)
       exact ⟨this.1, by omega⟩
inductive Small (b : Nat) : JV → Prop
 | mk {k : Nat} {s : Bytes} {n : Nat} {l : List JV} {ks : List Bytes} : s.length ≤ b → n < big → l.length ≤ b → ks.length ≤ b → (∀ v ∈ l, Small b v) → Small b (.mk k s n l ks)
theorem Small.plain (b k : Nat) : Small b (.plain k) := .mk (by simp) (by decide) (by simp) (by simp) (by simp)
theorem Small.str {b : Nat} {v : JV} (h : Small b v) : v.str.length ≤ b := by cases h; assumption
theorem Small.num {b : Nat} {v : JV} (h : Small b v) : v.num < big := by cases h; assumption
theorem Small.list {b : Nat} {v : JV} (h : Small b v) : v.list.length ≤ b := by cases h; assumption
theorem Small.keys {b : Nat} {v : JV} (h : Small b v) : v.keys.length ≤ b := by cases h; assumption
theorem Small.each {b : Nat} {v : JV} (h : Small b v) {i : Nat} {u : JV} (hi : v.list[i]? = some u) : Small b u := by
 cases h with
 | mk _ _ _ _ hl => exact hl u (List.mem_of_getElem? hi)
theorem valD_small (b : Nat) (f : Nat) : (∀ {m : Nat} {r q : Bytes} {v : JV}, valD f m r = some (v, q) → r.length ≤ b → Small b v) ∧
  (∀ {m kind : Nat} {e : UInt8} {l : List JV} {ks : List Bytes} {r q : Bytes} {v : JV}, lstD f m kind e l ks r = some (v, q) → l.length + r.length ≤ b → ks.length + r.length ≤ b → (∀ x ∈ l, Small b x) → Small b v) := by
 induction f with
 | zero => exact ⟨fun h => by simp [valD] at h, fun h => by simp [lstD] at h⟩
 | succ f ih =>
  obtain ⟨ihv, ihl⟩ := ih
  constructor
  ·intro m r q v h hb
   simp only [valD] at h
   have hs := skipB_length r
   cases hr : skipB r with
   | nil => rw [hr] at h; cases h
   | cons c t =>
    rw [hr] at h hs
    simp only [List.length_cons] at hs h
    have wd : ∀ (p : Bytes) (k : Nat), ((mustB p (c :: t)).map fun q => (JV.plain k, q)) = some (v, q) → Small b v := by
     intro p k hh
     obtain ⟨q', hq', he⟩ := Option.map_eq_some_iff.1 hh
     cases he
     exact Small.plain _ _
    split at h
    ·exact wd _ _ h
    ·split at h
     ·exact wd _ _ h
     ·split at h
      ·exact wd _ _ h
      ·split at h
       ·obtain ⟨p, hp, he⟩ := Option.map_eq_some_iff.1 h
        cases he
        have := strOf_length (s := p.1) (q := p.2) hp
        simp at this
        exact .mk (by omega) (by decide) (by simp) (by simp) (by simp)
       ·have hsk := skipB_length t
        have op : ∀ (kind : Nat) (e : UInt8) (k : Nat), (if (skipB t).head? = some e then some (JV.plain kind, (skipB t).tail) else lstD f k kind e [] [] (skipB t)) = some (v, q) → Small b v := by
         intro kind e k hh
         split at hh
         ·cases hh; exact Small.plain _ _
         ·exact ihl hh (by simp; omega) (by simp; omega) (by simp)
        split at h
        ·cases m with
         | zero => cases h
         | succ k => exact op _ _ _ h
        ·split at h
         ·cases m with
          | zero => cases h
          | succ k => exact op _ _ _ h
         ·obtain ⟨p, hp, he⟩ := Option.map_eq_some_iff.1 h
          cases he
          have := numB_length (n := p.1) (q := p.2) hp
          exact .mk (by simp) this.2 (by simp) (by simp) (by simp)
  ·intro m kind e l ks r q v h hb1 hb2 hl
   simp only [lstD] at h
   split at h
   ·cases h
   ·rename_i ks' q' hk
    have hk' : ks'.length + q'.length ≤ b ∧ q'.length ≤ r.length := by
     split at hk
     ·obtain ⟨p, hp, he⟩ := Option.map_eq_some_iff.1 hk
      have := keyD_length (k := p.1) (q := p.2) hp
      cases he
      simp; omega
     ·cases hk; omega
    split at h
    ·cases h
    ·rename_i v' q2 hv
     have hq2 := (valD_length f).1 hv
     have hv' := ihv hv (by omega)
     have hl' : ∀ x ∈ l ++ [v'], Small b x := by
      intro x hx
      rcases List.mem_append.1 hx with hx | hx
      ·exact hl x hx
      ·rw [List.mem_singleton] at hx; subst hx; exact hv'
     have hs2 := skipB_length q2
     split at h
     ·cases h
      exact .mk (by simp) (by decide) (by simp; omega) (by omega) hl'
     ·split at h
      ·cases h
      ·rename_i q3 h3
       have := mustB_length h3
       exact ihl h (by simp; omega) (by omega) hl'
theorem parseD_small {l : Bytes} {v : JV} (h : parseD l = some v) : Small l.length v := by
 unfold parseD at h
 obtain ⟨⟨u, q⟩, hu, hq⟩ := Option.bind_eq_some_iff.1 h
 rw [behind_nil] at hq
 split at hq
 ·cases hq
  exact (valD_small _ _).1 hu (Nat.le_refl _)
 ·cases hq
end Go.Proofs.YtjehnejgojgahaaGreatDoor
