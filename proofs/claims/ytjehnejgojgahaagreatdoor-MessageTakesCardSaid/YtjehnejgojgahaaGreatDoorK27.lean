/-
  A part of the proof of MessageTakes: the texts D0.
-/
import Derived.Test.YtjehnejgojgahaaGreatDoorK16
import Derived.Lib.IndexLaws
namespace Go.Proofs.YtjehnejgojgahaaGreatDoor
set_option linter.unusedVariables false
set_option linter.unusedSimpArgs false
def ix64 (c : UInt8) : Int := Lib.indexByte letters64 c
theorem ix64_let {k : Nat} (h : k < 64) : ix64 (let6 k) = k := index_let6 k h
theorem ix64_some {c : UInt8} (h : ¬ ix64 c < 0) : ∃ k : Nat, k < 64 ∧ ix64 c = k ∧ let6 k = c := by
 obtain ⟨k, hk⟩ : ∃ k : Nat, ix64 c = k := ⟨(ix64 c).toNat, by omega⟩
 have h1 := (Lib.indexByte_some (l := letters64) (c := c) (o := k) hk).1
 have h2 : k < 64 := by have := index_lt letters64 c; have h3 : Lib.indexByte letters64 c = k := hk; rw [h3, show letters64.length = 64 from rfl] at this; omega
 refine ⟨k, h2, hk, ?_⟩
 unfold let6
 rw [List.getD_eq_getElem?_getD, h1]; rfl
def bits6 (n : Nat) : List Nat := [n / 32 % 2, n / 16 % 2, n / 8 % 2, n / 4 % 2, n / 2 % 2, n % 2]
def bitsOf : Bytes → Option (List Nat)
 | [] => some []
 | c :: t => if ix64 c < 0 then none else (bitsOf t).map (bits6 (ix64 c).toNat ++ ·)
def byte8 (a b c d e f g h : Nat) : Nat := 2 * (2 * (2 * (2 * (2 * (2 * (2 * (2 * 0 + a) + b) + c) + d) + e) + f) + g) + h
def outOf : List Nat → Bytes × List Nat
 | a :: b :: c :: d :: e :: f :: g :: h :: t => ((byte8 a b c d e f g h).toUInt8 :: (outOf t).1, (outOf t).2)
 | l => ([], l)
def padR : Bytes → Nat
 | a :: b :: _ => if a = 61 then if b = 61 then 2 else 1 else 0
 | [a] => if a = 61 then 1 else 0
 | [] => 0
def padN (s : Bytes) : Nat := padR s.reverse
def restZ (l : List Nat) : Bool := l.all fun x => decide (x = 0)
def docB (s : Bytes) : Option Bytes := (bitsOf (s.take (s.length - padN s))).bind fun bs => if restZ (outOf bs).2 = true then some (outOf bs).1 else none
def docTake (s : Bytes) : Option Bytes := if s.length % 4 ≠ 0 then none else docB s
theorem padR_append {l m : Bytes} (h : 2 ≤ l.length) : padR (l ++ m) = padR l := by
 match l, h with
 | _ :: _ :: _, _ => rfl
theorem padR_le (l : Bytes) : padR l ≤ 2 := by
 match l with
 | [] => simp [padR]
 | [a] => simp only [padR]; split <;> omega
 | a :: b :: t => simp only [padR]; split <;> (try split) <;> omega
theorem padN_quad {a b c d : UInt8} {t : Bytes} (h : 2 ≤ t.length) : padN (a :: b :: c :: d :: t) = padN t := by
 unfold padN
 rw [show a :: b :: c :: d :: t = [a, b, c, d] ++ t from rfl, List.reverse_append, padR_append (by simpa using h)]
theorem take_quad {a b c d : UInt8} {t : Bytes} (h : 2 ≤ t.length) : (a :: b :: c :: d :: t).take ((a :: b :: c :: d :: t).length - padN (a :: b :: c :: d :: t)) = a :: b :: c :: d :: t.take (t.length - padN t) := by
 have := padR_le t.reverse
 rw [padN_quad h, show (a :: b :: c :: d :: t).length - padN t = (t.length - padN t) + 4 from by unfold padN; simp only [List.length_cons]; omega]
 rfl
def tri (i j k l : Nat) : Bytes := [(4 * i + j / 16).toUInt8, (16 * (j % 16) + k / 4).toUInt8, (64 * (k % 4) + l).toUInt8]
theorem out_quad {i j k l : Nat} (hi : i < 64) (hj : j < 64) (hk : k < 64) (hl : l < 64) (bs : List Nat) :
  outOf (bits6 i ++ (bits6 j ++ (bits6 k ++ (bits6 l ++ bs)))) = (tri i j k l ++ (outOf bs).1, (outOf bs).2) := by
 simp only [bits6, List.cons_append, List.nil_append, outOf, tri]
 congr 2
 ·congr 1; unfold byte8; omega
 ·congr 1
  ·congr 1; unfold byte8; omega
  ·congr 2; unfold byte8; omega
theorem docB_quad {a b c d : UInt8} {t : Bytes} (h : 2 ≤ t.length) : docB (a :: b :: c :: d :: t) =
  if ix64 a < 0 then none else if ix64 b < 0 then none else if ix64 c < 0 then none else if ix64 d < 0 then none
  else (docB t).map (tri (ix64 a).toNat (ix64 b).toNat (ix64 c).toNat (ix64 d).toNat ++ ·) := by
 unfold docB
 rw [take_quad h]
 simp only [bitsOf]
 by_cases ha : ix64 a < 0
 ·rw [if_pos ha, if_pos ha]; rfl
 by_cases hb : ix64 b < 0
 ·rw [if_neg ha, if_neg ha, if_pos hb, if_pos hb]; rfl
 by_cases hc : ix64 c < 0
 ·rw [if_neg ha, if_neg ha, if_neg hb, if_neg hb, if_pos hc, if_pos hc]; rfl
 by_cases hd : ix64 d < 0
 ·rw [if_neg ha, if_neg ha, if_neg hb, if_neg hb, if_neg hc, if_neg hc, if_pos hd, if_pos hd]; rfl
 rw [if_neg ha, if_neg ha, if_neg hb, if_neg hb, if_neg hc, if_neg hc, if_neg hd, if_neg hd]
 obtain ⟨i, hi, ei, _⟩ := ix64_some ha
 obtain ⟨j, hj, ej, _⟩ := ix64_some hb
 obtain ⟨k, hk, ek, _⟩ := ix64_some hc
 obtain ⟨l, hl, el, _⟩ := ix64_some hd
 rw [ei, ej, ek, el]
 simp only [Int.toNat_natCast]
 cases bitsOf (t.take (t.length - padN t)) with
 | none => rfl
 | some bs =>
  simp only [Option.map_some, Option.bind_some]
  rw [out_quad hi hj hk hl]
  simp only []
  split <;> rfl
theorem docB_nil : docB [] = some [] := by rfl
theorem padN4 (a b c d : UInt8) : padN [a, b, c, d] = if d = 61 then if c = 61 then 2 else 1 else 0 := rfl
theorem docB_full {a b c d : UInt8} (hd : d ≠ 61) : docB [a, b, c, d] =
  if ix64 a < 0 then none else if ix64 b < 0 then none else if ix64 c < 0 then none else if ix64 d < 0 then none
  else some (tri (ix64 a).toNat (ix64 b).toNat (ix64 c).toNat (ix64 d).toNat) := by
 unfold docB
 rw [padN4, if_neg hd]
 simp only [List.length_cons, List.length_nil, Nat.sub_zero, List.take_succ_cons, List.take_zero, bitsOf]
 by_cases ha : ix64 a < 0
 ·rw [if_pos ha, if_pos ha]; rfl
 by_cases hb : ix64 b < 0
 ·rw [if_neg ha, if_neg ha, if_pos hb, if_pos hb]; rfl
 by_cases hc : ix64 c < 0
 ·rw [if_neg ha, if_neg ha, if_neg hb, if_neg hb, if_pos hc, if_pos hc]; rfl
 by_cases hd : ix64 d < 0
 ·rw [if_neg ha, if_neg ha, if_neg hb, if_neg hb, if_neg hc, if_neg hc, if_pos hd, if_pos hd]; rfl
 rw [if_neg ha, if_neg ha, if_neg hb, if_neg hb, if_neg hc, if_neg hc, if_neg hd, if_neg hd]
 obtain ⟨i, hi, ei, _⟩ := ix64_some ha
 obtain ⟨j, hj, ej, _⟩ := ix64_some hb
 obtain ⟨k, hk, ek, _⟩ := ix64_some hc
 obtain ⟨l, hl, el, _⟩ := ix64_some hd
 rw [ei, ej, ek, el]
 simp only [Int.toNat_natCast, Option.map_some, Option.bind_some]
 rw [out_quad hi hj hk hl]
 rfl
theorem docB_three {a b c : UInt8} (hc : c ≠ 61) : docB [a, b, c, 61] =
  if ix64 a < 0 then none else if ix64 b < 0 then none else if ix64 c < 0 then none
  else if (ix64 c).toNat % 4 = 0 then some [(4 * (ix64 a).toNat + (ix64 b).toNat / 16).toUInt8, (16 * ((ix64 b).toNat % 16) + (ix64 c).toNat / 4).toUInt8] else none := by
 unfold docB
 rw [padN4, if_pos rfl, if_neg hc]
 simp only [List.length_cons, List.length_nil, List.take_succ_cons, List.take_zero, bitsOf]
 by_cases ha : ix64 a < 0
 ·rw [if_pos ha]; simp [bitsOf, ha]
 by_cases hb : ix64 b < 0
 ·rw [if_neg ha, if_pos hb]; simp [bitsOf, ha, hb]
 by_cases hc : ix64 c < 0
 ·rw [if_neg ha, if_neg hb, if_pos hc]; simp [bitsOf, ha, hb, hc]
 rw [if_neg ha, if_neg hb, if_neg hc]
 rw [if_neg ha, if_neg hb, if_neg hc]
 obtain ⟨i, hi, ei, _⟩ := ix64_some ha
 obtain ⟨j, hj, ej, _⟩ := ix64_some hb
 obtain ⟨k, hk, ek, _⟩ := ix64_some hc
 rw [ei, ej, ek]
 simp only [Int.toNat_natCast, Option.map_some, Option.bind_some, bits6, List.cons_append, List.nil_append, outOf, restZ, List.all_cons, List.all_nil, Bool.and_true, Bool.and_eq_true, decide_eq_true_eq]
 have e1 : byte8 (i / 32 % 2) (i / 16 % 2) (i / 8 % 2) (i / 4 % 2) (i / 2 % 2) (i % 2) (j / 32 % 2) (j / 16 % 2) = 4 * i + j / 16 := by unfold byte8; omega
 have e2 : byte8 (j / 8 % 2) (j / 4 % 2) (j / 2 % 2) (j % 2) (k / 32 % 2) (k / 16 % 2) (k / 8 % 2) (k / 4 % 2) = 16 * (j % 16) + k / 4 := by unfold byte8; omega
 rw [e1, e2]
 by_cases h4 : k % 4 = 0
 ·rw [if_pos (by omega), if_pos h4]
 ·rw [if_neg (by omega), if_neg h4]
theorem docB_two {a b : UInt8} : docB [a, b, 61, 61] =
  if ix64 a < 0 then none else if ix64 b < 0 then none
  else if (ix64 b).toNat % 16 = 0 then some [(4 * (ix64 a).toNat + (ix64 b).toNat / 16).toUInt8] else none := by
 unfold docB
 rw [padN4, if_pos rfl, if_pos rfl]
 simp only [List.length_cons, List.length_nil, List.take_succ_cons, List.take_zero, bitsOf]
 by_cases ha : ix64 a < 0
 ·rw [if_pos ha]; simp [bitsOf, ha]
 by_cases hb : ix64 b < 0
 ·rw [if_neg ha, if_pos hb]; simp [bitsOf, ha, hb]
 rw [if_neg ha, if_neg hb]
 rw [if_neg ha, if_neg hb]
 obtain ⟨i, hi, ei, _⟩ := ix64_some ha
 obtain ⟨j, hj, ej, _⟩ := ix64_some hb
 rw [ei, ej]
 simp only [Int.toNat_natCast, Option.map_some, Option.bind_some, bits6, List.cons_append, List.nil_append, outOf, restZ, List.all_cons, List.all_nil, Bool.and_true, Bool.and_eq_true, decide_eq_true_eq]
 have e1 : byte8 (i / 32 % 2) (i / 16 % 2) (i / 8 % 2) (i / 4 % 2) (i / 2 % 2) (i % 2) (j / 32 % 2) (j / 16 % 2) = 4 * i + j / 16 := by unfold byte8; omega
 rw [e1]
 by_cases h4 : j % 16 = 0
 ·rw [if_pos (by omega), if_pos h4]
 ·rw [if_neg (by omega), if_neg h4]
theorem ix64_dig (n k : Nat) : ix64 (dig n k) = ((n / 2 ^ (18 - 6 * k) % 64 : Nat) : Int) := ix64_let (Nat.mod_lt _ (by decide))
theorem ix64_dig_nn (n k : Nat) : ¬ ix64 (dig n k) < 0 := by rw [ix64_dig]; omega
theorem u8_cast {n : Nat} {x : UInt8} (h : n % 256 = x.toNat) : n.toUInt8 = x := u8_of64 rfl h
theorem doc_put : ∀ b : Bytes, docB (put64 b) = some b
 | [] => docB_nil
 | [a] => by
  have ha := a.toNat_lt
  simp only [put64]
  rw [docB_two, if_neg (ix64_dig_nn _ _), if_neg (ix64_dig_nn _ _), ix64_dig, ix64_dig]
  simp only [Int.toNat_natCast, Nat.reducePow, Nat.reduceMul, Nat.reduceSub]
  rw [if_pos (by omega), u8_cast (x := a) (by omega)]
 | [a, b] => by
  have ha := a.toNat_lt
  have hb := b.toNat_lt
  simp only [put64]
  rw [docB_three (dig_ne _ _), if_neg (ix64_dig_nn _ _), if_neg (ix64_dig_nn _ _), if_neg (ix64_dig_nn _ _), ix64_dig, ix64_dig, ix64_dig]
  simp only [Int.toNat_natCast, Nat.reducePow, Nat.reduceMul, Nat.reduceSub]
  rw [if_pos (by omega), u8_cast (x := a) (by omega), u8_cast (x := b) (by omega)]
 | a :: b :: c :: t => by
  have ha := a.toNat_lt
  have hb := b.toNat_lt
  have hc := c.toNat_lt
  have e : tri ((a.toNat * 65536 + b.toNat * 256 + c.toNat) / 2 ^ 18 % 64) ((a.toNat * 65536 + b.toNat * 256 + c.toNat) / 2 ^ 12 % 64) ((a.toNat * 65536 + b.toNat * 256 + c.toNat) / 2 ^ 6 % 64) ((a.toNat * 65536 + b.toNat * 256 + c.toNat) / 2 ^ 0 % 64) = [a, b, c] := by
   unfold tri
   rw [u8_cast (x := a) (by omega), u8_cast (x := b) (by omega), u8_cast (x := c) (by omega)]
  cases t with
  | nil =>
   simp only [put64]
   rw [docB_full (dig_ne _ _), if_neg (ix64_dig_nn _ _), if_neg (ix64_dig_nn _ _), if_neg (ix64_dig_nn _ _), if_neg (ix64_dig_nn _ _), ix64_dig, ix64_dig, ix64_dig, ix64_dig]
   simp only [Int.toNat_natCast]
   exact congrArg some e
  | cons x t =>
   rw [show put64 (a :: b :: c :: x :: t) = dig (a.toNat * 65536 + b.toNat * 256 + c.toNat) 0 :: dig (a.toNat * 65536 + b.toNat * 256 + c.toNat) 1 :: dig (a.toNat * 65536 + b.toNat * 256 + c.toNat) 2 :: dig (a.toNat * 65536 + b.toNat * 256 + c.toNat) 3 :: put64 (x :: t) from rfl]
   rw [docB_quad (by rw [put64_length]; simp only [List.length_cons]; omega), if_neg (ix64_dig_nn _ _), if_neg (ix64_dig_nn _ _), if_neg (ix64_dig_nn _ _), if_neg (ix64_dig_nn _ _), ix64_dig, ix64_dig, ix64_dig, ix64_dig, doc_put (x :: t)]
   simp only [Int.toNat_natCast, Option.map_some]
   exact congrArg (fun z => some (z ++ x :: t)) e
theorem let6_dig {c : UInt8} {i n k : Nat} (h : let6 i = c) (hn : n / 2 ^ (18 - 6 * k) % 64 = i) : dig n k = c := by unfold dig; rw [hn, h]
theorem doc_some : ∀ (n : Nat) (s b : Bytes), s.length ≤ n → s.length % 4 = 0 → docB s = some b → put64 b = s
 | n, [], b, _, _, h => by rw [docB_nil] at h; cases h; rfl
 | n, [_], b, _, h4, h => by simp at h4
 | n, [_, _], b, _, h4, h => by simp at h4
 | n, [_, _, _], b, _, h4, h => by simp at h4
 | n, [a, b, c, d], q, _, _, h => by
  by_cases hd : d = 61
  ·subst hd
   by_cases hc : c = 61
   ·subst hc
    rw [docB_two] at h
    split at h
    ·cases h
    split at h
    ·cases h
    split at h
    ·rename_i h1 h2 h3
     obtain ⟨i, hi, ei, li⟩ := ix64_some h1
     obtain ⟨j, hj, ej, lj⟩ := ix64_some h2
     rw [ei, ej] at h
     rw [ej] at h3
     simp only [Int.toNat_natCast] at h h3
     cases h
     simp only [put64]
     have e : (4 * i + j / 16).toUInt8.toNat = 4 * i + j / 16 := by simp; omega
     rw [e, let6_dig li (by simp; omega), let6_dig lj (by simp; omega)]
    ·cases h
   ·rw [docB_three hc] at h
    split at h
    ·cases h
    split at h
    ·cases h
    split at h
    ·cases h
    split at h
    ·rename_i h1 h2 h3 h5
     obtain ⟨i, hi, ei, li⟩ := ix64_some h1
     obtain ⟨j, hj, ej, lj⟩ := ix64_some h2
     obtain ⟨k, hk, ek, lk⟩ := ix64_some h3
     rw [ei, ej, ek] at h
     rw [ek] at h5
     simp only [Int.toNat_natCast] at h h5
     cases h
     simp only [put64]
     have e : (4 * i + j / 16).toUInt8.toNat = 4 * i + j / 16 := by simp; omega
     have e2 : (16 * (j % 16) + k / 4).toUInt8.toNat = 16 * (j % 16) + k / 4 := by simp; omega
     rw [e, e2, let6_dig li (by simp; omega), let6_dig lj (by simp; omega), let6_dig lk (by simp; omega)]
    ·cases h
  ·rw [docB_full hd] at h
   split at h
   ·cases h
   split at h
   ·cases h
   split at h
   ·cases h
   split at h
   ·cases h
   rename_i h1 h2 h3 h5
   obtain ⟨i, hi, ei, li⟩ := ix64_some h1
   obtain ⟨j, hj, ej, lj⟩ := ix64_some h2
   obtain ⟨k, hk, ek, lk⟩ := ix64_some h3
   obtain ⟨l, hl, el, ll⟩ := ix64_some h5
   rw [ei, ej, ek, el] at h
   simp only [Int.toNat_natCast] at h
   cases h
   simp only [put64, tri]
   have e : (4 * i + j / 16).toUInt8.toNat = 4 * i + j / 16 := by simp; omega
   have e2 : (16 * (j % 16) + k / 4).toUInt8.toNat = 16 * (j % 16) + k / 4 := by simp; omega
   have e3 : (64 * (k % 4) + l).toUInt8.toNat = 64 * (k % 4) + l := by simp; omega
   rw [e, e2, e3, let6_dig li (by simp; omega), let6_dig lj (by simp; omega), let6_dig lk (by simp; omega), let6_dig ll (by simp; omega)]
 | 0, a :: b :: c :: d :: x :: t, q, hn, _, _ => by simp at hn
 | n + 1, a :: b :: c :: d :: x :: t, q, hn, h4, h => by
  have h4t : (x :: t).length % 4 = 0 := by simp only [List.length_cons] at h4 ⊢; omega
  rw [docB_quad (by simp only [List.length_cons] at h4t ⊢; omega)] at h
  split at h
  ·cases h
  split at h
  ·cases h
  split at h
  ·cases h
  split at h
  ·cases h
  rename_i h1 h2 h3 h5
  obtain ⟨i, hi, ei, li⟩ := ix64_some h1
  obtain ⟨j, hj, ej, lj⟩ := ix64_some h2
  obtain ⟨k, hk, ek, lk⟩ := ix64_some h3
  obtain ⟨l, hl, el, ll⟩ := ix64_some h5
  rw [ei, ej, ek, el] at h
  simp only [Int.toNat_natCast] at h
  obtain ⟨p, hp, rfl⟩ := Option.map_eq_some_iff.1 h
  have hr := doc_some n (x :: t) p (by simp only [List.length_cons] at hn ⊢; omega) h4t hp
  simp only [tri, List.cons_append, List.nil_append, put64]
  have e : (4 * i + j / 16).toUInt8.toNat = 4 * i + j / 16 := by simp; omega
  have e2 : (16 * (j % 16) + k / 4).toUInt8.toNat = 16 * (j % 16) + k / 4 := by simp; omega
  have e3 : (64 * (k % 4) + l).toUInt8.toNat = 64 * (k % 4) + l := by simp; omega
  rw [e, e2, e3, let6_dig li (by simp; omega), let6_dig lj (by simp; omega), let6_dig lk (by simp; omega), let6_dig ll (by simp; omega), hr]
theorem docTake_eq (s : Bytes) : docTake s = take64 s := by
 have h1 : ∀ b, docTake s = some b ↔ take64 s = some b := by
  intro b
  rw [take64_iff]
  unfold docTake
  constructor
  ·intro h
   split at h
   ·cases h
   ·exact doc_some _ s b (Nat.le_refl _) (by omega) h
  ·rintro rfl
   rw [if_neg (by rw [put64_length]; omega)]
   exact doc_put b
 cases hd : docTake s with
 | none =>
  cases ht : take64 s with
  | none => rfl
  | some b => rw [(h1 b).2 ht] at hd; cases hd
 | some b => exact ((h1 b).1 hd).symm
end Go.Proofs.YtjehnejgojgahaaGreatDoor
