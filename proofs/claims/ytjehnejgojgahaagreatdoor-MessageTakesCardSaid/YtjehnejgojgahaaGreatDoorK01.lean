/-
  A part of the proof of MessageTakes: the texts S0 S1.
-/
namespace Go.Proofs.YtjehnejgojgahaaGreatDoor
set_option linter.unusedVariables false
set_option linter.unusedSimpArgs false
abbrev Bytes := List UInt8
def isBlank (x : UInt8) : Bool := x == 32 || x == 9 || x == 10 || x == 13
def skipB : Bytes → Bytes
 | [] => []
 | x :: r => if isBlank x then skipB r else x :: r
def hexD (x : UInt8) : Option Nat :=
 if 48 ≤ x.toNat ∧ x.toNat ≤ 57 then some (x.toNat - 48)
 else if 97 ≤ x.toNat ∧ x.toNat ≤ 102 then some (x.toNat - 87)
 else if 65 ≤ x.toNat ∧ x.toNat ≤ 70 then some (x.toNat - 55)
 else none
def hexN : Nat → Nat → Bytes → Option (Nat × Bytes)
 | 0, n, r => some (n, r)
 | _ + 1, _, [] => none
 | k + 1, n, x :: r => match hexD x with
  | some d => hexN k (16 * n + d) r
  | none => none
def mustB : Bytes → Bytes → Option Bytes
 | [], r => some r
 | _ :: _, [] => none
 | y :: s, x :: r => if x = y then mustB s r else none
theorem skipB_length (r : Bytes) : (skipB r).length ≤ r.length := by
 induction r with
 | nil => simp [skipB]
 | cons x r ih => unfold skipB; split <;> simp <;> omega
theorem skipB_idem (r : Bytes) : skipB (skipB r) = skipB r := by
 induction r with
 | nil => rfl
 | cons x r ih =>
  rw [skipB]
  split
  ·exact ih
  ·rw [skipB]; simp_all
theorem hexD_lt {x : UInt8} {d : Nat} (h : hexD x = some d) : d < 16 := by
 unfold hexD at h
 repeat' split at h
 all_goals simp at h
 all_goals omega
theorem hexN_lt {k : Nat} : ∀ {n m : Nat} {r s : Bytes}, hexN k n r = some (m, s) → m < (n + 1) * 16 ^ k ∧ s.length + k = r.length := by
 induction k with
 | zero => intro n m r s h; simp [hexN] at h; obtain ⟨rfl, rfl⟩ := h; simp
 | succ k ih =>
  intro n m r s h
  cases r with
  | nil => simp [hexN] at h
  | cons x r =>
   simp only [hexN] at h
   split at h
   ·rename_i d hd
    have := hexD_lt hd
    obtain ⟨h1, h2⟩ := ih h
    refine ⟨Nat.lt_of_lt_of_le h1 ?_, by simp; omega⟩
    have : (16 * n + d + 1) * 16 ^ k ≤ (16 * (n + 1)) * 16 ^ k := Nat.mul_le_mul_right _ (by omega)
    rw [Nat.pow_succ]
    calc _ ≤ _ := this
     _ = (n + 1) * (16 ^ k * 16) := by rw [Nat.mul_comm 16 (n + 1), Nat.mul_assoc, Nat.mul_comm 16]
   ·cases h
theorem mustB_length {s r q : Bytes} (h : mustB s r = some q) : q.length + s.length = r.length := by
 induction s generalizing r with
 | nil => simp [mustB] at h; subst h; simp
 | cons y s ih =>
  cases r with
  | nil => simp [mustB] at h
  | cons x r =>
   simp only [mustB] at h
   split at h
   ·have := ih h; simp; omega
   ·cases h
def isDig (x : UInt8) : Bool := decide (48 ≤ x.toNat ∧ x.toNat ≤ 57)
def big : Nat := 18446744073709551616
def dvFrom (n : Nat) (ds : Bytes) : Nat := ds.foldl (fun n x => 10 * n + (x.toNat - 48)) n
def dv (ds : Bytes) : Nat := dvFrom 0 ds
def numOk (ds : Bytes) : Bool := !(ds.isEmpty || (ds.head? == some 48 && decide (1 < ds.length)) || decide (big ≤ dv ds))
def numB (r : Bytes) : Option (Nat × Bytes) :=
 if numOk (r.takeWhile isDig) then some (dv (r.takeWhile isDig), r.dropWhile isDig) else none
theorem dvFrom_append (n : Nat) (a b : Bytes) : dvFrom n (a ++ b) = dvFrom (dvFrom n a) b := by unfold dvFrom; rw [List.foldl_append]
theorem dv_snoc (a : Bytes) (x : UInt8) : dv (a ++ [x]) = 10 * dv a + (x.toNat - 48) := by unfold dv; rw [dvFrom_append]; rfl
theorem span_of (ds r : Bytes) (h : ∀ x ∈ ds, isDig x = true) (hr : ∀ x, r.head? = some x → isDig x = false) :
  (ds ++ r).takeWhile isDig = ds ∧ (ds ++ r).dropWhile isDig = r := by
 induction ds with
 | nil =>
  cases r with
  | nil => exact ⟨rfl, rfl⟩
  | cons x r => have := hr x rfl; constructor <;> simp [this]
 | cons d ds ih =>
  have hd := h d (by simp)
  obtain ⟨h1, h2⟩ := ih (fun x hx => h x (by simp [hx]))
  constructor
  ·simp [hd, h1]
  ·simp [hd, h2]
theorem numB_of (ds r : Bytes) (h : ∀ x ∈ ds, isDig x = true) (hr : ∀ x, r.head? = some x → isDig x = false) :
  numB (ds ++ r) = if numOk ds then some (dv ds, r) else none := by
 obtain ⟨h1, h2⟩ := span_of ds r h hr
 unfold numB
 rw [h1, h2]
end Go.Proofs.YtjehnejgojgahaaGreatDoor
