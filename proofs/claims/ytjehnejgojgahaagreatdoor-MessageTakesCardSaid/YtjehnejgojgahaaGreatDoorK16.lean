/-
  A part of the proof of MessageTakes: the texts E0.
-/
import Derived.Test.YtjehnejgojgahaaGreatDoorK01
import Derived.Lib.TrimByte
import Derived.Lib.Bytealg
namespace Go.Proofs.YtjehnejgojgahaaGreatDoor
set_option linter.unusedVariables false
set_option linter.unusedSimpArgs false
def letters64 : Bytes := [65, 66, 67, 68, 69, 70, 71, 72, 73, 74, 75, 76, 77, 78, 79, 80, 81, 82, 83, 84, 85, 86, 87, 88, 89, 90, 97, 98, 99, 100, 101, 102, 103, 104, 105, 106, 107, 108, 109, 110, 111, 112, 113, 114, 115, 116, 117, 118, 119, 120, 121, 122, 48, 49, 50, 51, 52, 53, 54, 55, 56, 57, 43, 47]
def let6 (n : Nat) : UInt8 := letters64.getD n 0
def dig (n k : Nat) : UInt8 := let6 (n / 2 ^ (18 - 6 * k) % 64)
def put64 : Bytes → Bytes
 | [] => []
 | [a] => [dig (a.toNat * 65536) 0, dig (a.toNat * 65536) 1, 61, 61]
 | [a, b] => [dig (a.toNat * 65536 + b.toNat * 256) 0, dig (a.toNat * 65536 + b.toNat * 256) 1, dig (a.toNat * 65536 + b.toNat * 256) 2, 61]
 | a :: b :: c :: t => dig (a.toNat * 65536 + b.toNat * 256 + c.toNat) 0 :: dig (a.toNat * 65536 + b.toNat * 256 + c.toNat) 1 :: dig (a.toNat * 65536 + b.toNat * 256 + c.toNat) 2 :: dig (a.toNat * 65536 + b.toNat * 256 + c.toNat) 3 :: put64 t
def body64 : Bytes → Bytes
 | [] => []
 | [a] => [dig (a.toNat * 65536) 0, dig (a.toNat * 65536) 1]
 | [a, b] => [dig (a.toNat * 65536 + b.toNat * 256) 0, dig (a.toNat * 65536 + b.toNat * 256) 1, dig (a.toNat * 65536 + b.toNat * 256) 2]
 | a :: b :: c :: t => dig (a.toNat * 65536 + b.toNat * 256 + c.toNat) 0 :: dig (a.toNat * 65536 + b.toNat * 256 + c.toNat) 1 :: dig (a.toNat * 65536 + b.toNat * 256 + c.toNat) 2 :: dig (a.toNat * 65536 + b.toNat * 256 + c.toNat) 3 :: body64 t
structure R64 where
 out : Bytes
 n : Nat
 many : Nat
def next64 (s : R64) (c : UInt8) : Option R64 :=
 if Lib.indexByte letters64 c < 0 then none
 else if (s.many + 1) % 4 ≠ 0 then some ⟨s.out, s.n * 64 + (Lib.indexByte letters64 c).toNat, s.many + 1⟩
 else some ⟨s.out ++ [((s.n * 64 + (Lib.indexByte letters64 c).toNat) / 65536).toUInt8, ((s.n * 64 + (Lib.indexByte letters64 c).toNat) / 256).toUInt8, (s.n * 64 + (Lib.indexByte letters64 c).toNat).toUInt8], 0, s.many + 1⟩
def bare64 : R64 → Bytes → Option R64
 | s, [] => some s
 | s, c :: t => (next64 s c).bind (bare64 · t)
def end64 (s : R64) : Bytes :=
 if s.many % 4 = 2 then s.out ++ [(s.n / 16).toUInt8] else if s.many % 4 = 3 then s.out ++ [(s.n / 1024).toUInt8, (s.n / 4).toUInt8] else s.out
def take64 (s : Bytes) : Option Bytes :=
 match bare64 ⟨[], 0, 0⟩ (Lib.trimRightB s 61) with
 | none => none
 | some r => if put64 (end64 r) = s then some (end64 r) else none
theorem index_let6 : ∀ k, k < 64 → Lib.indexByte letters64 (let6 k) = (k : Int) := by decide +kernel
theorem let6_ne : ∀ k, k < 64 → let6 k ≠ 61 := by decide +kernel
theorem dig_ne (n k : Nat) : dig n k ≠ 61 := let6_ne _ (Nat.mod_lt _ (by decide))
theorem next64_dig (o : Bytes) (n m N k : Nat) : next64 ⟨o, n, m⟩ (dig N k) = (if (m + 1) % 4 ≠ 0 then some ⟨o, n * 64 + N / 2 ^ (18 - 6 * k) % 64, m + 1⟩
  else some ⟨o ++ [((n * 64 + N / 2 ^ (18 - 6 * k) % 64) / 65536).toUInt8, ((n * 64 + N / 2 ^ (18 - 6 * k) % 64) / 256).toUInt8, (n * 64 + N / 2 ^ (18 - 6 * k) % 64).toUInt8], 0, m + 1⟩) := by
 have h := index_let6 (N / 2 ^ (18 - 6 * k) % 64) (Nat.mod_lt _ (by decide))
 unfold next64 dig
 rw [h]
 have h0 : ¬ ((N / 2 ^ (18 - 6 * k) % 64 : Nat) : Int) < 0 := by omega
 rw [if_neg h0]
 simp only [Int.toNat_natCast]
theorem body64_ne : ∀ (b : Bytes) x, x ∈ body64 b → x ≠ 61
 | [], x, h => by simp [body64] at h
 | [a], x, h => by
  simp only [body64, List.mem_cons, List.not_mem_nil, or_false] at h
  rcases h with rfl | rfl <;> exact dig_ne _ _
 | [a, b], x, h => by
  simp only [body64, List.mem_cons, List.not_mem_nil, or_false] at h
  rcases h with rfl | rfl | rfl <;> exact dig_ne _ _
 | a :: b :: c :: t, x, h => by
  simp only [body64, List.mem_cons] at h
  rcases h with rfl | rfl | rfl | rfl | h
  ·exact dig_ne _ _
  ·exact dig_ne _ _
  ·exact dig_ne _ _
  ·exact dig_ne _ _
  ·exact body64_ne t x h
theorem put64_body : ∀ b : Bytes, ∃ p, put64 b = body64 b ++ List.replicate p 61
 | [] => ⟨0, rfl⟩
 | [a] => ⟨2, rfl⟩
 | [a, b] => ⟨1, rfl⟩
 | a :: b :: c :: t => by
  obtain ⟨p, hp⟩ := put64_body t
  exact ⟨p, by simp [put64, body64, hp]⟩
theorem dropWhile_rep (p : Nat) (l : Bytes) : (List.replicate p (61 : UInt8) ++ l).dropWhile (· == 61) = l.dropWhile (· == 61) := by
 induction p with
 | zero => rfl
 | succ p ih => rw [List.replicate_succ, List.cons_append, List.dropWhile_cons]; exact ih
theorem trim_body (b : Bytes) : Lib.trimRightB (put64 b) 61 = body64 b := by
 obtain ⟨p, hp⟩ := put64_body b
 unfold Lib.trimRightB
 rw [hp, List.reverse_append, List.reverse_replicate, dropWhile_rep]
 have h : (body64 b).reverse.dropWhile (· == 61) = (body64 b).reverse := by
  have h2 : ∀ x, x ∈ (body64 b).reverse → x ≠ 61 := fun x hx => body64_ne b x (List.mem_reverse.1 hx)
  cases hl : (body64 b).reverse with
  | nil => rfl
  | cons x t => rw [hl] at h2; rw [List.dropWhile_cons]; simp [h2 x (by simp)]
 rw [h, List.reverse_reverse]
theorem u8_of64 {a n : Nat} {x : UInt8} (hx : x.toNat = a) (h : n % 256 = a) : n.toUInt8 = x := by
 apply UInt8.toNat_inj.1
 rw [hx, ← h]
 simp
theorem bare_body : ∀ (b out : Bytes) (m : Nat), m % 4 = 0 → ∃ r, bare64 ⟨out, 0, m⟩ (body64 b) = some r ∧ end64 r = out ++ b
 | [], out, m, hm => ⟨_, rfl, by unfold end64; simp [hm]⟩
 | [a], out, m, hm => by
  have ha := a.toNat_lt
  refine ⟨⟨out, a.toNat * 65536 / 2 ^ 18 % 64 * 64 + a.toNat * 65536 / 2 ^ 12 % 64, m + 1 + 1⟩, ?_, ?_⟩
  ·simp only [body64, bare64]
   rw [next64_dig, if_pos (by omega), Option.bind_some, next64_dig, if_pos (by omega), Option.bind_some]
   simp
  ·unfold end64
   simp only
   rw [if_pos (by omega), u8_of64 (x := a) rfl (by omega)]
 | [a, b], out, m, hm => by
  have ha := a.toNat_lt
  have hb := b.toNat_lt
  refine ⟨⟨out, ((a.toNat * 65536 + b.toNat * 256) / 2 ^ 18 % 64 * 64 + (a.toNat * 65536 + b.toNat * 256) / 2 ^ 12 % 64) * 64 + (a.toNat * 65536 + b.toNat * 256) / 2 ^ 6 % 64, m + 1 + 1 + 1⟩, ?_, ?_⟩
  ·simp only [body64, bare64]
   rw [next64_dig, if_pos (by omega), Option.bind_some, next64_dig, if_pos (by omega), Option.bind_some, next64_dig, if_pos (by omega), Option.bind_some]
   simp
  ·unfold end64
   simp only
   rw [if_neg (by omega), if_pos (by omega), u8_of64 (x := a) rfl (by omega), u8_of64 (x := b) rfl (by omega)]
 | a :: b :: c :: t, out, m, hm => by
  have ha := a.toNat_lt
  have hb := b.toNat_lt
  have hc := c.toNat_lt
  obtain ⟨r, hr, he⟩ := bare_body t (out ++ [a, b, c]) (m + 1 + 1 + 1 + 1) (by omega)
  refine ⟨r, ?_, by simpa using he⟩
  rw [← hr]
  simp only [body64, bare64]
  rw [next64_dig, if_pos (by omega), Option.bind_some, next64_dig, if_pos (by omega), Option.bind_some, next64_dig, if_pos (by omega), Option.bind_some, next64_dig, if_neg (by omega), Option.bind_some]
  rw [u8_of64 (x := a) rfl (by simp; omega), u8_of64 (x := b) rfl (by simp; omega), u8_of64 (x := c) rfl (by simp; omega)]
theorem take64_put64 (b : Bytes) : take64 (put64 b) = some b := by
 unfold take64
 rw [trim_body]
 obtain ⟨r, hr, he⟩ := bare_body b [] 0 rfl
 rw [hr]
 simp only
 rw [he, List.nil_append, if_pos rfl]
theorem take64_some {s b : Bytes} (h : take64 s = some b) : put64 b = s := by
 unfold take64 at h
 split at h
 ·simp at h
 ·split at h
  ·rename_i hp; simp only [Option.some.injEq] at h; rw [← h]; exact hp
  ·simp at h
theorem take64_iff {s b : Bytes} : take64 s = some b ↔ put64 b = s := ⟨take64_some, fun h => by rw [← h]; exact take64_put64 b⟩
theorem index_lt (l : Bytes) (c : UInt8) : Lib.indexByte l c < (l.length : Int) := by
 induction l with
 | nil => unfold Lib.indexByte; simp
 | cons b l ih =>
  unfold Lib.indexByte
  rw [List.length_cons]
  split
  ·omega
  ·split
   ·omega
   ·omega
theorem next64_small {s r : R64} {c : UInt8} (h : next64 s c = some r) (hn : s.n < 64 ^ (s.many % 4)) : r.n < 64 ^ (r.many % 4) ∧ r.many = s.many + 1 := by
 have hk := index_lt letters64 c
 have hlen : letters64.length = 64 := by decide
 rw [hlen] at hk
 unfold next64 at h
 split at h
 ·simp at h
 ·split at h
  ·rename_i h4
   simp only [Option.some.injEq] at h
   subst h
   refine ⟨?_, rfl⟩
   simp only
   rw [show (s.many + 1) % 4 = s.many % 4 + 1 by omega, Nat.pow_succ]
   omega
  ·simp only [Option.some.injEq] at h
   subst h
   exact ⟨Nat.pos_of_ne_zero (by simp), rfl⟩
theorem put64_length : ∀ b : Bytes, (put64 b).length = 4 * ((b.length + 2) / 3)
 | [] => rfl
 | [a] => by simp [put64]
 | [a, b] => by simp [put64]
 | a :: b :: c :: t => by
  simp only [put64, List.length_cons, put64_length t]
  omega
theorem let6_ascii : ∀ k, k < 64 → 32 ≤ (let6 k).toNat ∧ (let6 k).toNat < 128 ∧ let6 k ≠ 34 ∧ let6 k ≠ 92 := by decide +kernel
theorem dig_ascii (n k : Nat) : 32 ≤ (dig n k).toNat ∧ (dig n k).toNat < 128 ∧ dig n k ≠ 34 ∧ dig n k ≠ 92 := let6_ascii _ (Nat.mod_lt _ (by decide))
theorem body64_ascii : ∀ (b : Bytes) (x : UInt8), x ∈ body64 b → 32 ≤ x.toNat ∧ x.toNat < 128 ∧ x ≠ 34 ∧ x ≠ 92
 | [], x, h => by simp [body64] at h
 | [a], x, h => by
  simp only [body64, List.mem_cons, List.not_mem_nil, or_false] at h
  rcases h with rfl | rfl <;> exact dig_ascii _ _
 | [a, b], x, h => by
  simp only [body64, List.mem_cons, List.not_mem_nil, or_false] at h
  rcases h with rfl | rfl | rfl <;> exact dig_ascii _ _
 | a :: b :: c :: t, x, h => by
  simp only [body64, List.mem_cons] at h
  rcases h with rfl | rfl | rfl | rfl | h
  ·exact dig_ascii _ _
  ·exact dig_ascii _ _
  ·exact dig_ascii _ _
  ·exact dig_ascii _ _
  ·exact body64_ascii t x h
theorem put64_ascii (b : Bytes) (x : UInt8) (h : x ∈ put64 b) : 32 ≤ x.toNat ∧ x.toNat < 128 ∧ x ≠ 34 ∧ x ≠ 92 := by
 have h1 : 32 ≤ (61 : UInt8).toNat ∧ (61 : UInt8).toNat < 128 ∧ (61 : UInt8) ≠ 34 ∧ (61 : UInt8) ≠ 92 := by decide
 obtain ⟨p, hp⟩ := put64_body b
 rw [hp, List.mem_append] at h
 rcases h with h | h
 ·exact body64_ascii b x h
 ·rw [List.mem_replicate] at h
  rw [h.2]
  exact h1
end Go.Proofs.YtjehnejgojgahaaGreatDoor
