/-
  A part of the proof of MessageTakes: the texts D1 D2 D3.
-/
import Derived.Test.YtjehnejgojgahaaGreatDoorK02
import Derived.Test.YtjehnejgojgahaaGreatDoorK27
namespace Go.Proofs.YtjehnejgojgahaaGreatDoor
open Go.RowKit
set_option linter.unusedVariables false
set_option linter.unusedSimpArgs false
theorem let6_a : ∀ n, n < 26 → (let6 n).toNat = 65 + n := by decide +kernel
theorem let6_b : ∀ n, n < 52 → 26 ≤ n → (let6 n).toNat = 97 + n - 26 := by decide +kernel
theorem let6_c : ∀ n, n < 62 → 52 ≤ n → (let6 n).toNat = 48 + n - 52 := by decide +kernel
def SaysU8 (x : UInt8) (w : World) (e : Ending) (w' : World) : Prop := e = .returned (.int .u8 x.toNat) ∧ w' = w
set_option maxRecDepth 100000 in
set_option maxHeartbeats 1600000 in
theorem letter_any {n : Nat} {w : World} (h : n < 64) : Calls Tryz.prog 135 #[.int .i64 n] w (SaysU8 (let6 n) w) := by
 have hz : (n : Int) < 64 := by omega
 rcases Nat.lt_or_ge n 26 with h1 | h1
 ·have HE := Lib.hid (let6_a n h1)
  have q1 : decide ((n : Int) < 26) = true := by simp; omega
  have qz : (n : Int) < 26 := by omega
  clear h h1
  go_enter Tryz.func135, Tryz.ntmps135
  go_wp2
  go_ret
  refine ⟨?_, rfl⟩
  rw [HE.out]
  show Ending.returned (.int .u8 (65 + (n : Int))) = _
  congr 2
 have g1 : decide ((n : Int) < 26) = false := by simp; omega
 have f1 : ¬ (n : Int) < 26 := by omega
 rcases Nat.lt_or_ge n 52 with h2 | h2
 ·have HE := Lib.hid (let6_b n h2 h1)
  have q1 : decide ((n : Int) < 52) = true := by simp; omega
  have qz : (n : Int) < 52 := by omega
  clear h h1 h2
  go_enter Tryz.func135, Tryz.ntmps135
  go_wp2
  go_ret
  refine ⟨?_, rfl⟩
  rw [HE.out]
  show Ending.returned (.int .u8 (97 + (n : Int) - 26)) = _
  congr 2; omega
 have g2 : decide ((n : Int) < 52) = false := by simp; omega
 have f2 : ¬ (n : Int) < 52 := by omega
 rcases Nat.lt_or_ge n 62 with h3 | h3
 ·have HE := Lib.hid (let6_c n h3 h2)
  have q1 : decide ((n : Int) < 62) = true := by simp; omega
  have qz : (n : Int) < 62 := by omega
  clear h h1 h2 h3
  go_enter Tryz.func135, Tryz.ntmps135
  go_wp2
  go_ret
  refine ⟨?_, rfl⟩
  rw [HE.out]
  show Ending.returned (.int .u8 (48 + (n : Int) - 52)) = _
  congr 2; omega
 by_cases h4 : n = 62
 ·subst h4
  go_enter Tryz.func135, Tryz.ntmps135
  go_wp2
  go_ret
  exact ⟨rfl, rfl⟩
 ·obtain rfl : n = 63 := by omega
  go_enter Tryz.func135, Tryz.ntmps135
  go_wp2
  go_ret
  exact ⟨rfl, rfl⟩
theorem ix64_not {c : UInt8} (h : ∀ k, k < 64 → let6 k ≠ c) : ix64 c = -1 := by
 by_cases hn : ix64 c < 0
 ·have := Lib.indexByte_ge letters64 c
  unfold ix64 at hn ⊢; omega
 ·obtain ⟨k, hk, _, hl⟩ := ix64_some hn
  exact absurd hl (h k hk)
def SaysI (n : Int) (w : World) (e : Ending) (w' : World) : Prop := e = .returned (.int .i64 n) ∧ w' = w
set_option maxRecDepth 100000 in
set_option maxHeartbeats 1600000 in
theorem number64_any {c : UInt8} {w : World} : Calls Tryz.prog 116 #[.int .u8 c.toNat] w (SaysI (ix64 c) w) := by
 have hc := c.toNat_lt
 generalize hz : c.toNat = z at hc
 have HZ := Lib.hid hz
 clear hz
 go_enter Tryz.func116, Tryz.ntmps116
 go_wp2
 go_loopw [3] (fun s3 wr => ∃ n : Nat, n ≤ 64 ∧ s3 = .int .i64 (n : Int) ∧ (∀ k, k < n → let6 k ≠ c) ∧ wr = w) (fun i _ => 64 - (intOf i).toNat)
 case atStart => exact ⟨0, by omega, rfl, fun k hk => by omega, rfl⟩
 case round =>
  obtain ⟨n, hn, rfl, hno, hw⟩ := hrel
  obtain rfl := hw.symm
  have HNO := Lib.hid hno
  clear hno
  rcases Nat.lt_or_ge n 64 with hlt | hge
  ·have q : decide ((n : Int) < 64) = true := by simp; omega
   have qz : (n : Int) < 64 := by omega
   obtain ⟨y, hy⟩ : ∃ y, y = (let6 n).toNat := ⟨_, rfl⟩
   have HY := Lib.hid hy
   by_cases hyz : y = z
   ·have qe : ((y : Int) == (z : Int)) = true := by simp [hyz]
    go_wp2_with (go_at_call 135; refine (letter_any hlt).mono ?_; rintro e w2 ⟨rfl, rfl⟩; rw [← HY.out])
    go_ret
    refine ⟨?_, rfl⟩
    have e1 : let6 n = c := UInt8.toNat_inj.1 (by rw [← HY.out, hyz, HZ.out])
    rw [← e1, ix64_let hlt]; rfl
   ·have qe : ((y : Int) == (z : Int)) = false := by simp; omega
    have HNE := Lib.hid hyz
    go_wp2_with (go_at_call 135; refine (letter_any hlt).mono ?_; rintro e w2 ⟨rfl, rfl⟩; rw [← HY.out])
    go_roundw
    case rel =>
     refine ⟨n + 1, by omega, by push_cast; rfl, fun k hk => ?_, by first | rfl | trivial⟩
     rcases Nat.lt_or_ge k n with h | h
     ·exact HNO.out k h
     ·obtain rfl : k = n := by omega
      intro e
      exact HNE.out (by rw [HY.out, e, HZ.out])
    case measure => simp [intOf]; omega
  ·have q : decide ((n : Int) < 64) = false := by simp; omega
   obtain rfl : n = 64 := by omega
   go_wp2
   go_ret
   exact ⟨by rw [ix64_not HNO.out]; rfl, rfl⟩
def cellsI (l : List Nat) : List Value := l.map fun (x : Nat) => .int .i64 (x : Int)
def OwnI (w : World) (base : Nat) (v : Value) (l : List Nat) : Prop := w.ownsRow base 3 1 v l.length (cellsI l)
theorem OwnI.nil (w : World) (base : Nat) : OwnI w base (.slice none 0 0) [] := World.ownsRow_nil w base 3 1
theorem OwnI.form {w : World} {base : Nat} {v : Value} {l : List Nat} (h : OwnI w base v l) : ∃ A c, v = .slice A l.length c := by
 rcases h.2 with ⟨rfl, hn⟩ | ⟨g, cap, cur, rfl, _⟩
 ·exact ⟨none, 0, by rw [hn]⟩
 ·exact ⟨_, _, rfl⟩
theorem OwnI.only {w w' : World} {base : Nat} {v : Value} {l : List Nat} {G : Nat → Prop} (h : OwnI w base v l) (ho : Only G w w') (hne : ∀ k, v.ownBlock = some k → ¬ G k) : OwnI w' base v l := by
 refine ⟨h.1, ?_⟩
 rcases h.2 with hn | ⟨g, cap, cur, rfl, hb, hgg, rest⟩
 ·exact .inl hn
 ·refine .inr ⟨g, cap, cur, rfl, hb, ?_, rest⟩
  rw [ho.block g (Array.getElem?_eq_some_iff.1 hgg).1 (hne g rfl)]
  exact hgg
theorem OwnI.lt {w : World} {base : Nat} {v : Value} {l : List Nat} (h : OwnI w base v l) : ∀ k, v.ownBlock = some k → base ≤ k ∧ k < w.heap.size := World.ownsRow.lt h
theorem OwnI.cell {w : World} {base : Nat} {A : Option Addr} {n c : Nat} {l : List Nat} (h : OwnI w base (.slice A n c) l) : ∀ (i : Nat) (x : Nat), l[i]? = some x → ∃ g, A = some ⟨g, 0, none⟩ ∧ w.cell? ⟨g, i, none⟩ = some (.int .i64 x) := by
 intro i x hx
 have hi := (List.getElem?_eq_some_iff.1 hx).1
 rcases h.2 with ⟨e, hn⟩ | ⟨g, cap, cur, e, hb, hgg, _⟩
 ·omega
 ·cases e
  refine ⟨g, rfl, ?_⟩
  have := World.ownsRow.cells h (g := g) rfl i _ (show (cellsI l)[i]? = some (.int .i64 (x : Int)) by unfold cellsI; rw [List.getElem?_map, hx]; rfl)
  unfold Addr.add at this
  by_cases h0 : i = 0
  ·subst h0; simpa using this
  ·rw [if_neg h0] at this; simpa using this
theorem info3 : (Tryz.prog.info? 3).map (fun i => (i.zero, i.size, i.bytes)) = some (some (.int .i64 0), 1, 8) := by kernel_rfl
theorem under212 : Tryz.prog.underlying 212 = some (.slice 3) := by kernel_rfl
theorem wpList_append_int {ops : Array Oper} {rest : List Oper} {o : Oper} {a : Act} {w : World} {Q : Exit → Act → World → Prop} (hgd : o.guard = none) (s x : Operand) (ho : o.op = .call { callee := .builtin .append, args := #[s, x], argTypes := #[212, 212] })
  {base : Nat} {v : Value} {l : List Nat} (hs : a.eval s = v) (hown : OwnI w base v l) {ad : Addr} {c : Nat} {z : Int} (hx : a.eval x = .slice (some ad) 1 c)
  {y : Nat} (hz : z = y) (hnew : w.cell? ad = some (.int .i64 z)) (hlen : l.length + 1 ≤ 2 ^ 40) (hbase : base ≤ w.heap.size)
  (h : ∀ v' w', OwnI w' base v' (l ++ [y]) → w.grownBy w' v.ownBlock → wpList Tryz.prog ops Q rest (a.put o.dst v') w') : wpList Tryz.prog ops Q (o :: rest) a w := by
 obtain ⟨i0, hi, hz0, hz1, hz2⟩ := info_parts info3
 refine wpList_append_own w hgd s x 212 ho base 3 i0 (.int .i64 0) 1 8 under212 hi hz0 hz1 hz2 rfl (by decide) v l.length (cellsI l) hs hown ad 1 c [.int .i64 z] hx rfl ?_ ?_ ?_ ?_ hbase ?_
 ·intro j u hj
  cases j with
  | zero => simp at hj; subst hj; simpa [Addr.add] using hnew
  | succ j => simp at hj
 ·intro u hu; simp at hu; subst hu; rfl
 ·unfold maxLen; omega
 ·omega
 ·intro v' w' h1 h2 _
  refine h v' w' ?_ h2
  subst hz
  unfold OwnI
  simpa [cellsI] using h1
theorem pad_at {s : Bytes} {p : Nat} (h : p < padN s) : p < 2 ∧ p < s.length ∧ s[s.length - 1 - p]? = some 61 := by
 have key : p < 2 ∧ p < s.reverse.length ∧ s.reverse[p]? = some 61 := by
  unfold padN at h
  generalize s.reverse = r at h
  match r with
  | [] => simp [padR] at h
  | [a] =>
   simp only [padR] at h
   split at h
   ·rename_i ha; subst ha
    obtain rfl : p = 0 := by omega
    exact ⟨by omega, by simp, rfl⟩
   ·omega
  | a :: b :: t =>
   simp only [padR] at h
   split at h
   ·rename_i ha; subst ha
    split at h
    ·rename_i hb; subst hb
     have hp : p = 0 ∨ p = 1 := by omega
     rcases hp with rfl | rfl
     ·exact ⟨by omega, by simp, rfl⟩
     ·exact ⟨by omega, by simp, rfl⟩
    ·obtain rfl : p = 0 := by omega
     exact ⟨by omega, by simp, rfl⟩
   ·omega
 obtain ⟨h1, h2, h3⟩ := key
 rw [List.length_reverse] at h2
 rw [List.getElem?_reverse h2] at h3
 exact ⟨h1, h2, h3⟩
theorem pad_end {s : Bytes} (h1 : padN s < 2) (h2 : padN s < s.length) : ∃ x, s[s.length - 1 - padN s]? = some x ∧ x ≠ 61 := by
 have key : ∃ x, s.reverse[padN s]? = some x ∧ x ≠ 61 := by
  unfold padN at h1 ⊢
  rw [show s.length = s.reverse.length by simp] at h2
  unfold padN at h2
  generalize s.reverse = r at h1 h2 ⊢
  match r with
  | [] => simp [padR] at h2
  | [a] =>
   simp only [padR] at h2 ⊢
   split
   ·rename_i ha; rw [if_pos ha] at h2; simp at h2
   ·rename_i ha; exact ⟨a, rfl, ha⟩
  | a :: b :: t =>
   simp only [padR] at h1 ⊢
   split
   ·rename_i ha
    rw [if_pos ha] at h1
    split
    ·rename_i hb; rw [if_pos hb] at h1; omega
    ·rename_i hb; exact ⟨b, rfl, hb⟩
   ·rename_i ha; exact ⟨a, rfl, ha⟩
 obtain ⟨x, hx, hn⟩ := key
 rw [List.getElem?_reverse h2] at hx
 exact ⟨x, hx, hn⟩
theorem padN_le (s : Bytes) : padN s ≤ 2 := padR_le _
theorem bitsOf_snoc (l : Bytes) (c : UInt8) : bitsOf (l ++ [c]) = (bitsOf l).bind fun bs => if ix64 c < 0 then none else some (bs ++ bits6 (ix64 c).toNat) := by
 induction l with
 | nil =>
  simp only [List.nil_append, bitsOf, Option.bind_some]
  split <;> simp
 | cons a l ih =>
  simp only [List.cons_append, bitsOf]
  split
  ·rfl
  ·rw [ih]
   cases bitsOf l with
   | none => rfl
   | some bs =>
    simp only [Option.bind_some, Option.map_some]
    split
    ·rfl
    ·simp
theorem bitsOf_append_none {l m : Bytes} (h : bitsOf l = none) : bitsOf (l ++ m) = none := by
 induction l with
 | nil => simp [bitsOf] at h
 | cons a l ih =>
  simp only [List.cons_append, bitsOf] at h ⊢
  split at h
  ·rename_i ha; rw [if_pos ha]
  ·rename_i ha
   rw [if_neg ha]
   cases hb : bitsOf l with
   | none => rw [ih hb]; rfl
   | some bs => rw [hb] at h; simp at h
theorem bits6_lt (n : Nat) : ∀ x ∈ bits6 n, x < 2 := by
 intro x hx
 simp only [bits6, List.mem_cons, List.not_mem_nil, or_false] at hx
 rcases hx with rfl | rfl | rfl | rfl | rfl | rfl <;> omega
theorem bitsOf_lt : ∀ {l : Bytes} {bs : List Nat}, bitsOf l = some bs → (∀ x ∈ bs, x < 2) ∧ bs.length = 6 * l.length := by
 intro l
 induction l with
 | nil => intro bs h; cases h; exact ⟨by simp, rfl⟩
 | cons a l ih =>
  intro bs h
  simp only [bitsOf] at h
  split at h
  ·cases h
  ·obtain ⟨b2, hb2, rfl⟩ := Option.map_eq_some_iff.1 h
   obtain ⟨h1, h2⟩ := ih hb2
   refine ⟨fun x hx => ?_, by simp [bits6, h2]; omega⟩
   rcases List.mem_append.1 hx with h | h
   ·exact bits6_lt _ x h
   ·exact h1 x h
def valK (l : List Nat) (k : Nat) : Nat := (l.take k).foldl (fun x b => 2 * x + b) 0
theorem valK_succ {l : List Nat} {k b : Nat} (h : l[k]? = some b) : valK l (k + 1) = 2 * valK l k + b := by
 unfold valK
 rw [List.take_add_one, h, List.foldl_append]; rfl
theorem valK_lt {l : List Nat} (h : ∀ x ∈ l, x < 2) (k : Nat) : valK l k < 2 ^ k := by
 induction k with
 | zero => simp [valK]
 | succ k ih =>
  cases hb : l[k]? with
  | none =>
   have : valK l (k + 1) = valK l k := by unfold valK; rw [List.take_add_one, hb]; simp
   rw [this, Nat.pow_succ]; omega
  | some b =>
   rw [valK_succ hb, Nat.pow_succ]
   have := h b (List.mem_of_getElem? hb)
   omega
theorem outOf_spec : ∀ (n : Nat) (l : List Nat), l.length ≤ n → (outOf l).1.length = l.length / 8 ∧ (outOf l).2 = l.drop (8 * (l.length / 8)) ∧
  ∀ m, m < l.length / 8 → (outOf l).1[m]? = some (valK ((l.drop (8 * m)).take 8) 8).toUInt8 := by
 intro n
 induction n with
 | zero =>
  intro l h
  obtain rfl : l = [] := List.length_eq_zero_iff.1 (by omega)
  exact ⟨rfl, rfl, fun m hm => by simp at hm⟩
 | succ n ih =>
  intro l h
  match l with
  | a :: b :: c :: d :: e :: f :: g :: i :: t =>
   simp only [List.length_cons] at h ⊢
   obtain ⟨h1, h2, h3⟩ := ih t (by omega)
   have hd : (t.length + 1 + 1 + 1 + 1 + 1 + 1 + 1 + 1) / 8 = t.length / 8 + 1 := by omega
   rw [hd]
   simp only [outOf]
   refine ⟨by simp [h1], ?_, ?_⟩
   ·rw [h2, show 8 * (t.length / 8 + 1) = 8 * (t.length / 8) + 8 by omega]
    rfl
   ·intro m hm
    cases m with
    | zero => rfl
    | succ m =>
     rw [List.getElem?_cons_succ, h3 m (by omega), show 8 * (m + 1) = 8 * m + 8 by omega]
     rfl
  | [] => exact ⟨rfl, rfl, fun m hm => by simp at hm⟩
  | [_] => exact ⟨by simp [outOf], by simp [outOf], fun m hm => by simp at hm⟩
  | [_, _] => exact ⟨by simp [outOf], by simp [outOf], fun m hm => by simp at hm⟩
  | [_, _, _] => exact ⟨by simp [outOf], by simp [outOf], fun m hm => by simp at hm⟩
  | [_, _, _, _] => exact ⟨by simp [outOf], by simp [outOf], fun m hm => by simp at hm⟩
  | [_, _, _, _, _] => exact ⟨by simp [outOf], by simp [outOf], fun m hm => by simp at hm⟩
  | [_, _, _, _, _, _] => exact ⟨by simp [outOf], by simp [outOf], fun m hm => by simp at hm⟩
  | [_, _, _, _, _, _, _] => exact ⟨by simp [outOf], by simp [outOf], fun m hm => by simp at hm⟩
def D64At (s : Bytes) (w : World) (e : Ending) (w' : World) : Prop :=
 Only (fun _ => False) w w' ∧ match docTake s with
 | none => e = .returned (.tuple #[.slice none 0 0, .int .i64 5])
 | some l => ∃ A c, e = .returned (.tuple #[.slice A l.length c, .int .i64 0]) ∧ BytesAt w' A l ∧ l.length ≤ c ∧ l.length ≤ s.length ∧ ∀ b o, A = some ⟨b, o, none⟩ → w.heap.size ≤ b
theorem D64At.no {s : Bytes} {w w' : World} (h : docTake s = none) (ho : Only (fun _ => False) w w') : D64At s w (.returned (.tuple #[.slice none 0 0, .int .i64 5])) w' := ⟨ho, by rw [h]⟩
structure BMid (w : World) (s : Bytes) (j : Nat) (v : Value) (wr : World) : Prop where
 only : Only (fun _ => False) w wr
 bits : ∃ bs, bitsOf (s.take j) = some bs ∧ OwnI wr w.heap.size v bs
theorem docB_none {s : Bytes} {L j : Nat} {c : UInt8} {bs : List Nat} (hL : L = s.length - padN s) (hj : j < L) (hc : s[j]? = some c) (hb : bitsOf (s.take j) = some bs) (hx : ix64 c < 0) : docB s = none := by
 unfold docB
 rw [← hL]
 have e : s.take L = s.take j ++ [c] ++ (s.take L).drop (j + 1) := by
  have h1 : (s.take L).take (j + 1) = s.take j ++ [c] := by
   rw [List.take_take, Nat.min_eq_left (by omega), List.take_add_one, hc]; rfl
  rw [← h1, List.take_append_drop]
 have h2 : bitsOf (s.take j ++ [c]) = none := by rw [bitsOf_snoc, hb, Option.bind_some, if_pos hx]
 rw [e, bitsOf_append_none h2]; rfl
theorem txt_at {s : Bytes} {j : Nat} {c : UInt8} (h : s[j]? = some c) : ∃ hj : j < (⟨s.toArray⟩ : ByteArray).size, (⟨s.toArray⟩ : ByteArray)[j]'hj = c := by
 have hlt := (List.getElem?_eq_some_iff.1 h).1
 have hjz : j < (⟨s.toArray⟩ : ByteArray).size := by show j < s.toArray.size; simpa using hlt
 refine ⟨hjz, ?_⟩
 have : s[j]? = some s[j] := List.getElem?_eq_getElem hlt
 rw [h] at this
 simp only [Option.some.injEq] at this
 rw [this]; rfl
theorem bitAnd : ∀ k, k < 64 → ∀ d, d < 6 → bits .and .i64 ((k / 2 ^ d : Nat) : Int) 1 = ((k / 2 ^ d % 2 : Nat) : Int) := by decide +kernel
theorem bitAnds {k : Nat} (hk : k < 64) : bits .and .i64 ((k : Int) / 32) 1 = ((k / 32 % 2 : Nat) : Int) ∧ bits .and .i64 ((k : Int) / 16) 1 = ((k / 16 % 2 : Nat) : Int) ∧ bits .and .i64 ((k : Int) / 8) 1 = ((k / 8 % 2 : Nat) : Int) ∧
  bits .and .i64 ((k : Int) / 4) 1 = ((k / 4 % 2 : Nat) : Int) ∧ bits .and .i64 ((k : Int) / 2) 1 = ((k / 2 % 2 : Nat) : Int) ∧ bits .and .i64 (k : Int) 1 = ((k % 2 : Nat) : Int) := by
 have h := bitAnd k hk
 refine ⟨h 5 (by decide), h 4 (by decide), h 3 (by decide), h 2 (by decide), h 1 (by decide), ?_⟩
 have := h 0 (by decide)
 simpa using this
theorem OwnI.alloc {w : World} {base : Nat} {v : Value} {l : List Nat} (h : OwnI w base v l) (o : Obj) : OwnI (w.alloc o) base v l := World.ownsRow.alloc h o
theorem docB_bits {s : Bytes} {L : Nat} {bs : List Nat} (hL : L = s.length - padN s) (hb : bitsOf (s.take L) = some bs) : docB s = if restZ (outOf bs).2 = true then some (outOf bs).1 else none := by
 unfold docB
 rw [← hL, hb, Option.bind_some]
theorem rest_no {bs : List Nat} {i b : Nat} (h8 : 8 * (bs.length / 8) ≤ i) (hb : bs[i]? = some b) (hn : b ≠ 0) : ¬ restZ (outOf bs).2 = true := by
 intro h
 rw [(outOf_spec _ bs (Nat.le_refl _)).2.1] at h
 unfold restZ at h
 rw [List.all_eq_true] at h
 have hm : b ∈ bs.drop (8 * (bs.length / 8)) := by
  refine List.mem_of_getElem? (i := i - 8 * (bs.length / 8)) ?_
  rw [List.getElem?_drop, show 8 * (bs.length / 8) + (i - 8 * (bs.length / 8)) = i by omega, hb]
 have := h b hm
 simp at this
 exact hn this
theorem rest_yes {bs : List Nat} (h : ∀ i, 8 * (bs.length / 8) ≤ i → i < bs.length → bs[i]? = some 0) : restZ (outOf bs).2 = true := by
 rw [(outOf_spec _ bs (Nat.le_refl _)).2.1]
 unfold restZ
 rw [List.all_eq_true]
 intro x hx
 obtain ⟨i, hi⟩ := List.getElem?_of_mem hx
 rw [List.getElem?_drop] at hi
 have hlt := (List.getElem?_eq_some_iff.1 hi).1
 have := h _ (by omega) hlt
 rw [this] at hi
 simp at hi
 simp [hi]
theorem OwnB.capD {w : World} {base : Nat} {A : Option Addr} {n c : Nat} {l : Bytes} (h : OwnB w base (.slice A n c) l) : l.length ≤ c := by
 rcases h.2 with ⟨e, hn⟩ | ⟨g, cap, cur, e, hb, hgg, hf, hc, _⟩
 ·cases e; rw [hn]; exact Nat.le_refl _
 ·cases e; omega
theorem OwnI.cell2 {w : World} {base : Nat} {A : Option Addr} {n c : Nat} {l : List Nat} (h : OwnI w base (.slice A n c) l) (i : Nat) (x : Nat) (hx : l[i]? = some x) : ∃ g o, A = some ⟨g, o, none⟩ ∧ w.cell? ⟨g, o + i, none⟩ = some (.int .i64 x) := by
 obtain ⟨g, e, hc⟩ := h.cell i x hx
 exact ⟨g, 0, e, by rw [Nat.zero_add]; exact hc⟩
theorem D64At.yes {s l : Bytes} {w w' : World} {A : Option Addr} {n c H : Nat} (h : docTake s = some l) (ho : Only (fun _ => False) w w') (hown : OwnB w' H (.slice A n c) l) (hH : w.heap.size ≤ H) (hl : l.length ≤ s.length) :
  D64At s w (.returned (.tuple #[.slice A n c, .int .i64 0])) w' := by
 obtain ⟨rfl, hb⟩ := hown.bytes
 refine ⟨ho, ?_⟩
 rw [h]
 refine ⟨A, c, rfl, hb, hown.capD, hl, ?_⟩
 intro b o e
 subst e
 rcases hown.2 with ⟨e, _⟩ | ⟨g, cap, cur, e, h1, _⟩
 ·cases e
 ·cases e; omega
set_option maxRecDepth 100000 in
set_option maxHeartbeats 3200000 in
theorem take_doc {s : Bytes} {w : World} (hl : s.length ≤ 3000000) : Calls Tryz.prog 94 #[.string ⟨s.toArray⟩] w (D64At s w) := by
 have HL := Lib.hid hl
 have hlz : (s.length : Int) ≤ 3000000 := by omega
 by_cases h4 : s.length % 4 = 0
 ·have HT := Lib.hid (show docTake s = docB s by unfold docTake; rw [if_neg (by omega)])
  have q4 : ((s.length : Int) % 4 != 0) = false := by simp; omega
  have q4n : (s.length : Int) % 4 = 0 := by omega
  obtain ⟨L, hL⟩ : ∃ L, L = s.length - padN s := ⟨_, rfl⟩
  have hpl : padN s ≤ s.length := by
   rcases Nat.lt_or_ge s.length (padN s) with h | h
   ·have := (pad_at h).2.1; omega
   ·exact h
  have HL0 := Lib.hid hL
  have HPL0 := Lib.hid hpl
  have HLL1 := Lib.hid (show L ≤ s.length by omega)
  clear hl h4 hL hpl
  go_enter Tryz.func94, Tryz.ntmps94
  go_wp2
  go_loopw [4] (fun s4 wr => ∃ p : Nat, p ≤ padN s ∧ s4 = .int .i64 (p : Int) ∧ wr = w) (fun i _ => 2 - (intOf i).toNat)
  case atStart => exact ⟨0, by omega, rfl, rfl⟩
  case round =>
   obtain ⟨p, hp, rfl, hw⟩ := hrel
   obtain rfl := hw.symm
   have hp2 := padN_le s
   rcases Nat.lt_or_ge p (padN s) with hlt | hge
   ·obtain ⟨p2, pl, pe⟩ := pad_at hlt
    have q1 : decide ((p : Int) < 2) = true := by simp; omega
    have q2 : decide ((p : Int) < (s.length : Int)) = true := by simp; omega
    have q2z : (p : Int) < (s.length : Int) := by omega
    obtain ⟨m, hm⟩ : ∃ m, m = s.length - 1 - p := ⟨_, rfl⟩
    have hidx : (s.length : Int) - 1 - (p : Int) = (m : Int) := by omega
    rw [← hm] at pe
    obtain ⟨hms, hme⟩ := txt_at pe
    have HLT := Lib.hid hlt
    clear hlt hm pe hp2
    go_wp2
    go_roundw
    case rel => exact ⟨p + 1, by have := HLT.out; omega, by push_cast; rfl, by first | rfl | trivial⟩
    case measure => simp [intOf]; omega
   ·obtain rfl : p = padN s := by omega
    have hend := @pad_end s
    have HLL := HL0
    have HPL := HPL0
    generalize padN s = p0 at hp2 hend HLL HPL ⊢
    clear hge hp
    have hlp : (s.length : Int) - (p0 : Int) = (L : Int) := by have := HLL.out; have := HPL.out; omega
    have hc : p0 = 2 ∨ (p0 < 2 ∧ p0 = s.length) ∨ (p0 < 2 ∧ p0 < s.length) := by have := HPL.out; omega
    rcases hc with h | ⟨h, h'⟩ | ⟨h, h'⟩
    all_goals
     first
      | (have q1 : decide ((p0 : Int) < 2) = false := (by simp; omega)
         have q1z : ¬ (p0 : Int) < 2 := (by omega)
         clear h hend)
      | (have q1 : decide ((p0 : Int) < 2) = true := (by simp; omega)
         have q1z : (p0 : Int) < 2 := (by omega)
         have q2 : decide ((p0 : Int) < (s.length : Int)) = false := (by simp; omega)
         have q2z : ¬ (p0 : Int) < (s.length : Int) := (by omega)
         clear h h' hend)
      | (have q1 : decide ((p0 : Int) < 2) = true := (by simp; omega)
         have q1z : (p0 : Int) < 2 := (by omega)
         have q2 : decide ((p0 : Int) < (s.length : Int)) = true := (by simp; omega)
         have q2z : (p0 : Int) < (s.length : Int) := (by omega)
         obtain ⟨m, hm⟩ : ∃ m, m = s.length - 1 - p0 := ⟨_, rfl⟩
         have hidx : (s.length : Int) - 1 - (p0 : Int) = (m : Int) := (by omega)
         obtain ⟨x, hx, hxn⟩ := hend h h'
         rw [← hm] at hx
         obtain ⟨hms, hme⟩ := txt_at hx
         have hx6 : ((x.toNat : Int) == 61) = false := (by
          simp
          intro e
          exact hxn (UInt8.toNat_inj.1 (by show x.toNat = 61; omega)))
         clear hm hx hxn hend h h')
     go_wp2
     try clear hidx hms hme hx6 m x
     try clear q2 q2z
     clear q1 q1z q4 q4n hp2
     go_loopw [5, 6] (fun s5 s6 wr => ∃ j : Nat, j ≤ L ∧ s6 = .int .i64 (j : Int) ∧ BMid w s j s5 wr) (fun _ i _ => L - (intOf i).toNat)
     case atStart => exact ⟨0, by omega, rfl, Only.refl _ _, [], rfl, OwnI.nil _ _⟩
     case round =>
      obtain ⟨j, hj, rfl, ho, bs, hbs, hown⟩ := hrel
      obtain ⟨A5, c5, rfl⟩ := hown.form
      have HBS := Lib.hid hbs
      have HO := Lib.hid ho
      have HOWN := Lib.hid hown
      have HBL := Lib.hid (show bs.length ≤ 18000000 by have := (bitsOf_lt hbs).2; have h2 : (s.take j).length ≤ s.length := (by rw [List.length_take]; exact Nat.min_le_right _ _); have := HL.out; omega)
      clear hbs ho hown
      rcases Nat.lt_or_ge j L with hlt | hge
      ·have hjs : j < s.length := by have := HLL1.out; omega
       obtain ⟨c, hc⟩ : ∃ c, s[j]? = some c := ⟨s[j], List.getElem?_eq_getElem hjs⟩
       obtain ⟨hj1, hj2⟩ := txt_at hc
       have q : decide ((j : Int) < (L : Int)) = true := by simp; omega
       have qz : (j : Int) < (L : Int) := by omega
       have HLT := Lib.hid hlt
       have HC := Lib.hid hc
       clear hc hlt
       by_cases hix : ix64 c < 0
       ·have qn : decide (ix64 c < 0) = true := by simpa using hix
        have HN := Lib.hid (show docTake s = none from by
         rw [HT.out]
         exact docB_none HL0.out HLT.out HC.out HBS.out hix)
        go_wp2_with (go_at_call 116; refine number64_any.mono ?_; rintro e w2 ⟨rfl, rfl⟩)
        go_ret2
        exact D64At.no HN.out HO.out
       ·obtain ⟨k, hk, ek, lk⟩ := ix64_some hix
        have EK := Lib.hid ek
        have HNN := Lib.hid hix
        obtain ⟨b5, b4, b3, b2, b1, b0⟩ := bitAnds hk
        have qn : decide ((k : Int) < 0) = false := by simp
        have hkz : (k : Int) < 64 := by omega
        clear hix ek lk
        go_wp2_with (go_at_call 116; refine number64_any.mono ?_; rintro e w2 ⟨rfl, rfl⟩; rw [EK.out])
        go_loopw [5, 8] (fun s5 s8 w3 => ∃ m : Nat, m ≤ 6 ∧ s8 = .int .i64 (5 - (m : Int)) ∧ OwnI w3 w.heap.size s5 (bs ++ (bits6 k).take m) ∧ Only (fun _ => False) w w3) (fun _ i _ => (intOf i + 1).toNat)
        case atStart => exact ⟨0, by omega, rfl, by simpa using HOWN.out, HO.out⟩
        case round =>
         obtain ⟨m, hm, rfl, hown3, ho3⟩ := hrel
         obtain ⟨A3, c3, rfl⟩ := hown3.form
         have HO3 := Lib.hid ho3
         have HOWN3 := Lib.hid hown3
         have HLEN3 := Lib.hid (show (bs ++ (bits6 k).take m).length + 1 ≤ 2 ^ 40 by have := HBL.out; simp [bits6]; omega)
         clear ho3 hown3
         rcases Nat.lt_or_ge m 6 with hm6 | hm6
         ·have hmc : m = 0 ∨ m = 1 ∨ m = 2 ∨ m = 3 ∨ m = 4 ∨ m = 5 := by omega
          rcases hmc with rfl | rfl | rfl | rfl | rfl | rfl
          ·go_wp2_with (refine wpList_append_int (y := (k / 32 % 2)) rfl (.tmp 56) (.tmp 62) rfl rfl (HOWN3.out.alloc _) rfl (by first | exact b5 | rfl) (cell_new_at _ _ _ _ rfl) HLEN3.out (by have := HO3.out.size; simp; omega) ?_; intro v' w5 hown hgr; have ho5 := ((HO3.out.alloc (.cells #[.int .i64 ((k / 32 % 2) : Nat)] 3)).grown hgr (fun k hk hb => by have := (HOWN3.out.lt k hk).1; omega)); have HO5 := Lib.hid ho5; have HOWN5 := Lib.hid hown; clear hown hgr ho5)
           go_roundw
           case rel => exact ⟨1, by omega, by first | rfl | simp, by simpa [bits6] using HOWN5.out, HO5.out⟩
           case measure => simp [intOf]
          ·go_wp2_with (refine wpList_append_int (y := (k / 16 % 2)) rfl (.tmp 56) (.tmp 62) rfl rfl (HOWN3.out.alloc _) rfl (by first | exact b4 | rfl) (cell_new_at _ _ _ _ rfl) HLEN3.out (by have := HO3.out.size; simp; omega) ?_; intro v' w5 hown hgr; have ho5 := ((HO3.out.alloc (.cells #[.int .i64 ((k / 16 % 2) : Nat)] 3)).grown hgr (fun k hk hb => by have := (HOWN3.out.lt k hk).1; omega)); have HO5 := Lib.hid ho5; have HOWN5 := Lib.hid hown; clear hown hgr ho5)
           go_roundw
           case rel => exact ⟨2, by omega, by first | rfl | simp, by simpa [bits6] using HOWN5.out, HO5.out⟩
           case measure => simp [intOf]
          ·go_wp2_with (refine wpList_append_int (y := (k / 8 % 2)) rfl (.tmp 56) (.tmp 62) rfl rfl (HOWN3.out.alloc _) rfl (by first | exact b3 | rfl) (cell_new_at _ _ _ _ rfl) HLEN3.out (by have := HO3.out.size; simp; omega) ?_; intro v' w5 hown hgr; have ho5 := ((HO3.out.alloc (.cells #[.int .i64 ((k / 8 % 2) : Nat)] 3)).grown hgr (fun k hk hb => by have := (HOWN3.out.lt k hk).1; omega)); have HO5 := Lib.hid ho5; have HOWN5 := Lib.hid hown; clear hown hgr ho5)
           go_roundw
           case rel => exact ⟨3, by omega, by first | rfl | simp, by simpa [bits6] using HOWN5.out, HO5.out⟩
           case measure => simp [intOf]
          ·go_wp2_with (refine wpList_append_int (y := (k / 4 % 2)) rfl (.tmp 56) (.tmp 62) rfl rfl (HOWN3.out.alloc _) rfl (by first | exact b2 | rfl) (cell_new_at _ _ _ _ rfl) HLEN3.out (by have := HO3.out.size; simp; omega) ?_; intro v' w5 hown hgr; have ho5 := ((HO3.out.alloc (.cells #[.int .i64 ((k / 4 % 2) : Nat)] 3)).grown hgr (fun k hk hb => by have := (HOWN3.out.lt k hk).1; omega)); have HO5 := Lib.hid ho5; have HOWN5 := Lib.hid hown; clear hown hgr ho5)
           go_roundw
           case rel => exact ⟨4, by omega, by first | rfl | simp, by simpa [bits6] using HOWN5.out, HO5.out⟩
           case measure => simp [intOf]
          ·go_wp2_with (refine wpList_append_int (y := (k / 2 % 2)) rfl (.tmp 56) (.tmp 62) rfl rfl (HOWN3.out.alloc _) rfl (by first | exact b1 | rfl) (cell_new_at _ _ _ _ rfl) HLEN3.out (by have := HO3.out.size; simp; omega) ?_; intro v' w5 hown hgr; have ho5 := ((HO3.out.alloc (.cells #[.int .i64 ((k / 2 % 2) : Nat)] 3)).grown hgr (fun k hk hb => by have := (HOWN3.out.lt k hk).1; omega)); have HO5 := Lib.hid ho5; have HOWN5 := Lib.hid hown; clear hown hgr ho5)
           go_roundw
           case rel => exact ⟨5, by omega, by first | rfl | simp, by simpa [bits6] using HOWN5.out, HO5.out⟩
           case measure => simp [intOf]
          ·go_wp2_with (refine wpList_append_int (y := (k % 2)) rfl (.tmp 56) (.tmp 62) rfl rfl (HOWN3.out.alloc _) rfl (by first | exact b0 | rfl) (cell_new_at _ _ _ _ rfl) HLEN3.out (by have := HO3.out.size; simp; omega) ?_; intro v' w5 hown hgr; have ho5 := ((HO3.out.alloc (.cells #[.int .i64 ((k % 2) : Nat)] 3)).grown hgr (fun k hk hb => by have := (HOWN3.out.lt k hk).1; omega)); have HO5 := Lib.hid ho5; have HOWN5 := Lib.hid hown; clear hown hgr ho5)
           go_roundw
           case rel => exact ⟨6, by omega, by first | rfl | simp, by simpa [bits6] using HOWN5.out, HO5.out⟩
           case measure => simp [intOf]
         ·obtain rfl : m = 6 := by omega
          go_wp2
          go_roundw
          case rel =>
           refine ⟨j + 1, by have := HLT.out; omega, by push_cast; rfl, HO3.out, bs ++ bits6 k, ?_, ?_⟩
           ·rw [List.take_add_one, HC.out]
            show bitsOf (s.take j ++ [c]) = _
            rw [bitsOf_snoc, HBS.out, Option.bind_some, if_neg (by have := HNN.out; omega), EK.out]; rfl
           ·exact HOWN3.out
          case measure => have := HLT.out; simp [intOf]; omega
      ·have q : decide ((j : Int) < (L : Int)) = false := by simp; omega
       have qz : ¬ (j : Int) < (L : Int) := by omega
       obtain rfl : j = L := by omega
       have HD := Lib.hid (docB_bits HL0.out HBS.out)
       have HB2 := Lib.hid (bitsOf_lt HBS.out).1
       clear hj hge
       go_wp2
       obtain ⟨wA, rfl⟩ : ∃ x, x = wr := ⟨_, rfl⟩
       go_loopw [9, 10] (fun s9 s10 w3 => ∃ m : Nat, m ≤ bs.length / 8 ∧ s10 = .int .i64 ((8 * m : Nat) : Int) ∧ OwnB w3 wA.heap.size s9 ((outOf bs).1.take m) ∧ Only (fun _ => False) wA w3) (fun _ i _ => (bs.length + 8 - intOf i).toNat)
       case atStart => exact ⟨0, by omega, rfl, OwnB.nil _ _, Only.refl _ _⟩
       case round =>
        obtain ⟨m, hm, rfl, hown9, ho9⟩ := hrel
        obtain ⟨A9, c9, rfl⟩ := hown9.form
        obtain ⟨wB, rfl⟩ : ∃ x, x = wr := ⟨_, rfl⟩
        have HO9 := Lib.hid ho9
        have HOWN9 := Lib.hid hown9
        clear ho9 hown9
        obtain ⟨hsp1, _, hsp3⟩ := outOf_spec _ bs (Nat.le_refl _)
        have HS1 := Lib.hid hsp1
        have HS3 := Lib.hid hsp3
        clear hsp1 hsp3
        have hbl : (bs.length : Int) ≤ 18000000 := by have := HBL.out; omega
        obtain ⟨at8, hat8⟩ : ∃ a, a = 8 * m := ⟨_, rfl⟩
        rw [← hat8]
        have HAT := Lib.hid hat8
        rcases Nat.lt_or_ge m (bs.length / 8) with hlt | hge
        ·have q8 : decide ((at8 : Int) + 8 ≤ (bs.length : Int)) = true := by simp; omega
         have q8z : (at8 : Int) + 8 ≤ (bs.length : Int) := by omega
         have q8n : decide (at8 + 8 ≤ bs.length) = true := by simp; omega
         have HLT := Lib.hid hlt
         obtain ⟨l8, hl8⟩ : ∃ l, l = (bs.drop (8 * m)).take 8 := ⟨_, rfl⟩
         have HL8 := Lib.hid hl8
         have HV := Lib.hid (fun k => valK_lt (l := l8) (fun x hx => HB2.out x (by rw [hl8] at hx; exact List.mem_of_mem_drop (List.mem_of_mem_take hx))) k)
         clear hlt hat8 hl8
         go_wp2
         go_loopw [11, 12] (fun s11 s12 w4 => ∃ k : Nat, k ≤ 8 ∧ s12 = .int .i64 (k : Int) ∧ s11 = .int .i64 ((valK l8 k : Nat) : Int) ∧ w4 = wB) (fun _ i _ => 8 - (intOf i).toNat)
         case atStart => exact ⟨0, by omega, rfl, rfl, rfl⟩
         case round =>
          obtain ⟨k, hk, rfl, rfl, hw⟩ := hrel
          obtain rfl : wB = wr := hw.symm
          have hvk : valK l8 k < 256 := Nat.lt_of_lt_of_le (HV.out k) (by exact Nat.pow_le_pow_right (by decide) (by omega) : 2 ^ k ≤ 2 ^ 8)
          obtain ⟨vk, hvk0⟩ : ∃ v, v = valK l8 k := ⟨_, rfl⟩
          rw [← hvk0] at hvk ⊢
          have HVK := Lib.hid hvk0
          have hvz : (vk : Int) < 256 := by omega
          rcases Nat.lt_or_ge k 8 with hlt | hge
          ·have q9 : decide ((k : Int) < 8) = true := by simp; omega
           have hkz : (k : Int) < 8 := by omega
           obtain ⟨ik, hik⟩ : ∃ i, i = at8 + k := ⟨_, rfl⟩
           have hidx : (at8 : Int) + (k : Int) = (ik : Int) := by omega
           have hib : ik < bs.length := by have := HLT.out; have := HAT.out; omega
           have hibz : (ik : Int) < (bs.length : Int) := by omega
           obtain ⟨b, hb⟩ : ∃ b, bs[ik]? = some b := ⟨bs[ik], List.getElem?_eq_getElem hib⟩
           have hb2 : b < 2 := HB2.out b (List.mem_of_getElem? hb)
           have hbz : (b : Int) < 2 := by omega
           obtain ⟨gI, o0, rfl, hcI⟩ := HOWN.out.cell2 ik b hb
           have hcI4 := HO9.out.cell hcI id
           have HSTEP := Lib.hid (show valK l8 (k + 1) = 2 * vk + b by
            rw [HVK.out]
            refine valK_succ ?_
            rw [HL8.out, List.getElem?_take, if_pos (by omega), List.getElem?_drop, ← HAT.out, ← hik, hb])
           clear hb hcI hik hib hvk0 hvk hb2
           go_wp2
           go_roundw
           case rel => exact ⟨k + 1, by omega, by push_cast; rfl, by rw [HSTEP.out]; push_cast; rfl, by first | rfl | trivial⟩
           case measure => simp [intOf]; omega
          ·have q9 : decide ((k : Int) < 8) = false := by simp; omega
           obtain rfl : k = 8 := by omega
           have HB := Lib.hid (show (outOf bs).1.take (m + 1) = (outOf bs).1.take m ++ [vk.toUInt8] by
            rw [List.take_add_one, HS3.out m HLT.out, HVK.out, HL8.out]; rfl)
           have HZ := Lib.hid (show (vk : Int) = (vk.toUInt8.toNat : Nat) by simp; omega)
           have HLEN := Lib.hid (show ((outOf bs).1.take m).length + 1 ≤ 2 ^ 40 by have := HBL.out; have := HLT.out; rw [List.length_take]; omega)
           clear hge hk hvk0 hvk
           go_wp2_with (refine wpList_append_byte (y := vk.toUInt8) rfl (.tmp 84) (.tmp 87) rfl rfl (HOWN9.out.alloc _) rfl HZ.out (cell_new_at _ _ _ _ rfl) HLEN.out (by have := HO9.out.size; simp; omega) ?_; intro v' w5 hown hgr; have ho5 := ((HO9.out.alloc (.cells #[.int .u8 vk] 5)).grown hgr (fun k hk hb => by have := (HOWN9.out.lt k hk).1; omega)); rw [← HB.out] at hown; have HO5 := Lib.hid ho5; have HOWN5 := Lib.hid hown; clear hown hgr ho5)
           go_roundw
           case rel => exact ⟨m + 1, by have := HLT.out; omega, by have := HAT.out; subst this; push_cast; rfl, HOWN5.out, HO5.out⟩
           case measure => have := HAT.out; have := HLT.out; simp [intOf]; omega
        ·obtain rfl : m = bs.length / 8 := by omega
         have q8 : decide ((at8 : Int) + 8 ≤ (bs.length : Int)) = false := by simp; omega
         have q8z : ¬ (at8 : Int) + 8 ≤ (bs.length : Int) := by omega
         have q8n : decide (at8 + 8 ≤ bs.length) = false := by simp; omega
         have hatz : (at8 : Int) ≤ 18000000 := by omega
         have hln : ((outOf bs).1.take (bs.length / 8)).length = bs.length / 8 := by rw [List.length_take, HS1.out]; omega
         have hfull : (outOf bs).1.take (bs.length / 8) = (outOf bs).1 := List.take_of_length_le (by rw [HS1.out]; exact Nat.le_refl _)
         have HOWN10 := HOWN9
         rw [hfull, HS1.out] at HOWN10
         have h88 : (8 : Int) * ((bs.length / 8 : Nat) : Int) = (at8 : Int) := by omega
         have HFR := Lib.hid (show at8 ≤ bs.length by omega)
         have HLL2 := Lib.hid (show (outOf bs).1.length ≤ s.length by
          rw [HS1.out]
          have h1 := (bitsOf_lt HBS.out).2
          have h2 : (s.take j).length ≤ s.length := by rw [List.length_take]; exact Nat.min_le_right _ _
          omega)
         rw [hln]
         generalize bs.length / 8 = n8 at h88 HOWN10 ⊢
         clear hat8 hm hge hfull hln
         go_wp2
         go_loopw [13] (fun s13 w4 => ∃ i : Nat, at8 ≤ i ∧ i ≤ bs.length ∧ s13 = .int .i64 (i : Int) ∧ (∀ x, at8 ≤ x → x < i → bs[x]? = some 0) ∧ w4 = wB) (fun i _ => bs.length - (intOf i).toNat)
         case atStart => exact ⟨at8, by omega, HFR.out, rfl, fun x h1 h2 => by omega, rfl⟩
         case round =>
          obtain ⟨i, hi1, hi2, rfl, hz, hw⟩ := hrel
          obtain rfl : wB = wr := hw.symm
          have HZ := Lib.hid hz
          clear hz
          rcases Nat.lt_or_ge i bs.length with hlt | hge
          ·have q9 : decide ((i : Int) < (bs.length : Int)) = true := by simp; omega
           have qz9 : (i : Int) < (bs.length : Int) := by omega
           obtain ⟨b, hb⟩ : ∃ b, bs[i]? = some b := ⟨bs[i], List.getElem?_eq_getElem hlt⟩
           obtain ⟨gI, o0, rfl, hcI⟩ := HOWN.out.cell2 i b hb
           have hcI4 := HO9.out.cell hcI id
           clear hcI
           have HI := Lib.hid hb
           have HI1 := Lib.hid hi1
           clear hb
           by_cases hb0 : b = 0
           ·subst hb0
            go_wp2
            go_roundw
            case rel =>
             refine ⟨i + 1, by have := HI1.out; omega, by omega, by push_cast; rfl, ?_, by first | rfl | trivial⟩
             intro x h1 h2
             rcases Nat.lt_or_ge x i with h | h
             ·exact HZ.out x h1 h
             ·obtain rfl : x = i := by omega
              exact HI.out
            case measure => simp [intOf]; omega
           ·have qb : ((b : Int) != 0) = true := by simp; omega
            have qbz : ¬ (b : Int) = 0 := by omega
            have HN := Lib.hid (show docTake s = none by
             rw [HT.out, HD.out, if_neg (rest_no (by have := HAT.out; have := HI1.out; omega) HI.out hb0)])
            clear hb0
            go_wp2
            go_ret2
            exact D64At.no HN.out (HO.out.trans HO9.out)
          ·have q9 : decide ((i : Int) < (bs.length : Int)) = false := by simp; omega
           obtain rfl : i = bs.length := by omega
           have HY := Lib.hid (show docTake s = some (outOf bs).1 by
            rw [HT.out, HD.out, if_pos (rest_yes (fun x h1 h2 => HZ.out x (by have := HAT.out; omega) h2))])
           clear hge hi2
           go_wp2
           go_ret2
           exact D64At.yes HY.out (HO.out.trans HO9.out) HOWN10.out HO.out.size HLL2.out
 ·have HN := Lib.hid (show docTake s = none by unfold docTake; rw [if_pos h4])
  have q4 : ((s.length : Int) % 4 != 0) = true := by simp; omega
  have q4n : ¬ (s.length : Int) % 4 = 0 := by omega
  clear hl h4
  go_enter Tryz.func94, Tryz.ntmps94
  go_wp2
  go_ret2
  exact D64At.no HN.out (Only.refl _ _)
end Go.Proofs.YtjehnejgojgahaaGreatDoor
