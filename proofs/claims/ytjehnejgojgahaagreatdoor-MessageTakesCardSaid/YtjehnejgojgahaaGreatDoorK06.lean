/-
  A part of the proof of MessageTakes: the texts R8.
-/
import Derived.Test.YtjehnejgojgahaaGreatDoorK05
import Derived.Deep.RegionHeld3
import Derived.Deep.AppendLies
namespace Go.Proofs.YtjehnejgojgahaaGreatDoor
open Go.RowKit
set_option linter.unusedVariables false
set_option linter.unusedSimpArgs false
structure VMid (w : World) (g : Nat) (A : Option Addr) (c : Nat) (l : Bytes) (base t5 : Nat) (s : Option Bytes) (cs4 cs5 : List Value) (w' : World) : Prop where
 rs : RSo w' g A c l s
 b4 : Blk w' base cs4 85
 b5 : Blk w' t5 cs5 85
 only : Only (· = g) w w'
 hb : base = w.heap.size
 lt : base < t5
 gb : g < base
 low : LowA A l base
theorem VMid.call {w : World} {g : Nat} {A : Option Addr} {c : Nat} {l : Bytes} {base t5 : Nat} {s s2 : Option Bytes} {cs4 cs5 : List Value} {w1 w2 : World} (h : VMid w g A c l base t5 s cs4 cs5 w1)
  (hr : RSo w2 g A c l s2) (ho : Only (· = g) w1 w2) : VMid w g A c l base t5 s2 cs4 cs5 w2 :=
 ⟨hr, h.b4.only ho (by have := h.gb; omega), h.b5.only ho (by have := h.gb; have := h.lt; omega), h.only.trans ho, h.hb, h.lt, h.gb, h.low⟩
theorem VMid.drewN {w : World} {g : Nat} {A : Option Addr} {c : Nat} {l : Bytes} {base t5 : Nat} {s : Option Bytes} {cs4 cs5 : List Value} {w1 : World} (h : VMid w g A c l base t5 s cs4 cs5 w1) (n : Nat) : VMid w g A c l base t5 s cs4 cs5 (w1.drewN n) :=
 ⟨h.rs.drewN n, h.b4, h.b5, h.only.drewN n, h.hb, h.lt, h.gb, h.low⟩
theorem VMid.set5 {w : World} {g : Nat} {A : Option Addr} {c : Nat} {l : Bytes} {base t5 : Nat} {s : Option Bytes} {cs4 cs5 ds : List Value} {w1 : World} (h : VMid w g A c l base t5 s cs4 cs5 w1) (i : Nat) (v : Value) (hd : ds = cs5.set i v) :
  VMid w g A c l base t5 s cs4 ds (w1.setCell ⟨t5, i, none⟩ v) :=
 ⟨h.rs.only ((Only.refl (· = t5) w1).setCell (fun _ => rfl) v) (by have := h.gb; have := h.lt; omega) (fun b o ea hl e => by have := h.low b o ea hl; have := h.lt; omega),
   h.b4.far (by have := h.lt; simp; omega) v, h.b5.set' i v hd, h.only.setCell (fun hlt => absurd hlt (by have := h.lt; have := h.hb; simp; omega)) v, h.hb, h.lt, h.gb, h.low⟩
theorem VMid.setBad {w : World} {g : Nat} {A : Option Addr} {c : Nat} {l : Bytes} {base t5 : Nat} {s : Option Bytes} {cs4 cs5 : List Value} {w1 : World} (h : VMid w g A c l base t5 s cs4 cs5 w1) :
  VMid w g A c l base t5 none cs4 cs5 (w1.setCell ⟨g, 2, none⟩ (.bool true)) :=
 ⟨h.rs.setBad, h.b4.far (by have := h.gb; simp; omega) _, h.b5.far (by have := h.gb; have := h.lt; simp; omega) _, h.only.setCell (fun _ => rfl) _, h.hb, h.lt, h.gb, h.low⟩
theorem VMid.at {w : World} {g : Nat} {A : Option Addr} {c : Nat} {l : Bytes} {base t5 : Nat} {x : UInt8} {t : Bytes} {cs4 cs5 : List Value} {w1 : World} (h : VMid w g A c l base t5 (some (x :: t)) cs4 cs5 w1) :
  ∃ j b o, A = some ⟨b, o, none⟩ ∧ j < l.length ∧ l.length ≤ 1048576 ∧ w1.cell? ⟨g, 0, none⟩ = some (.slice (some ⟨b, o, none⟩) l.length c) ∧ w1.cell? ⟨g, 1, none⟩ = some (.int .i64 j) ∧ w1.cell? ⟨g, 2, none⟩ = some (.bool false) ∧
   w1.frozen? ⟨g, 1, none⟩ = false ∧ w1.frozen? ⟨g, 2, none⟩ = false ∧ w1.cell? ⟨b, o + j, none⟩ = some (.int .u8 x.toNat) ∧ RS w1 g A c l j false ∧ l.drop j = x :: t := by
 obtain ⟨j, hj, hd⟩ := h.rs
 have hx : l[j]? = some x := by rw [← List.head?_drop, hd]; rfl
 obtain ⟨b, o, e, hc⟩ := hj.bytes j x hx
 obtain ⟨h0, h1, h2, h3, h4⟩ := hj.cells
 exact ⟨j, b, o, e, (List.getElem?_eq_some_iff.1 hx).1, hj.len, by rw [← e]; exact h0, h1, h2, h3, h4, hc, hj, hd⟩
theorem VMid.step {w : World} {g : Nat} {A : Option Addr} {c : Nat} {l : Bytes} {base t5 : Nat} {x : UInt8} {t : Bytes} {cs4 cs5 : List Value} {w1 : World} {j : Nat} (h : VMid w g A c l base t5 (some (x :: t)) cs4 cs5 w1) (hj : RS w1 g A c l j false) (hd : l.drop j = x :: t) :
  VMid w g A c l base t5 (some t) cs4 cs5 (w1.setCell ⟨g, 1, none⟩ (.int .i64 (j + 1 : Nat))) := by
 have hlt : j < l.length := by
  rcases Nat.lt_or_ge j l.length with h | h
  ·exact h
  ·rw [List.drop_eq_nil_of_le h] at hd; cases hd
 exact ⟨⟨j + 1, hj.setAt (j + 1) hlt, by rw [← List.tail_drop, hd]; rfl⟩, h.b4.far (by have := h.gb; simp; omega) _, h.b5.far (by have := h.gb; have := h.lt; simp; omega) _, h.only.setCell (fun _ => rfl) _, h.hb, h.lt, h.gb, h.low⟩
theorem VMid.done {w : World} {g : Nat} {A : Option Addr} {c : Nat} {l : Bytes} {t5 : Nat} {s : Option Bytes} {cs4 cs5 : List Value} {w3 w4 : World} {T : Option (JV × Bytes)} (h : VMid w g A c l w.heap.size t5 s cs4 cs5 w3)
  (hb : Blk w4 w.heap.size cs5 85) (ho : Only (· = w.heap.size) w3 w4) (hF : Five cs5) (hs : s = T.map (·.2)) (hj : ∀ p, T = some p → JIs (w.heap.size < ·) w3 p.1 cs5) :
  ∃ cs, Ending.returned (.agg cs5.toArray) = .returned (.agg cs.toArray) ∧ ValAt g A c l T w cs w4 := by
 refine ⟨cs5, rfl, hF, ?_, h.only.then ho (fun i hi e => by omega), fun p hp => (hj p hp).only ho (fun b hb hx => ⟨by omega, by omega⟩)⟩
 rw [← hs]
 exact h.rs.only ho (by have := h.gb; omega) (fun b o ea hl e => by have := h.low b o ea hl; omega)
theorem map_snd {α β : Type} (x : Option β) (v : α) : (x.map fun q => (v, q)).map (·.2) = x := by cases x <;> rfl
theorem map_fst {α β : Type} (x : Option β) (v : α) {p : α × β} (h : (x.map fun q => (v, q)) = some p) : ∃ q, p = (v, q) := by
 cases x with
 | none => cases h
 | some q => cases h; exact ⟨q, rfl⟩
theorem val_word110 {f m : Nat} {r t : Bytes} (h : skipB r = 110 :: t) : (some r).bind (valB (f + 1) m) = (mustB [110, 117, 108, 108] (110 :: t)).map fun q => (JV.plain 0, q) := by
 simp only [Option.bind_some, valB, h]
 exact if_pos trivial
theorem val_word102 {f m : Nat} {r t : Bytes} (h : skipB r = 102 :: t) : (some r).bind (valB (f + 1) m) = (mustB [102, 97, 108, 115, 101] (102 :: t)).map fun q => (JV.plain 1, q) := by
 simp only [Option.bind_some, valB, h]
 rw [if_neg (by decide)]
 exact if_pos trivial
theorem val_word116 {f m : Nat} {r t : Bytes} (h : skipB r = 116 :: t) : (some r).bind (valB (f + 1) m) = (mustB [116, 114, 117, 101] (116 :: t)).map fun q => (JV.plain 2, q) := by
 simp only [Option.bind_some, valB, h]
 rw [if_neg (by decide), if_neg (by decide)]
 exact if_pos trivial
theorem val_str {f m : Nat} {r t : Bytes} (h : skipB r = 34 :: t) : (some r).bind (valB (f + 1) m) = (strOf (34 :: t)).map fun p => (JV.mk 4 p.1 0 [] [], p.2) := by
 simp only [Option.bind_some, valB, h]
 rw [if_neg (by decide), if_neg (by decide), if_neg (by decide)]
 exact if_pos trivial
theorem val_num {f m : Nat} {r t : Bytes} {x : UInt8} (h : skipB r = x :: t) (h1 : x ≠ 110) (h2 : x ≠ 102) (h3 : x ≠ 116) (h4 : x ≠ 34) (h5 : x ≠ 91) (h6 : x ≠ 123) : (some r).bind (valB (f + 1) m) = (numB (x :: t)).map fun p => (JV.mk 3 [] p.1 [] [], p.2) := by
 simp only [Option.bind_some, valB, h]
 rw [if_neg h1, if_neg h2, if_neg h3, if_neg h4, if_neg h5, if_neg h6]
theorem map_pair {α γ : Type} (x : Option (α × Bytes)) (f : α → γ) : (x.map fun p => (f p.1, p.2)).map (·.2) = x.map (·.2) := by cases x <;> rfl
theorem map_pair_some {α γ : Type} {x : Option (α × Bytes)} {f : α → γ} {p : γ × Bytes} (h : (x.map fun p => (f p.1, p.2)) = some p) : ∃ q, x = some q ∧ p = (f q.1, q.2) := by
 cases x with
 | none => cases h
 | some q => cases h; exact ⟨q, rfl, rfl⟩
theorem VMid.rs5 {w : World} {g : Nat} {A : Option Addr} {c : Nat} {l : Bytes} {base t5 : Nat} {s : Option Bytes} {cs4 cs5 : List Value} {w1 : World} {j : Nat} (h : VMid w g A c l base t5 s cs4 cs5 w1) (hj : RS w1 g A c l j false) (i : Nat) (v : Value) : RS (w1.setCell ⟨t5, i, none⟩ v) g A c l j false :=
 hj.only ((Only.refl (· = t5) w1).setCell (fun _ => rfl) v) (by have := h.gb; have := h.lt; omega) (fun b o ea hl e => by have := h.low b o ea hl; have := h.lt; omega)
structure VLoop (f m kind : Nat) (e : UInt8) (T : Option (JV × Bytes)) (w : World) (g : Nat) (A : Option Addr) (c : Nat) (l : Bytes) (t5 : Nat) (s : Option Bytes) (L : List JV) (K : List Bytes) (nl nk : Nat) (xs ys : List Value) (vl vk : Value) (wr : World) : Prop where
 mid : VMid w g A c l w.heap.size t5 s Z5 [.int .i64 kind, .string ⟨#[]⟩, .int .u64 0, vl, vk] wr
 ownL : wr.ownsRow (t5 + 1) 85 5 vl nl xs
 ownK : wr.ownsRow (t5 + 1) 9 1 vk nk ys
 apart : ∀ b, vl.ownBlock = some b → vk.ownBlock ≠ some b
 few : nl ≤ 3000000 ∧ nk ≤ 3000000
 good : ∀ r, s = some r → nl = L.length ∧ nk = K.length ∧ ys = cellsK K ∧ RowIs (fun b => t5 < b ∧ vl.ownBlock ≠ some b ∧ vk.ownBlock ≠ some b) wr L xs ∧
  (∃ f', lstB f' m kind e L K r = T ∧ 2 * r.length + 3 ≤ f' ∧ f' ≤ f) ∧ nl + r.length ≤ 1048576 ∧ nk + r.length ≤ 1048576
 bad : s = none → T = none
def VLoopR (f m kind : Nat) (e : UInt8) (T : Option (JV × Bytes)) (w : World) (g : Nat) (A : Option Addr) (c : Nat) (l : Bytes) (t5 : Nat) (gk : Nat) (wr : World) : Prop :=
 ∃ s L K nl nk xs ys vl vk, gk = remG s ∧ VLoop f m kind e T w g A c l t5 s L K nl nk xs ys vl vk wr
theorem wp_gen {P : Program} {code : Code} {Q : Exit → Act → World → Prop} {a : Act} {W : World} (φ : World → Prop) (h : φ W) (k : ∀ W', φ W' → code.wp P Q a W') : code.wp P Q a W := k W h
theorem len_skip {r t : Bytes} {x : UInt8} (h : skipB r = x :: t) : t.length + 1 ≤ r.length := by
 have := skipB_length r; rw [h] at this; simpa using this
theorem val_open0 {f : Nat} {r t : Bytes} {x : UInt8} (hx : x = 91 ∨ x = 123) (h : skipB r = x :: t) : (some r).bind (valB (f + 1) 0) = none := by
 simp only [Option.bind_some, valB, h]
 rcases hx with rfl | rfl
 ·rw [if_neg (by decide), if_neg (by decide), if_neg (by decide), if_neg (by decide)]; simp
 ·rw [if_neg (by decide), if_neg (by decide), if_neg (by decide), if_neg (by decide), if_neg (by decide)]; simp
theorem val_open91 {f k : Nat} {r t : Bytes} (h : skipB r = 91 :: t) : (some r).bind (valB (f + 1) (k + 1)) = if (skipB t).head? = some 93 then some (.plain 5, (skipB t).tail) else lstB f k 5 93 [] [] (skipB t) := by
 simp only [Option.bind_some, valB, h]
 rw [if_neg (by decide), if_neg (by decide), if_neg (by decide), if_neg (by decide)]; exact if_pos trivial
theorem val_open123 {f k : Nat} {r t : Bytes} (h : skipB r = 123 :: t) : (some r).bind (valB (f + 1) (k + 1)) = if (skipB t).head? = some 125 then some (.plain 6, (skipB t).tail) else lstB f k 6 125 [] [] (skipB t) := by
 simp only [Option.bind_some, valB, h]
 rw [if_neg (by decide), if_neg (by decide), if_neg (by decide), if_neg (by decide), if_neg (by decide)]; exact if_pos trivial
theorem VLoop.start {f m kind : Nat} {e : UInt8} {w : World} {g : Nat} {A : Option Addr} {c : Nat} {l : Bytes} {t5 : Nat} {q : Bytes} {wr : World} (h : VMid w g A c l w.heap.size t5 (some q) Z5 [.int .i64 kind, .string ⟨#[]⟩, .int .u64 0, .slice none 0 0, .slice none 0 0] wr)
  (hf : 2 * q.length + 3 ≤ f) : VLoopR f m kind e (lstB f m kind e [] [] q) w g A c l t5 (remG (some q)) wr := by
 refine ⟨some q, [], [], 0, 0, [], [], .slice none 0 0, .slice none 0 0, rfl, h, World.ownsRow_nil _ _ _ _, World.ownsRow_nil _ _ _ _, fun b hb => (by cases hb), ⟨by omega, by omega⟩, ?_, fun h => (by cases h)⟩
 intro r hr
 cases hr
 have hlen : q.length ≤ 1048576 := by
  obtain ⟨j, hj, hd⟩ := h.rs
  have := hj.len
  have h2 : (l.drop j).length ≤ l.length := by simp
  rw [hd] at h2; omega
 exact ⟨rfl, rfl, rfl, RowIs.nil _ _, ⟨f, rfl, hf, Nat.le_refl _⟩, by omega, by omega⟩
theorem vmid_start {w w1 : World} {g : Nat} {A : Option Addr} {c : Nat} {l : Bytes} {j : Nat} {q : Bytes} (hj : RS w1 g A c l j false) (hd : l.drop j = q) (ho : Only (· = g) (w.alloc (.cells Z5.toArray 85)) w1) (hg : g < w.heap.size) (hl : LowA A l w.heap.size) :
  ∀ (n : Nat) (w2 : World), Blk w2 w1.heap.size Z5 85 → Only (· = w1.heap.size) ((w1.drewN n).alloc (.cells Z5.toArray 85)) w2 → VMid w g A c l w.heap.size w1.heap.size (some q) Z5 Z5 w2 := by
 intro n w2 hb2 ho2
 have hsz : w.heap.size + 1 ≤ w1.heap.size := by have := ho.size; simpa using this
 refine ⟨?_, ?_, hb2, ?_, rfl, by omega, hg, hl⟩
 ·refine RSo.only (w := (w1.drewN n).alloc (.cells Z5.toArray 85)) ?_ ho2 (by omega) (fun b o ea hl' e => by have := hl b o ea hl'; omega)
  exact RSo.alloc ((show RSo w1 g A c l (some q) from ⟨j, hj, hd⟩).drewN n) _
 ·exact (((Blk.call (cs := Z5) ho hg).drewN n).alloc _).only ho2 (by omega)
 ·exact (((((Only.refl (· = g) w).alloc _).trans ho).drewN n).alloc _).then ho2 (fun i hi e => by omega)
theorem own_lt {w : World} {base : Nat} {e : TypeId} {st n : Nat} {v : Value} {xs : List Value} (h : w.ownsRow base e st v n xs) : ∀ b, v.ownBlock = some b → base ≤ b ∧ b < w.heap.size := World.ownsRow.lt h
theorem VLoop.own4 {f m kind : Nat} {e : UInt8} {T : Option (JV × Bytes)} {w : World} {g : Nat} {A : Option Addr} {c : Nat} {l : Bytes} {t5 : Nat} {s : Option Bytes} {L : List JV} {K : List Bytes} {nl nk : Nat} {xs ys : List Value} {vl vk : Value} {wr : World}
  (h : VLoop f m kind e T w g A c l t5 s L K nl nk xs ys vl vk wr) {n : Nat} {w4 : World} (ho : Only (· = g) (wr.drewN n) w4) :
  w4.ownsRow (t5 + 1) 85 5 vl nl xs ∧ w4.ownsRow (t5 + 1) 9 1 vk nk ys := by
 have h1 := h.mid.gb
 have h2 := h.mid.lt
 have o1 : (wr.drewN n).ownsRow (t5 + 1) 85 5 vl nl xs := h.ownL
 have o2 : (wr.drewN n).ownsRow (t5 + 1) 9 1 vk nk ys := h.ownK
 exact ⟨own_only o1 ho (fun b hb e => by have := (own_lt h.ownL b hb).1; omega), own_only o2 ho (fun b hb e => by have := (own_lt h.ownK b hb).1; omega)⟩
theorem info85 : (Tryz.prog.info? 85).map (fun i => (i.zero, i.size, i.bytes)) = some (some (.agg #[.int .i64 0, .string ⟨#[]⟩, .int .u64 0, .slice none 0 0, .slice none 0 0]), 5, 80) := by kernel_rfl
theorem under83 : Tryz.prog.underlying 83 = some (.slice 85) := by kernel_rfl
theorem step_append_five {ops : Array Oper} {o : Oper} {a : Act} {w : World} {K : Act → World → Prop} {Q : Exit → Act → World → Prop} {E : Prop} (hgd : o.guard = none) (s x : Operand)
  (ho : o.op = .call { callee := .builtin .append, args := #[s, x], argTypes := #[83, 83] }) {base : Nat} {v : Value} {n : Nat} {xs : List Value} (hs : a.eval s = v) (hown : w.ownsRow base 85 5 v n xs)
  {g0 : Nat} (hx : a.eval x = .slice (some ⟨g0, 0, none⟩) 1 1) {news : List Value} (hB : Blk w g0 news 85) (h5 : news.length = 5) (h1 : news.all (·.oneCell') = true) (hn : n ≤ 3000000) (hbase : base ≤ w.heap.size)
  (h : ∀ gg cap w', w'.ownsRow base 85 5 (.slice (some ⟨gg, 0, none⟩) (n + 1) cap) (n + 1) (xs ++ news) → w.grownBy w' v.ownBlock → (v.ownBlock = some gg ∨ gg = w.heap.size) → K (a.put o.dst (.slice (some ⟨gg, 0, none⟩) (n + 1) cap)) w') :
  if Region.wanted o (yielded ops a.tmps) = true then Oper.wp Tryz.prog o a w K Q else E := by
 obtain ⟨i0, hi, hz0, hz1, hz2⟩ := info_parts info85
 refine step_append_lies w hgd s x 83 ho base 85 i0 _ 5 80 under83 hi hz0 hz1 hz2 rfl (by decide) v n xs hs hown ⟨g0, 0, none⟩ 1 1 news hx (by simpa using h5) ?_ (by simpa using h1) (by decide) (by unfold maxLen; omega) (by omega) hbase w.heap.size rfl ?_
 ·intro j u hj
  have := hB.cell j hj
  unfold Addr.add
  by_cases h0 : j = 0
  ·subst h0; simpa using this
  ·rw [if_neg h0]; simpa using this
 ·intro g cap w' h2 h3 h4 _
  exact h _ _ w' h2 h3 h4
structure VPut (f' m : Nat) (w : World) (g : Nat) (A : Option Addr) (c : Nat) (l : Bytes) (t5 kind : Nat) (s : Option Bytes) (q : Bytes) (L : List JV) (nl nk : Nat) (xs ys : List Value) (vl vk : Value) (wr : World) : Prop where
 mid : VMid w g A c l w.heap.size t5 s Z5 [.int .i64 kind, .string ⟨#[]⟩, .int .u64 0, vl, vk] wr
 ownL : wr.ownsRow (t5 + 1) 85 5 vl (nl + 1) xs
 ownK : wr.ownsRow (t5 + 1) 9 1 vk nk ys
 apart : ∀ b, vl.ownBlock = some b → vk.ownBlock ≠ some b
 rows : ∀ p, valB f' m q = some p → RowIs (fun b => t5 < b ∧ vl.ownBlock ≠ some b ∧ vk.ownBlock ≠ some b) wr (L ++ [p.1]) xs
theorem VPut.call {f' m : Nat} {w : World} {g : Nat} {A : Option Addr} {c : Nat} {l : Bytes} {t5 kind : Nat} {s s2 : Option Bytes} {q : Bytes} {L : List JV} {nl nk : Nat} {xs ys : List Value} {vl vk : Value} {w1 w2 : World}
  (h : VPut f' m w g A c l t5 kind s q L nl nk xs ys vl vk w1) (hr : RSo w2 g A c l s2) (ho : Only (· = g) w1 w2) : VPut f' m w g A c l t5 kind s2 q L nl nk xs ys vl vk w2 := by
 have h1 := h.mid.gb
 have h2 := h.mid.lt
 refine ⟨h.mid.call hr ho, own_only h.ownL ho (fun b hb e => by have := (own_lt h.ownL b hb).1; omega), own_only h.ownK ho (fun b hb e => by have := (own_lt h.ownK b hb).1; omega), h.apart, ?_⟩
 intro p hp
 exact (h.rows p hp).only ho (fun b hb hx => ⟨by have := hx.1; omega, hx⟩)
theorem VMid.kept {w : World} {g : Nat} {A : Option Addr} {c : Nat} {l : Bytes} {base t5 : Nat} {s : Option Bytes} {cs4 cs5 : List Value} {w1 w2 : World} {G : Nat → Prop} (h : VMid w g A c l base t5 s cs4 cs5 w1) (ho : Only G w1 w2) (hG : ∀ b, G b → t5 < b) : VMid w g A c l base t5 s cs4 cs5 w2 := by
 have h1 := h.gb
 have h2 := h.lt
 refine ⟨h.rs.only ho (fun e => by have := hG _ e; omega) (fun b o ea hl e => by have := h.low b o ea hl; have := hG _ e; omega), h.b4.only ho (fun e => by have := hG _ e; omega), h.b5.only ho (fun e => by have := hG _ e; omega), ?_, h.hb, h.lt, h.gb, h.low⟩
 exact h.only.then ho (fun i hi e => by have := hG _ e; have := h.hb; omega)
theorem VLoop.put {f f' m m' kind : Nat} {e : UInt8} {T : Option (JV × Bytes)} {w : World} {g : Nat} {A : Option Addr} {c : Nat} {l : Bytes} {t5 : Nat} {r q : Bytes} {L : List JV} {K : List Bytes} {nl nk : Nat} {xs ys : List Value} {vl vk : Value} {wr : World}
  (h : VLoop f m kind e T w g A c l t5 (some r) L K nl nk xs ys vl vk wr) {n : Nat} {w4 w5 : World} {cs : List Value} {gg cap : Nat}
  (hval : ValAt g A c l ((some q).bind (valB f' m')) (wr.drewN n) cs w4)
  (ho5 : w5.ownsRow (t5 + 1) 85 5 (.slice (some ⟨gg, 0, none⟩) (nl + 1) cap) (nl + 1) (xs ++ cs)) (hg5 : (w4.alloc (.cells cs.toArray 85)).grownBy w5 vl.ownBlock) (hat : vl.ownBlock = some gg ∨ gg = w4.heap.size + 1) :
  VPut f' m' w g A c l t5 kind (((some q).bind (valB f' m')).map (·.2)) q L nl nk (xs ++ cs) ys (.slice (some ⟨gg, 0, none⟩) (nl + 1) cap) vk (w5.setCell ⟨t5, 3, none⟩ (.slice (some ⟨gg, 0, none⟩) (nl + 1) cap)) := by
 obtain ⟨hF, hr, ho, hj⟩ := hval
 have h1 := h.mid.gb
 have h2 := h.mid.lt
 have hL := own_lt h.ownL
 have hK := own_lt h.ownK
 have hs4 : wr.heap.size ≤ w4.heap.size := ho.size
 obtain ⟨_, o2⟩ := h.own4 ho
 have oA : Only (fun _ => False) w4 (w4.alloc (.cells cs.toArray 85)) := (Only.refl _ _).alloc _
 have oG : Only (fun k => vl.ownBlock = some k) (w4.alloc (.cells cs.toArray 85)) w5 := Only.ofGrown hg5
 have o45 : Only (fun k => vl.ownBlock = some k) w4 w5 := (oA.mono (fun i hi hf => hf.elim)).then oG (fun i hi hx => hx)
 have oS : Only (· = t5) w5 (w5.setCell ⟨t5, 3, none⟩ (.slice (some ⟨gg, 0, none⟩) (nl + 1) cap)) := (Only.refl (· = t5) w5).setCell (fun _ => rfl) _
 have hgg : t5 < gg := by
  rcases hat with ha | ha
  ·have := (hL gg ha).1; omega
  ·have := h.mid.b5.lt; omega
 refine ⟨(((h.mid.drewN n).call hr ho).kept o45 (fun b hb => by have := (hL b hb).1; omega)).set5 3 _ rfl, own_only ho5 oS (fun b hb e => by cases hb; have e' : gg = t5 := e; omega),
  own_only (own_only o2 o45 (fun b hb e => h.apart b e hb)) oS (fun b hb e => by have := (hK b hb).1; omega), ?_, ?_⟩
 ·intro b hb hb2
  cases hb
  rcases hat with ha | ha
  ·exact h.apart gg ha hb2
  ·have := (hK gg hb2).2; omega
 ·intro p hp
  obtain ⟨_, _, _, hrow, _⟩ := h.good r rfl
  have hnew := hj p (by rw [Option.bind_some, hp])
  have w1 : RowIs (fun b => t5 < b ∧ vl.ownBlock ≠ some b ∧ vk.ownBlock ≠ some b ∧ b < w4.heap.size) w4 L xs :=
   hrow.only (⟨ho.os, ho.tape, ho.output, ho.size, ho.block⟩ : Only (· = g) wr w4) (fun b hb hx => ⟨by have := hx.1; omega, hx.1, hx.2.1, hx.2.2, by omega⟩)
  have w2 : JIs (fun b => t5 < b ∧ vl.ownBlock ≠ some b ∧ vk.ownBlock ≠ some b ∧ b < w4.heap.size) w4 p.1 cs :=
   hnew.mono (fun b hb hx => by
    have hx' : wr.heap.size ≤ b := hx
    have := h.mid.b5.lt
    exact ⟨by omega, fun e => by have := (hL b e).2; omega, fun e => by have := (hK b e).2; omega, hb⟩)
  have w3 := w1.snoc w2
  refine (w3.only o45 (fun b hb hx => ⟨fun e => hx.2.1 e, hx⟩)).only oS (fun b hb hx => ⟨fun e => by have e' : b = t5 := e; have := hx.1; omega, hx.1, ?_, hx.2.2.1⟩)
  intro e
  have hx4 : b < w4.heap.size := hx.2.2.2
  have e' : gg = b := by cases e; rfl
  rcases hat with ha | ha
  ·exact hx.2.1 (e' ▸ ha)
  ·omega
theorem alloc_lt (w : World) (o : Obj) : w.heap.size < (w.alloc o).heap.size := by simp
end Go.Proofs.YtjehnejgojgahaaGreatDoor
