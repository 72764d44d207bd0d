/-
  A part of the proof of MessageTakes: the texts N3 N4 G1.
-/
import Derived.Test.YtjehnejgojgahaaGreatDoorK03
import Derived.Test.YtjehnejgojgahaaGreatDoorK06
import Derived.Test.YtjehnejgojgahaaGreatDoorK12
import Derived.Deep.RegionHeld3
namespace Go.Proofs.YtjehnejgojgahaaGreatDoor
open Go.RowKit
set_option linter.unusedVariables false
set_option linter.unusedSimpArgs false
def OffB (t5 : Nat) (vl vk : Value) (b : Nat) : Prop := t5 < b ∧ vl.ownBlock ≠ some b ∧ vk.ownBlock ≠ some b
structure VPre (w : World) (g : Nat) (A : Option Addr) (c : Nat) (l : Bytes) (t5 kind : Nat) (s : Option Bytes) (L : List JV) (nl nk : Nat) (xs ys : List Value) (vl vk : Value) (wr : World) : Prop where
 mid : VMid w g A c l w.heap.size t5 s Z5 [.int .i64 kind, .string ⟨#[]⟩, .int .u64 0, vl, vk] wr
 ownL : wr.ownsRow (t5 + 1) 85 5 vl nl xs
 ownK : wr.ownsRow (t5 + 1) 9 1 vk nk ys
 apart : ∀ b, vl.ownBlock = some b → vk.ownBlock ≠ some b
 few : nl ≤ 2000000 ∧ nk ≤ 2000000
 rows : s ≠ none → RowIs (OffB t5 vl vk) wr L xs
theorem VPre.call {w : World} {g : Nat} {A : Option Addr} {c : Nat} {l : Bytes} {t5 kind : Nat} {s s2 : Option Bytes} {L : List JV} {nl nk : Nat} {xs ys : List Value} {vl vk : Value} {w1 w2 : World}
  (h : VPre w g A c l t5 kind s L nl nk xs ys vl vk w1) (hr : RSo w2 g A c l s2) (ho : Only (· = g) w1 w2) (hs : s2 ≠ none → s ≠ none) : VPre w g A c l t5 kind s2 L nl nk xs ys vl vk w2 := by
 have h1 := h.mid.gb
 have h2 := h.mid.lt
 refine ⟨h.mid.call hr ho, own_only h.ownL ho (fun b hb e => by have := (own_lt h.ownL b hb).1; omega), own_only h.ownK ho (fun b hb e => by have := (own_lt h.ownK b hb).1; omega), h.apart, h.few, ?_⟩
 intro hn
 exact (h.rows (hs hn)).only ho (fun b hb hx => ⟨by have := hx.1; omega, hx⟩)
theorem VPre.drew {w : World} {g : Nat} {A : Option Addr} {c : Nat} {l : Bytes} {t5 kind : Nat} {s : Option Bytes} {L : List JV} {nl nk : Nat} {xs ys : List Value} {vl vk : Value} {w1 : World}
  (h : VPre w g A c l t5 kind s L nl nk xs ys vl vk w1) : VPre w g A c l t5 kind s L nl nk xs ys vl vk w1.drew :=
 h.call (h.mid.rs.drewN 1) ((Only.refl _ _).drew) id
theorem VPre.some_of {s : Option Bytes} {f : Bytes → Option Bytes} : s.bind f ≠ none → s ≠ none := by cases s <;> simp
theorem VPre.some_map {s : Option Bytes} {f : Bytes → Bytes} : s.map f ≠ none → s ≠ none := by cases s <;> simp
theorem VPre.put {w : World} {g : Nat} {A : Option Addr} {c : Nat} {l : Bytes} {t5 kind : Nat} {s : Option Bytes} {L : List JV} {nl nk : Nat} {xs ys : List Value} {vl vk : Value} {wr : World}
  (h : VPre w g A c l t5 kind s L nl nk xs ys vl vk wr) {T2 : Option (JV × Bytes)} (hT : T2 ≠ none → s ≠ none) {w4 w5 : World} {cs : List Value} {gg cap : Nat} (hval : ValAt g A c l T2 wr cs w4) (hnl : nl ≤ 1100000) (hnk : nk ≤ 1100000)
  (ho5 : w5.ownsRow (t5 + 1) 85 5 (.slice (some ⟨gg, 0, none⟩) (nl + 1) cap) (nl + 1) (xs ++ cs)) (hg5 : (w4.alloc (.cells cs.toArray 85)).grownBy w5 vl.ownBlock) (hat : vl.ownBlock = some gg ∨ gg = w4.heap.size + 1) :
  VPre w g A c l t5 kind (T2.map (·.2)) (L ++ (T2.map (·.1)).toList) (nl + 1) nk (xs ++ cs) ys (.slice (some ⟨gg, 0, none⟩) (nl + 1) cap) vk (w5.setCell ⟨t5, 3, none⟩ (.slice (some ⟨gg, 0, none⟩) (nl + 1) cap)) := by
 obtain ⟨hF, hr, ho, hj⟩ := hval
 have h1 := h.mid.gb
 have h2 := h.mid.lt
 have hL := own_lt h.ownL
 have hK := own_lt h.ownK
 have hs4 : wr.heap.size ≤ w4.heap.size := ho.size
 have o2 : w4.ownsRow (t5 + 1) 9 1 vk nk ys := own_only h.ownK ho (fun b hb e => by have := (hK b hb).1; omega)
 have oA : Only (fun _ => False) w4 (w4.alloc (.cells cs.toArray 85)) := (Only.refl _ _).alloc _
 have oG : Only (fun k => vl.ownBlock = some k) (w4.alloc (.cells cs.toArray 85)) w5 := Only.ofGrown hg5
 have o45 : Only (fun k => vl.ownBlock = some k) w4 w5 := (oA.mono (fun i hi hf => hf.elim)).then oG (fun i hi hx => hx)
 have oS : Only (· = t5) w5 (w5.setCell ⟨t5, 3, none⟩ (.slice (some ⟨gg, 0, none⟩) (nl + 1) cap)) := (Only.refl (· = t5) w5).setCell (fun _ => rfl) _
 have hgg : t5 < gg := by
  rcases hat with ha | ha
  ·have := (hL gg ha).1; omega
  ·have := h.mid.b5.lt; omega
 refine ⟨((h.mid.call hr ho).kept o45 (fun b hb => by have := (hL b hb).1; omega)).set5 3 _ rfl, own_only ho5 oS (fun b hb e => by cases hb; have e' : gg = t5 := e; omega),
  own_only (own_only o2 o45 (fun b hb e => h.apart b e hb)) oS (fun b hb e => by have := (hK b hb).1; omega), ?_, ⟨by omega, by omega⟩, ?_⟩
 ·intro b hb hb2
  cases hb
  rcases hat with ha | ha
  ·exact h.apart gg ha hb2
  ·have := (hK gg hb2).2; omega
 ·intro hn
  cases T2 with
  | none => exact absurd rfl hn
  | some p =>
  have hrow := h.rows (hT (by simp))
  have hnew := hj p rfl
  have w1 : RowIs (fun b => t5 < b ∧ vl.ownBlock ≠ some b ∧ vk.ownBlock ≠ some b ∧ b < w4.heap.size) w4 L xs :=
   hrow.only ho (fun b hb hx => ⟨by have := hx.1; omega, hx.1, hx.2.1, hx.2.2, by omega⟩)
  have w2 : JIs (fun b => t5 < b ∧ vl.ownBlock ≠ some b ∧ vk.ownBlock ≠ some b ∧ b < w4.heap.size) w4 p.1 cs :=
   hnew.mono (fun b hb hx => by
    have hx' : wr.heap.size ≤ b := hx
    have := h.mid.b5.lt
    exact ⟨by omega, fun e => by have := (hL b e).2; omega, fun e => by have := (hK b e).2; omega, hb⟩)
  have w3 := w1.snoc w2
  refine (w3.only o45 (fun b hb hx => ⟨fun e => hx.2.1 e, hx⟩)).only oS (fun b hb hx => ⟨fun e => by have e' : b = t5 := e; have := hx.1; omega, hx.1, ?_, hx.2.2.1⟩)
  intro e
  have hx4 : b < w4.heap.size := hx.2.2.2
  have e' : gg = b := by cases e; rfl
  rcases hat with ha | ha
  ·exact hx.2.1 (e' ▸ ha)
  ·omega
theorem VPre.blkL {w : World} {g : Nat} {A : Option Addr} {c : Nat} {l : Bytes} {t5 kind : Nat} {s : Option Bytes} {L : List JV} {nl nk : Nat} {xs ys : List Value} {vl vk : Value} {wr : World}
  (h : VPre w g A c l t5 kind s L nl nk xs ys vl vk wr) {w4 w5 : World} {o : Obj} (ho : Only (· = g) wr w4) (hg5 : (w4.alloc o).grownBy w5 vl.ownBlock) :
  Blk w5 t5 [.int .i64 kind, .string ⟨#[]⟩, .int .u64 0, vl, vk] 85 := by
 have h1 := h.mid.gb
 have h2 := h.mid.lt
 exact ((h.mid.b5.only ho (by omega)).alloc o).only (Only.ofGrown hg5) (fun e => by have := (own_lt h.ownL _ e).1; omega)
theorem VPre.blkK {w : World} {g : Nat} {A : Option Addr} {c : Nat} {l : Bytes} {t5 kind : Nat} {s : Option Bytes} {L : List JV} {nl nk : Nat} {xs ys : List Value} {vl vk : Value} {wr : World}
  (h : VPre w g A c l t5 kind s L nl nk xs ys vl vk wr) {w4 w5 : World} {o : Obj} (ho : Only (· = g) wr w4) (hg5 : (w4.alloc o).grownBy w5 vk.ownBlock) :
  Blk w5 t5 [.int .i64 kind, .string ⟨#[]⟩, .int .u64 0, vl, vk] 85 := by
 have h1 := h.mid.gb
 have h2 := h.mid.lt
 exact ((h.mid.b5.only ho (by omega)).alloc o).only (Only.ofGrown hg5) (fun e => by have := (own_lt h.ownK _ e).1; omega)
theorem VPre.key {w : World} {g : Nat} {A : Option Addr} {c : Nat} {l : Bytes} {t5 kind : Nat} {s s2 : Option Bytes} {L : List JV} {nl nk : Nat} {xs ys : List Value} {vl vk : Value} {wr : World}
  (h : VPre w g A c l t5 kind s L nl nk xs ys vl vk wr) (hs : s2 ≠ none → s ≠ none) {w4 w5 : World} {tv : Value} {gg cap : Nat} (hr : RSo w4 g A c l s2) (ho : Only (· = g) wr w4) (hnl : nl ≤ 1100000) (hnk : nk ≤ 1100000)
  (ho5 : w5.ownsRow (t5 + 1) 9 1 (.slice (some ⟨gg, 0, none⟩) (nk + 1) cap) (nk + 1) (ys ++ [tv])) (hg5 : (w4.alloc (.cells #[tv] 9)).grownBy w5 vk.ownBlock) (hat : vk.ownBlock = some gg ∨ gg = w4.heap.size + 1) :
  VPre w g A c l t5 kind s2 L nl (nk + 1) xs (ys ++ [tv]) vl (.slice (some ⟨gg, 0, none⟩) (nk + 1) cap) (w5.setCell ⟨t5, 4, none⟩ (.slice (some ⟨gg, 0, none⟩) (nk + 1) cap)) := by
 have h1 := h.mid.gb
 have h2 := h.mid.lt
 have hL := own_lt h.ownL
 have hK := own_lt h.ownK
 have hs4 : wr.heap.size ≤ w4.heap.size := ho.size
 have o2 : w4.ownsRow (t5 + 1) 85 5 vl nl xs := own_only h.ownL ho (fun b hb e => by have := (hL b hb).1; omega)
 have oA : Only (fun _ => False) w4 (w4.alloc (.cells #[tv] 9)) := (Only.refl _ _).alloc _
 have oG : Only (fun k => vk.ownBlock = some k) (w4.alloc (.cells #[tv] 9)) w5 := Only.ofGrown hg5
 have o45 : Only (fun k => vk.ownBlock = some k) w4 w5 := (oA.mono (fun i hi hf => hf.elim)).then oG (fun i hi hx => hx)
 have oS : Only (· = t5) w5 (w5.setCell ⟨t5, 4, none⟩ (.slice (some ⟨gg, 0, none⟩) (nk + 1) cap)) := (Only.refl (· = t5) w5).setCell (fun _ => rfl) _
 have hgg : t5 < gg := by
  rcases hat with ha | ha
  ·have := (hK gg ha).1; omega
  ·have := h.mid.b5.lt; omega
 refine ⟨((h.mid.call hr ho).kept o45 (fun b hb => by have := (hK b hb).1; omega)).set5 4 _ rfl,
  own_only (own_only o2 o45 (fun b hb e => h.apart b hb e)) oS (fun b hb e => by have := (hL b hb).1; omega),
  own_only ho5 oS (fun b hb e => by cases hb; have e' : gg = t5 := e; omega), ?_, ⟨by omega, by omega⟩, ?_⟩
 ·intro b hb hb2
  cases hb2
  rcases hat with ha | ha
  ·exact h.apart gg hb ha
  ·have := (hL gg hb).2; omega
 ·intro hn
  have hrow := h.rows (hs hn)
  have w1 : RowIs (fun b => t5 < b ∧ vl.ownBlock ≠ some b ∧ vk.ownBlock ≠ some b ∧ b < w4.heap.size) w4 L xs :=
   hrow.only ho (fun b hb hx => ⟨by have := hx.1; omega, hx.1, hx.2.1, hx.2.2, by omega⟩)
  refine (w1.only o45 (fun b hb hx => ⟨fun e => hx.2.2.1 e, hx⟩)).only oS (fun b hb hx => ⟨fun e => by have e' : b = t5 := e; have := hx.1; omega, hx.1, hx.2.1, ?_⟩)
  intro e
  have hx4 : b < w4.heap.size := hx.2.2.2
  have e' : gg = b := by cases e; rfl
  rcases hat with ha | ha
  ·exact hx.2.2.1 (e' ▸ ha)
  ·omega
theorem under77n : Tryz.prog.underlying 77 = some (.slice 9) := by kernel_rfl
theorem info9n : (Tryz.prog.info? 9).map (fun i => (i.zero, i.size, i.bytes)) = some (some (.string ⟨#[]⟩), 1, 16) := by kernel_rfl
theorem step_append_name {ops : Array Oper} {o : Oper} {a : Act} {w : World} {K : Act → World → Prop} {Q : Exit → Act → World → Prop} {E : Prop} (hgd : o.guard = none) (s x : Operand)
  (ho : o.op = .call { callee := .builtin .append, args := #[s, x], argTypes := #[77, 77] }) {base : Nat} {v : Value} {n : Nat} {xs : List Value} (hs : a.eval s = v) (hown : w.ownsRow base 9 1 v n xs)
  {g0 : Nat} {t : ByteArray} (hx : a.eval x = .slice (some ⟨g0, 0, none⟩) 1 1) (hB : Blk w g0 [.string t] 9) (hn : n ≤ 3000000) (hbase : base ≤ w.heap.size)
  (h : ∀ gg cap w', w'.ownsRow base 9 1 (.slice (some ⟨gg, 0, none⟩) (n + 1) cap) (n + 1) (xs ++ [.string t]) → w.grownBy w' v.ownBlock → (v.ownBlock = some gg ∨ gg = w.heap.size) → K (a.put o.dst (.slice (some ⟨gg, 0, none⟩) (n + 1) cap)) w') :
  if Region.wanted o (yielded ops a.tmps) = true then Oper.wp Tryz.prog o a w K Q else E := by
 obtain ⟨i0, hi, hz0, hz1, hz2⟩ := info_parts info9n
 refine step_append_lies w hgd s x 77 ho base 9 i0 _ 1 16 under77n hi hz0 hz1 hz2 rfl (by decide) v n xs hs hown ⟨g0, 0, none⟩ 1 1 [.string t] hx (by rfl) ?_ (by intro u hu; rw [List.mem_singleton.1 hu]; rfl) (by decide) (by unfold maxLen; omega) (by omega) hbase w.heap.size rfl ?_
 ·intro j u hj
  have := hB.cell j hj
  unfold Addr.add
  by_cases h0 : j = 0
  ·subst h0; simpa using this
  ·rw [if_neg h0]; simpa using this
 ·intro g cap w' h2 h3 h4 _
  exact h _ _ w' h2 h3 h4
def roundK (kind : Nat) (K : List Bytes) (r : Bytes) : Option (List Bytes × Bytes) := if kind = 6 then (keyB r).map fun p => (K ++ [p.1], p.2) else some (K, r)
theorem lst_round {f m kind : Nat} {e : UInt8} {L : List JV} {K : List Bytes} {r : Bytes} {T2 : Option (JV × Bytes)} (hT2 : T2 = (roundK kind K r).bind fun p => valB f m p.2) :
  (T2 = none → lstB (f + 1) m kind e L K r = none) ∧ (∀ v q2 K' q, roundK kind K r = some (K', q) → T2 = some (v, q2) →
   ((skipB q2).head? = some e → lstB (f + 1) m kind e L K r = some (.mk kind [] 0 (L ++ [v]) K', (skipB q2).tail)) ∧
   ((skipB q2).head? ≠ some e → mustB [44] (skipB q2) = none → lstB (f + 1) m kind e L K r = none) ∧
   (∀ q3, (skipB q2).head? ≠ some e → mustB [44] (skipB q2) = some q3 → lstB (f + 1) m kind e L K r = lstB f m kind e (L ++ [v]) K' q3)) := by
 have e1 : lstB (f + 1) m kind e L K r = match roundK kind K r with
  | none => none
  | some (ks', q) =>
   match valB f m q with
   | none => none
   | some (v, q2) =>
    if (skipB q2).head? = some e then some (.mk kind [] 0 (L ++ [v]) ks', (skipB q2).tail)
    else match mustB [44] (skipB q2) with
     | none => none
     | some q3 => lstB f m kind e (L ++ [v]) ks' q3 := by
  simp only [lstB]; rfl
 constructor
 ·intro hn
  rw [e1]
  cases hk : roundK kind K r with
  | none => rfl
  | some p =>
   obtain ⟨ks', q⟩ := p
   rw [hk, Option.bind_some] at hT2
   simp only []
   rw [← hT2, hn]
 ·intro v q2 K' q hk hs
  rw [hk, Option.bind_some, hs] at hT2
  rw [e1, hk]
  simp only []
  simp only [] at hT2
  rw [← hT2]
  simp only []
  refine ⟨fun h => by rw [if_pos h], fun h hm => by rw [if_neg h, hm], fun q3 h hm => by rw [if_neg h, hm]⟩
def VRound (f m kind : Nat) (e : UInt8) (T : Option (JV × Bytes)) (w : World) (g : Nat) (A : Option Addr) (c : Nat) (l : Bytes) (t5 : Nat) (gk : Nat) (wr : World) : Prop :=
 ∃ s L K nl nk xs ys vl vk, gk = remG s ∧ VPre w g A c l t5 kind s L nl nk xs ys vl vk wr ∧
  (∀ r, s = some r → nl = L.length ∧ nk = K.length ∧ ys = cellsK K ∧ (∃ f', lstB f' m kind e L K r = T ∧ 2 * r.length + 3 ≤ f' ∧ f' ≤ f) ∧ nl + r.length ≤ 1048576 ∧ nk + r.length ≤ 1048576) ∧ (s = none → T = none)
theorem VRound.start {f m kind : Nat} {e : UInt8} {w : World} {g : Nat} {A : Option Addr} {c : Nat} {l : Bytes} {t5 : Nat} {q : Bytes} {wr : World} (h : VMid w g A c l w.heap.size t5 (some q) Z5 [.int .i64 kind, .string ⟨#[]⟩, .int .u64 0, .slice none 0 0, .slice none 0 0] wr)
  (hf : 2 * q.length + 3 ≤ f) : VRound f m kind e (lstB f m kind e [] [] q) w g A c l t5 (remG (some q)) wr := by
 refine ⟨some q, [], [], 0, 0, [], [], .slice none 0 0, .slice none 0 0, rfl, ⟨h, World.ownsRow_nil _ _ _ _, World.ownsRow_nil _ _ _ _, fun b hb => (by cases hb), ⟨by omega, by omega⟩, fun _ => RowIs.nil _ _⟩, ?_, fun h => (by cases h)⟩
 intro r hr
 cases hr
 have hlen : q.length ≤ 1048576 := by
  obtain ⟨j, hj, hd⟩ := h.rs
  have := hj.len
  have h2 : (l.drop j).length ≤ l.length := by simp
  rw [hd] at h2; omega
 exact ⟨rfl, rfl, rfl, ⟨f, rfl, hf, Nat.le_refl _⟩, by omega, by omega⟩
theorem roundK_len {kind : Nat} {K K' : List Bytes} {r q : Bytes} (h : roundK kind K r = some (K', q)) : q.length ≤ r.length ∧ K'.length ≤ K.length + 1 := by
 unfold roundK at h
 split at h
 ·obtain ⟨p, hp, he⟩ := Option.map_eq_some_iff.1 h
  cases he
  have := keyB_length (k := p.1) (q := p.2) hp
  exact ⟨by omega, by simp⟩
 ·cases h; exact ⟨Nat.le_refl _, by omega⟩
structure RoundIs (f f1 m kind : Nat) (e : UInt8) (T T2 : Option (JV × Bytes)) (L : List JV) (KS : List Bytes) (r1 : Bytes) (nl nk nk' : Nat) (ys' : List Value) : Prop where
 T2 : T2 = (roundK kind KS r1).bind fun p => valB f1 m p.2
 names : ∀ K' q, roundK kind KS r1 = some (K', q) → nk' = K'.length ∧ ys' = cellsK K'
 T : lstB (f1 + 1) m kind e L KS r1 = T
 len : nl = L.length
 lenK : nk = KS.length
 room : nl + r1.length ≤ 1048576 ∧ nk + r1.length ≤ 1048576
 fuel : 2 * r1.length + 3 ≤ f1 + 1 ∧ f1 + 1 ≤ f
theorem RoundIs.split {f f1 m kind : Nat} {e : UInt8} {T T2 : Option (JV × Bytes)} {L : List JV} {KS : List Bytes} {r1 : Bytes} {nl nk nk' : Nat} {ys' : List Value} (h : RoundIs f f1 m kind e T T2 L KS r1 nl nk nk' ys') {p : JV × Bytes} (hp : T2 = some p) :
  ∃ K' q, roundK kind KS r1 = some (K', q) ∧ valB f1 m q = some p ∧ q.length ≤ r1.length ∧ K'.length ≤ KS.length + 1 ∧ p.2.length < q.length := by
 have h1 := h.T2
 cases hk : roundK kind KS r1 with
 | none => rw [hk, hp] at h1; cases h1
 | some z =>
  obtain ⟨K', q⟩ := z
  rw [hk, hp, Option.bind_some] at h1
  have hl := roundK_len hk
  have hr := h.room.1
  have hlq := hl.1
  obtain ⟨v, q2⟩ := p
  have h2 : valB f1 m q = some (v, q2) := h1.symm
  exact ⟨K', q, rfl, h2, hl.1, hl.2, ((valB_wv f1).1 h2 (by omega)).2⟩
theorem VRound.next {f f1 m kind : Nat} {e : UInt8} {T T2 : Option (JV × Bytes)} {L : List JV} {KS : List Bytes} {r1 : Bytes} {nl nk nk' : Nat} {ys' xs2 : List Value} {vl2 vk' : Value} {w : World} {g : Nat} {A : Option Addr} {c : Nat} {l : Bytes} {t5 : Nat} {wr : World} {s9 : Option Bytes}
  (h : RoundIs f f1 m kind e T T2 L KS r1 nl nk nk' ys') (hb : ∀ p, T2 = some p → (skipB p.2).head? ≠ some e) (hs9 : s9 = (((T2.map (·.2)).map skipB).map (isS e)).bind (mustB [44]))
  (hp : VPre w g A c l t5 kind s9 (L ++ (T2.map (·.1)).toList) (nl + 1) nk' xs2 ys' vl2 vk' wr) : VRound f m kind e T w g A c l t5 (remG s9) wr ∧ remG s9 < remG (some r1) := by
 have hLR := lst_round (L := L) (e := e) h.T2
 cases hT2 : T2 with
 | none =>
  have e9 : s9 = none := by rw [hs9, hT2]; rfl
  subst e9
  refine ⟨⟨none, _, KS, nl + 1, nk', xs2, ys', vl2, vk', rfl, hp, fun r hr => (by cases hr), fun _ => ?_⟩, by simp [remG]⟩
  rw [← h.T]; exact hLR.1 hT2
 | some p =>
  obtain ⟨K', q, hk, hv, hq, hK', hq2⟩ := h.split hT2
  obtain ⟨v, q2⟩ := p
  have hne := hb _ hT2
  obtain ⟨_, hno, hnx⟩ := hLR.2 v q2 K' q hk hT2
  simp only [] at hq2 hne
  have e9 : s9 = mustB [44] (skipB q2) := by rw [hs9, hT2]; simp [isS, hne]
  have hsk := skipB_length q2
  cases hm : mustB [44] (skipB q2) with
  | none =>
   rw [hm] at e9
   subst e9
   refine ⟨⟨none, _, KS, nl + 1, nk', xs2, ys', vl2, vk', rfl, hp, fun r hr => (by cases hr), fun _ => ?_⟩, by simp [remG]⟩
   rw [← h.T]; exact hno hne hm
  | some q3 =>
   have hml := mustB_length hm
   simp only [List.length_cons, List.length_nil] at hml
   rw [hm] at e9
   subst e9
   rw [hT2] at hp
   obtain ⟨hn1, hn2⟩ := h.names K' q hk
   have hr := h.room
   have hfu := h.fuel
   have hln := h.len
   have hlk := h.lenK
   refine ⟨⟨some q3, L ++ [v], K', nl + 1, nk', xs2, ys', vl2, vk', rfl, hp, ?_, fun hh => by cases hh⟩, by simp only [remG]; omega⟩
   intro r hr'
   cases hr'
   refine ⟨by simp [hln], hn1, hn2, ⟨f1, ?_, by omega, by omega⟩, by omega, by omega⟩
   rw [← hnx q3 hne hm, h.T]
theorem VRound.fin {f f1 m kind : Nat} {e : UInt8} {T T2 : Option (JV × Bytes)} {L : List JV} {KS : List Bytes} {r1 : Bytes} {nl nk nk' : Nat} {ys' xs2 : List Value} {vl2 vk' : Value} {w : World} {g : Nat} {A : Option Addr} {c : Nat} {l : Bytes} {t5 : Nat} {wr : World} {s8 : Option Bytes}
  (h : RoundIs f f1 m kind e T T2 L KS r1 nl nk nk' ys') (hb : ∀ p, T2 = some p → (skipB p.2).head? = some e) (hs8 : s8 = ((T2.map (·.2)).map skipB).map (isS e))
  (hp : VPre w g A c l t5 kind s8 (L ++ (T2.map (·.1)).toList) (nl + 1) nk' xs2 ys' vl2 vk' wr) :
  s8 = T.map (·.2) ∧ ∀ p, T = some p → JIs (w.heap.size < ·) wr p.1 [.int .i64 kind, .string ⟨#[]⟩, .int .u64 0, vl2, vk'] := by
 have hLR := lst_round (L := L) (e := e) h.T2
 have hT' := h.T
 cases hT2 : T2 with
 | none =>
  have e9 : s8 = none := by rw [hs8, hT2]; rfl
  rw [hLR.1 hT2] at hT'
  subst e9
  rw [← hT']
  exact ⟨rfl, fun p hp => by cases hp⟩
 | some p =>
  obtain ⟨K', q, hk, hv, hq, hK', hq2⟩ := h.split hT2
  obtain ⟨v, q2⟩ := p
  have hhd := hb _ hT2
  obtain ⟨hyes, _, _⟩ := hLR.2 v q2 K' q hk hT2
  simp only [] at hq2 hhd
  have e9 : s8 = some (skipB q2).tail := by rw [hs8, hT2]; simp [isS, hhd]
  rw [hyes hhd] at hT'
  subst e9
  rw [← hT']
  refine ⟨rfl, fun p hp' => ?_⟩
  cases hp'
  obtain ⟨hn1, hn2⟩ := h.names K' q hk
  rw [hT2] at hp
  have h5 := hp.mid.lt
  have hlen : nl + 1 = (L ++ [v]).length := by simp [h.len]
  have hrows := hp.rows (by simp)
  have o1 := hp.ownL
  have o2 := hp.ownK
  rw [hlen] at o1
  rw [hn1, hn2] at o2
  exact jis_of_rows (base := t5 + 1) (e := 85) (f := 9) o1 o2 (hrows.only (Only.refl (fun _ => False) wr) (fun b hb hx => ⟨id, by have := hx.1; omega⟩))
   (fun b hb => by have := (own_lt o1 b hb).1; omega) (fun b hb => by have := (own_lt o2 b hb).1; omega)
theorem VRound.ret {f f1 m kind : Nat} {e : UInt8} {T0 T T2 : Option (JV × Bytes)} {L : List JV} {KS : List Bytes} {r1 : Bytes} {nl nk nk' : Nat} {ys' xs2 : List Value} {vl2 vk' : Value} {w : World} {g : Nat} {A : Option Addr} {c : Nat} {l : Bytes} {t5 : Nat} {wr w9 : World}
  (hT : T0 = T) (h : RoundIs f f1 m kind e T T2 L KS r1 nl nk nk' ys') (hb : ∀ r, (T2.map (·.2)).map skipB = some r → true = decide (r.head? = some e))
  (hp : VPre w g A c l t5 kind (((T2.map (·.2)).map skipB).map (isS e)) (L ++ (T2.map (·.1)).toList) (nl + 1) nk' xs2 ys' vl2 vk' wr)
  (hb9 : Blk w9 w.heap.size [.int .i64 kind, .string ⟨#[]⟩, .int .u64 0, vl2, vk'] 85) (ho9 : Only (· = w.heap.size) wr w9) :
  ∃ cs, Ending.returned (.agg #[.int .i64 kind, .string ⟨#[]⟩, .int .u64 0, vl2, vk']) = .returned (.agg cs.toArray) ∧ ValAt g A c l T0 w cs w9 := by
 subst hT
 have hfin := VRound.fin h (fun p hp => of_decide_eq_true (hb (skipB p.2) (by rw [hp]; rfl)).symm) rfl hp
 obtain ⟨Al, cl, rfl⟩ := own_form hp.ownL
 obtain ⟨Ak, ck, rfl⟩ := own_form hp.ownK
 exact hp.mid.done hb9 ho9 ⟨kind, _, 0, _, _, _, _, _, _, rfl⟩ hfin.1 hfin.2
theorem VRound.more {f f1 m kind : Nat} {e : UInt8} {T T2 : Option (JV × Bytes)} {L : List JV} {KS : List Bytes} {r1 : Bytes} {nl nk nk' gk : Nat} {ys' xs2 : List Value} {vl2 vk' : Value} {w : World} {g : Nat} {A : Option Addr} {c : Nat} {l : Bytes} {t5 : Nat} {wr : World}
  (h : RoundIs f f1 m kind e T T2 L KS r1 nl nk nk' ys') (hb : ∀ r, (T2.map (·.2)).map skipB = some r → false = decide (r.head? = some e))
  (hp : VPre w g A c l t5 kind ((((T2.map (·.2)).map skipB).map (isS e)).bind (mustB [44])) (L ++ (T2.map (·.1)).toList) (nl + 1) nk' xs2 ys' vl2 vk' wr) (hg : gk = remG (some r1)) :
  VRound f m kind e T w g A c l t5 (remG ((((T2.map (·.2)).map skipB).map (isS e)).bind (mustB [44]))) wr ∧ remG ((((T2.map (·.2)).map skipB).map (isS e)).bind (mustB [44])) < gk := by
 rw [hg]
 exact VRound.next h (fun p hp => of_decide_eq_false (hb (skipB p.2) (by rw [hp]; rfl)).symm) rfl hp
section
variable {ops : Array Oper} {o : Oper} {a : Act} {w : World} {K : Act → World → Prop} {Q : Exit → Act → World → Prop} {E : Prop}
theorem step_wanted (hgd : o.guard = none) (h : Oper.wp Tryz.prog o a w K Q) : if Region.wanted o (yielded ops a.tmps) = true then Oper.wp Tryz.prog o a w K Q else E := by
 have : Region.wanted o (yielded ops a.tmps) = true := by unfold Region.wanted; rw [hgd]
 rw [if_pos this]; exact h
theorem fill5 (z : Array Value) (hz : z.size = 5) (c0 c1 c2 c3 c4 : Value) : Instr.fill (fun i => some (i * 5, 5)) ((Array.range (1 * 5)).map (z[· % z.size]!)) [(0, .agg #[c0, c1, c2, c3, c4])] = some #[c0, c1, c2, c3, c4] := by
 have h : ((Array.range (1 * 5)).map (z[· % z.size]!)) = z := by
  apply Array.ext
  ·simp [hz]
  ·intro i h1 h2
   have : i % z.size = i := Nat.mod_eq_of_lt h2
   simp [this, getElem!_pos, h2]
 rw [h]
 obtain ⟨l⟩ := z
 match l, hz with
 | [a, b, c, d, e], _ =>
  have hc : (Value.agg #[c0, c1, c2, c3, c4]).cells = #[c0, c1, c2, c3, c4] := rfl
  simp [Instr.fill, hc, Array.foldl, Array.zipIdx]
theorem step_slice5 (hgd : o.guard = none) (x : Operand) (ho : o.op = .buildSlice 83 1 #[(0, x)]) {c0 c1 c2 c3 c4 : Value} (hx : a.eval x = .agg #[c0, c1, c2, c3, c4])
  (h : K (a.put o.dst (.slice (some ⟨w.heap.size, 0, none⟩) 1 1)) (w.alloc (.cells #[c0, c1, c2, c3, c4] 85))) : if Region.wanted o (yielded ops a.tmps) = true then Oper.wp Tryz.prog o a w K Q else E := by
 refine step_wanted hgd ?_
 obtain ⟨i0, hi, hz0, hz1, hz2⟩ := info_parts info85
 refine wp_buildSlice 83 85 1 #[(0, x)] ho _ i0 _ under83 hi hz0 (by rw [hz1]; decide) (by rw [hz1]; decide) ?_ h
 rw [hz1]
 simp only [List.map_toArray, List.map_cons, List.map_nil, hx]
 exact fill5 _ rfl c0 c1 c2 c3 c4
theorem fill1 (z : Array Value) (hz : z.size = 1) (x : Value) (h1 : x.oneCell' = true) : Instr.fill (fun i => some (i * 1, 1)) ((Array.range (1 * 1)).map (z[· % z.size]!)) [(0, x)] = some #[x] := by
 have h : ((Array.range (1 * 1)).map (z[· % z.size]!)) = z := by
  apply Array.ext
  ·simp [hz]
  ·intro i h1 h2
   have : i % z.size = i := Nat.mod_eq_of_lt h2
   simp [this, getElem!_pos, h2]
 rw [h]
 obtain ⟨l⟩ := z
 match l, hz with
 | [a], _ =>
  have hc : x.cells = #[x] := by cases x <;> first | rfl | cases h1
  simp [Instr.fill, hc, Array.foldl, Array.zipIdx]
theorem step_slice9 (hgd : o.guard = none) (x : Operand) (ho : o.op = .buildSlice 77 1 #[(0, x)]) {t : ByteArray} (hx : a.eval x = .string t)
  (h : K (a.put o.dst (.slice (some ⟨w.heap.size, 0, none⟩) 1 1)) (w.alloc (.cells #[.string t] 9))) : if Region.wanted o (yielded ops a.tmps) = true then Oper.wp Tryz.prog o a w K Q else E := by
 refine step_wanted hgd ?_
 obtain ⟨i0, hi, hz0, hz1, hz2⟩ := info_parts info9n
 refine wp_buildSlice 77 9 1 #[(0, x)] ho _ i0 _ under77n hi hz0 (by rw [hz1]; decide) (by rw [hz1]; decide) ?_ h
 rw [hz1]
 simp only [List.map_toArray, List.map_cons, List.map_nil, hx]
 exact fill1 _ rfl _ rfl
end
end Go.Proofs.YtjehnejgojgahaaGreatDoor
