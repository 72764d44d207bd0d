/-
  A part of the proof of MessageBack (bulk at most 1048576): the texts B2.
-/
import Derived.Test.YtjehnejgojgahaaGreatDoorU02
import Derived.Test.YtjehnejgojgahaaGreatDoorU05
import Derived.Laws.Rows
import Derived.Laws.ResultCell
import Derived.Laws.Tables
import Derived.Great.BuildSlice

/- B2 -/
namespace Go.Proofs.YtjehnejgojgahaaGreatDoor
open Go.RowKit
set_option linter.unusedVariables false
set_option linter.unusedSimpArgs false

def txt (t : Bytes) : Value := .string ⟨t.toArray⟩
/-- The five cells of a value whose list lies at A, whose keys lie at B. -/
def cells5 (k : Nat) (s : Bytes) (n : Nat) (vl vk : Value) : List Value := [.int .i64 k, txt s, .int .u64 n, vl, vk]
/-- At A (stride 5) and B (stride 1) lie these cells, all of them in blocks of X. -/
def LieAt (X : Nat → Prop) (w : World) (A : Option Addr) (stride i : Nat) (cs : List Value) : Prop :=
  ∃ b o, A = some ⟨b, o, none⟩ ∧ X b ∧ ∀ j x, cs[j]? = some x → w.cell? ⟨b, o + (stride * i + j), none⟩ = some x

inductive JIs (X : Nat → Prop) (w : World) : JV → List Value → Prop
  | mk {k : Nat} {s : Bytes} {n : Nat} {l : List JV} {ks : List Bytes} {A B : Option Addr} {c d : Nat} (cs : Nat → List Value)
      (hl : ∀ i v, l[i]? = some v → JIs X w v (cs i)) (h5 : ∀ i v, l[i]? = some v → (cs i).length = 5) (hc : ∀ i v, l[i]? = some v → LieAt X w A 5 i (cs i))
      (hk : ∀ i t, ks[i]? = some t → LieAt X w B 1 i [txt t]) :
      JIs X w (.mk k s n l ks) (cells5 k s n (.slice A l.length c) (.slice B ks.length d))

theorem LieAt.only {X Y : Nat → Prop} {w w' : World} {A : Option Addr} {st i : Nat} {cs : List Value} {G : Nat → Prop} (h : LieAt X w A st i cs) (hne : cs ≠ []) (ho : Only G w w')
    (hX : ∀ b, b < w.heap.size → X b → ¬ G b ∧ Y b) : LieAt Y w' A st i cs := by
  obtain ⟨b, o, e, hx, hc⟩ := h
  cases cs with
  | nil => exact absurd rfl hne
  | cons x cs =>
    have hb := cell_lt (hc 0 x rfl)
    have := hX b hb hx
    exact ⟨b, o, e, this.2, fun j y hy => ho.cell (hc j y hy) this.1⟩
theorem JIs.only {X Y : Nat → Prop} {w w' : World} {G : Nat → Prop} {v : JV} {cs : List Value} (h : JIs X w v cs) (ho : Only G w w') (hX : ∀ b, b < w.heap.size → X b → ¬ G b ∧ Y b) : JIs Y w' v cs := by
  induction h with
  | mk cs hl h5 hc hk ih =>
    refine .mk cs ih h5 (fun i v hv => (hc i v hv).only (fun e => ?_) ho hX) (fun i t ht => (hk i t ht).only (by simp) ho hX)
    have := h5 i v hv
    rw [e] at this; cases this
theorem JIs.mono {X Y : Nat → Prop} {w : World} {v : JV} {cs : List Value} (h : JIs X w v cs) (hX : ∀ b, b < w.heap.size → X b → Y b) : JIs Y w v cs :=
  h.only (Only.refl (fun _ => False) w) (fun b hb hx => ⟨id, hX b hb hx⟩)
theorem JIs.keep {X : Nat → Prop} {w w' : World} {v : JV} {cs : List Value} (h : JIs X w v cs) (ho : Only (fun _ => False) w w') : JIs X w' v cs :=
  h.only ho (fun b hb hx => ⟨id, hx⟩)
theorem JIs.plain (X : Nat → Prop) (w : World) (k : Nat) (s : Bytes) (n : Nat) (A B : Option Addr) (c d : Nat) : JIs X w (.mk k s n [] []) (cells5 k s n (.slice A 0 c) (.slice B 0 d)) :=
  .mk (fun _ => []) (fun i v h => by simp at h) (fun i v h => by simp at h) (fun i v h => by simp at h) (fun i v h => by simp at h)
theorem JIs.form {X : Nat → Prop} {w : World} {v : JV} {cs : List Value} (h : JIs X w v cs) :
    ∃ A c B d, cs = cells5 v.kind v.str v.num (.slice A v.list.length c) (.slice B v.keys.length d) := by
  cases h with
  | mk cs hl h5 hc hk => exact ⟨_, _, _, _, rfl⟩
theorem JIs.len {X : Nat → Prop} {w : World} {v : JV} {cs : List Value} (h : JIs X w v cs) : cs.length = 5 := by
  obtain ⟨A, c, B, d, rfl⟩ := h.form
  rfl

/-- The cells of values in a row. -/
def RowIs (X : Nat → Prop) (w : World) (l : List JV) (xs : List Value) : Prop :=
  xs.length = l.length * 5 ∧ ∀ i v, l[i]? = some v → JIs X w v ((xs.drop (5 * i)).take 5)
def cellsK (ks : List Bytes) : List Value := ks.map txt

theorem RowIs.nil (X : Nat → Prop) (w : World) : RowIs X w [] [] := ⟨rfl, fun i v h => by simp at h⟩
theorem RowIs.only {X Y : Nat → Prop} {w w' : World} {G : Nat → Prop} {l : List JV} {xs : List Value} (h : RowIs X w l xs) (ho : Only G w w') (hX : ∀ b, b < w.heap.size → X b → ¬ G b ∧ Y b) : RowIs Y w' l xs :=
  ⟨h.1, fun i v hv => (h.2 i v hv).only ho hX⟩
theorem RowIs.snoc {X : Nat → Prop} {w : World} {l : List JV} {xs : List Value} {v : JV} {cs : List Value} (h : RowIs X w l xs) (hv : JIs X w v cs) : RowIs X w (l ++ [v]) (xs ++ cs) := by
  refine ⟨by rw [List.length_append, List.length_append, h.1, hv.len]; simp; omega, ?_⟩
  intro i u hu
  rcases Nat.lt_or_ge i l.length with hi | hi
  · rw [List.getElem?_append_left hi] at hu
    have := h.2 i u hu
    have hd : 5 * i ≤ xs.length := by rw [h.1]; omega
    rw [List.drop_append_of_le_length hd, List.take_append_of_le_length (by rw [List.length_drop, h.1]; omega)]
    exact this
  · rw [List.getElem?_append_right hi] at hu
    have : i - l.length = 0 := by
      rcases Nat.eq_zero_or_pos (i - l.length) with e | e
      · exact e
      · rw [List.getElem?_eq_none (by simp; omega)] at hu; cases hu
    rw [this] at hu
    simp at hu
    subst hu
    obtain rfl : i = l.length := by omega
    rw [show 5 * l.length = xs.length by rw [h.1]; omega, List.drop_left, List.take_of_length_le (by rw [hv.len]; exact Nat.le_refl _)]
    exact hv

/-- A value out of its rows. -/
theorem jis_of_rows {X : Nat → Prop} {w : World} {base : Nat} {e f : TypeId} {k : Nat} {s : Bytes} {n : Nat} {l : List JV} {ks : List Bytes} {vl vk : Value} {xs : List Value}
    (hL : w.ownsRow base e 5 vl l.length xs) (hK : w.ownsRow base f 1 vk ks.length (cellsK ks)) (hx : RowIs X w l xs)
    (hXl : ∀ b, vl.ownBlock = some b → X b) (hXk : ∀ b, vk.ownBlock = some b → X b) : JIs X w (.mk k s n l ks) (cells5 k s n vl vk) := by
  obtain ⟨A, c, rfl⟩ : ∃ A c, vl = .slice A l.length c := by
    rcases hL.2 with ⟨rfl, hn⟩ | ⟨g, cap, cur, rfl, _⟩
    · exact ⟨none, 0, by rw [hn]⟩
    · exact ⟨_, _, rfl⟩
  obtain ⟨B, d, rfl⟩ : ∃ A c, vk = .slice A ks.length c := by
    rcases hK.2 with ⟨rfl, hn⟩ | ⟨g, cap, cur, rfl, _⟩
    · exact ⟨none, 0, by rw [hn]⟩
    · exact ⟨_, _, rfl⟩
  have own_at : ∀ {T : TypeId} {st m c : Nat} {A : Option Addr} {ys : List Value}, w.ownsRow base T st (.slice A m c) m ys → 0 < m → ∃ g, A = some ⟨g, 0, none⟩ ∧ ∀ j x, ys[j]? = some x → w.cell? ⟨g, j, none⟩ = some x := by
    intro T st m c A ys h hm
    rcases h.2 with ⟨e, hn⟩ | ⟨g, cap, cur, e, _⟩
    · omega
    · cases e
      refine ⟨g, rfl, fun j x hj => ?_⟩
      have := World.ownsRow.cells h (g := g) rfl j x hj
      unfold Addr.add at this
      by_cases h0 : j = 0
      · subst h0; simpa using this
      · rw [if_neg h0] at this; simpa using this
  refine .mk (fun i => (xs.drop (5 * i)).take 5) hx.2 (fun i v hv => (hx.2 i v hv).len) ?_ ?_
  · intro i v hv
    have hi := (List.getElem?_eq_some_iff.1 hv).1
    obtain ⟨g, rfl, hg⟩ := own_at hL (by omega)
    refine ⟨g, 0, rfl, hXl g rfl, ?_⟩
    intro j x hj
    rw [Nat.zero_add]
    refine hg _ _ ?_
    rw [List.getElem?_take, List.getElem?_drop] at hj
    split at hj
    · exact hj
    · cases hj
  · intro i t ht
    have hi := (List.getElem?_eq_some_iff.1 ht).1
    obtain ⟨g, rfl, hg⟩ := own_at hK (by omega)
    refine ⟨g, 0, rfl, hXk g rfl, ?_⟩
    intro j x hj
    cases j with
    | succ j => simp at hj
    | zero =>
      simp at hj; subst hj
      rw [Nat.zero_add, Nat.one_mul, Nat.add_zero]
      refine hg _ _ ?_
      unfold cellsK
      rw [List.getElem?_map, ht]; rfl

/-! Rows that a call makes: a store far off, a call that leaves them, an append. -/
theorem own_only {w w' : World} {base : Nat} {e : TypeId} {st n : Nat} {v : Value} {xs : List Value} {G : Nat → Prop} (h : w.ownsRow base e st v n xs) (ho : Only G w w') (hne : ∀ k, v.ownBlock = some k → ¬ G k) : w'.ownsRow base e st v n xs := by
  refine ⟨h.1, ?_⟩
  rcases h.2 with hn | ⟨g, cap, cur, rfl, hb, hgg, rest⟩
  · exact .inl hn
  · refine .inr ⟨g, cap, cur, rfl, hb, ?_, rest⟩
    rw [ho.block g (Array.getElem?_eq_some_iff.1 hgg).1 (hne g rfl)]
    exact hgg
theorem own_mono {w : World} {base base' : Nat} {e : TypeId} {st n : Nat} {v : Value} {xs : List Value} (h : w.ownsRow base e st v n xs) (hb : base' ≤ base) : w.ownsRow base' e st v n xs := by
  refine ⟨h.1, ?_⟩
  rcases h.2 with hn | ⟨g, cap, cur, e, h1, r⟩
  · exact .inl hn
  · exact .inr ⟨g, cap, cur, e, Nat.le_trans hb h1, r⟩

/-! Results that lie in memory. -/
theorem results_cell {fn : Func} {p : Tmp} {ty : TypeId} (h : fn.results = #[.cell p ty]) (tmps : Array Value) (P : Program) (w : World) {a : Addr} (hp : tmps.getD p undef = .pointer (some a)) {v : Value}
    (hl : (loadVar ty a).run P w = .ok v w) : (results fn tmps).run P w = .ok v w := by
  simp only [results, h]
  simp [Sem.run_bind, Result.andThen]
  rw [Array.getD_eq_getD_getElem?] at hp
  rw [hp]
  simp [asAddr, hl]
theorem results_cell_tmp' {fn : Func} {p u : Tmp} {ty : TypeId} (h : fn.results = #[.cell p ty, .tmp u]) (tmps : Array Value) (P : Program) (w : World) {a : Addr} (hp : tmps.getD p undef = .pointer (some a)) {v : Value}
    (hl : (loadVar ty a).run P w = .ok v w) : (results fn tmps).run P w = .ok (.tuple #[v, tmps.getD u undef]) w := by
  rw [results_cell_tmp h, hp]
  simp [asAddr, hl, Result.andThen]
def aggD : TypeDesc → Bool
  | .struct _ | .array _ _ => true
  | _ => false
theorem load_row (P : Program) (w : World) (g : Nat) (T ty : TypeId) (cs : List Value) (hB : Blk w g cs T) (hu : (P.underlying ty).map aggD = some true) (hi : (P.info? ty).map (·.size) = some cs.toArray.size) :
    (loadVar ty ⟨g, 0, none⟩).run P w = .ok (.agg cs.toArray) w := by
  cases hd : P.underlying ty with
  | none => rw [hd] at hu; cases hu
  | some d =>
    rw [hd] at hu
    refine run_loadVar_row w g T ty cs.toArray (0, 0) d hB hd ?_ hi
    have h2 : aggD d = true := by simpa using hu
    cases d <;> first | rfl | cases h2
theorem ret_cell {P : Program} {fn : Func} {p : Tmp} {ty : TypeId} {tmps : Array Value} {w : World} {g : Nat} {cs : List Value} {T : TypeId} (h : fn.results = #[.cell p ty]) (hp : tmps.getD p undef = .pointer (some ⟨g, 0, none⟩))
    (hB : Blk w g cs T) (hu : (P.underlying ty).map aggD = some true) (hi : (P.info? ty).map (·.size) = some cs.toArray.size) :
    (results fn tmps).run P w = .ok (.agg cs.toArray) w := by
  exact results_cell h tmps P w hp (load_row P w g T ty cs hB hu hi)
theorem ret_cell_tmp {P : Program} {fn : Func} {p u : Tmp} {ty : TypeId} {tmps : Array Value} {w : World} {g : Nat} {cs : List Value} {T : TypeId} (h : fn.results = #[.cell p ty, .tmp u]) (hp : tmps.getD p undef = .pointer (some ⟨g, 0, none⟩))
    (hB : Blk w g cs T) (hu : (P.underlying ty).map aggD = some true) (hi : (P.info? ty).map (·.size) = some cs.toArray.size) :
    (results fn tmps).run P w = .ok (.tuple #[.agg cs.toArray, tmps.getD u undef]) w := by
  exact results_cell_tmp' h tmps P w hp (load_row P w g T ty cs hB hu hi)

section
variable {P : Program} {ops : Array Oper} {rest : List Oper} {o : Oper} {a : Act} {w : World} {Q : Exit → Act → World → Prop}
theorem Only.setRow {G : Nat → Prop} {g : Nat} {cs : Array Value} {a w : World} (h : Only G a w) (hg : g < a.heap.size → G g) : Only G a (w.setRow g cs) :=
  ⟨h.os, h.tape, h.output, by have := h.size; unfold World.setRow; simpa using this, fun k hk hG => by
    have hne : g ≠ k := by rintro rfl; exact hG (hg hk)
    have := h.block k hk hG
    rw [← this]
    unfold World.setRow
    simp [Array.getElem?_modify, hne]⟩
/-- A whole struct or array is stored into a variable. -/
theorem wpList_store_blk (hgd : o.guard = none) (ty : TypeId) (x y : Operand) (ho : o.op = .store ty x y) (hd : o.dst = none) {g : Nat} {old cs : List Value} {T : TypeId} (hx : a.eval x = .pointer (some ⟨g, 0, none⟩)) (hy : a.eval y = .agg cs.toArray)
    (hB : Blk w g old T) (hold : old.length = cs.length) (hi : (P.info? ty).map (·.size) = some cs.toArray.size) (h1 : cs.all (·.oneCell') = true)
    (h : ∀ w', Blk w' g cs T → Only (· = g) w w' → wpList P ops Q rest a w') : wpList P ops Q (o :: rest) a w := by
  refine wpList_store_rowTo hgd ty x y ho hd g cs.toArray hx hy T old.toArray hB hi (by simpa using hold) (by simpa using h1) (h _ ?_ ((Only.refl _ _).setRow (fun _ => rfl)))
  have hb : w.heap[g]? = some (.cells old.toArray T (0, 0)) := hB
  show (w.setRow g cs.toArray).heap[g]? = _
  unfold World.setRow
  simp [Array.getElem?_modify, hb]
/-- A whole struct or array is read out of a variable. -/
theorem wpList_load_blk (hgd : o.guard = none) (ty : TypeId) (x : Operand) (ho : o.op = .load ty x) {g : Nat} {cs : List Value} {T : TypeId} (hx : a.eval x = .pointer (some ⟨g, 0, none⟩))
    (hB : Blk w g cs T) (hu : (P.underlying ty).map aggD = some true) (hi : (P.info? ty).map (·.size) = some cs.toArray.size)
    (h : wpList P ops Q rest (a.put o.dst (.agg cs.toArray)) w) : wpList P ops Q (o :: rest) a w := by
  cases hd : P.underlying ty with
  | none => rw [hd] at hu; cases hu
  | some d =>
    rw [hd] at hu
    refine wpList_load_row hgd ty x ho g hx T cs.toArray (0, 0) d hB hd ?_ hi h
    have h2 : aggD d = true := by simpa using hu
    cases d <;> first | rfl | cases h2
end
end Go.Proofs.YtjehnejgojgahaaGreatDoor
