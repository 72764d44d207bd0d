/-
  A part of the proof of MessageTakes: the texts B2 R7.
-/
import Derived.Test.YtjehnejgojgahaaGreatDoorK02
import Derived.Test.YtjehnejgojgahaaGreatDoorK03
import Derived.Test.YtjehnejgojgahaaGreatDoorK04
import Derived.Laws.Rows
import Derived.Laws.ResultCell
import Derived.Laws.Tables
import Derived.Great.BuildSlice
namespace Go.Proofs.YtjehnejgojgahaaGreatDoor
open Go.RowKit
set_option linter.unusedVariables false
set_option linter.unusedSimpArgs false
def txt (t : Bytes) : Value := .string ⟨t.toArray⟩
def cells5 (k : Nat) (s : Bytes) (n : Nat) (vl vk : Value) : List Value := [.int .i64 k, txt s, .int .u64 n, vl, vk]
def LieAt (X : Nat → Prop) (w : World) (A : Option Addr) (stride i : Nat) (cs : List Value) : Prop :=
 ∃ b o, A = some ⟨b, o, none⟩ ∧ X b ∧ ∀ j x, cs[j]? = some x → w.cell? ⟨b, o + (stride * i + j), none⟩ = some x
inductive JIs (X : Nat → Prop) (w : World) : JV → List Value → Prop
 | mk {k : Nat} {s : Bytes} {n : Nat} {l : List JV} {ks : List Bytes} {A B : Option Addr} {c d : Nat} (cs : Nat → List Value)
   (hl : ∀ i v, l[i]? = some v → JIs X w v (cs i)) (h5 : ∀ i v, l[i]? = some v → (cs i).length = 5) (hc : ∀ i v, l[i]? = some v → LieAt X w A 5 i (cs i))
   (hk : ∀ i t, ks[i]? = some t → LieAt X w B 1 i [txt t]) :
   JIs X w (.mk k s n l ks) (cells5 k s n (.slice A l.length c) (.slice B ks.length d))
theorem LieAt.only {X Y : Nat → Prop} {w w' : World} {A : Option Addr} {st i : Nat} {cs : List Value} {G : Nat → Prop} (h : LieAt X w A st i cs) (hne : cs ≠ []) (ho : Only G w w')
  (hX : ∀ b, b < w.heap.size → X b → ¬ G b ∧ Y b) : LieAt Y w' A st i cs := by
 obtain ⟨b, o, e, hx, hc⟩ := h
 cases cs with
 | nil => exact absurd rfl hne
 | cons x cs =>
  have hb := cell_lt (hc 0 x rfl)
  have := hX b hb hx
  exact ⟨b, o, e, this.2, fun j y hy => ho.cell (hc j y hy) this.1⟩
theorem JIs.only {X Y : Nat → Prop} {w w' : World} {G : Nat → Prop} {v : JV} {cs : List Value} (h : JIs X w v cs) (ho : Only G w w') (hX : ∀ b, b < w.heap.size → X b → ¬ G b ∧ Y b) : JIs Y w' v cs := by
 induction h with
 | mk cs hl h5 hc hk ih =>
  refine .mk cs ih h5 (fun i v hv => (hc i v hv).only (fun e => ?_) ho hX) (fun i t ht => (hk i t ht).only (by simp) ho hX)
  have := h5 i v hv
  rw [e] at this; cases this
theorem JIs.mono {X Y : Nat → Prop} {w : World} {v : JV} {cs : List Value} (h : JIs X w v cs) (hX : ∀ b, b < w.heap.size → X b → Y b) : JIs Y w v cs :=
 h.only (Only.refl (fun _ => False) w) (fun b hb hx => ⟨id, hX b hb hx⟩)
theorem JIs.keep {X : Nat → Prop} {w w' : World} {v : JV} {cs : List Value} (h : JIs X w v cs) (ho : Only (fun _ => False) w w') : JIs X w' v cs :=
 h.only ho (fun b hb hx => ⟨id, hx⟩)
theorem JIs.plain (X : Nat → Prop) (w : World) (k : Nat) (s : Bytes) (n : Nat) (A B : Option Addr) (c d : Nat) : JIs X w (.mk k s n [] []) (cells5 k s n (.slice A 0 c) (.slice B 0 d)) :=
 .mk (fun _ => []) (fun i v h => by simp at h) (fun i v h => by simp at h) (fun i v h => by simp at h) (fun i v h => by simp at h)
theorem JIs.form {X : Nat → Prop} {w : World} {v : JV} {cs : List Value} (h : JIs X w v cs) :
  ∃ A c B d, cs = cells5 v.kind v.str v.num (.slice A v.list.length c) (.slice B v.keys.length d) := by
 cases h with
 | mk cs hl h5 hc hk => exact ⟨_, _, _, _, rfl⟩
theorem JIs.len {X : Nat → Prop} {w : World} {v : JV} {cs : List Value} (h : JIs X w v cs) : cs.length = 5 := by
 obtain ⟨A, c, B, d, rfl⟩ := h.form
 rfl
def RowIs (X : Nat → Prop) (w : World) (l : List JV) (xs : List Value) : Prop :=
 xs.length = l.length * 5 ∧ ∀ i v, l[i]? = some v → JIs X w v ((xs.drop (5 * i)).take 5)
def cellsK (ks : List Bytes) : List Value := ks.map txt
theorem RowIs.nil (X : Nat → Prop) (w : World) : RowIs X w [] [] := ⟨rfl, fun i v h => by simp at h⟩
theorem RowIs.only {X Y : Nat → Prop} {w w' : World} {G : Nat → Prop} {l : List JV} {xs : List Value} (h : RowIs X w l xs) (ho : Only G w w') (hX : ∀ b, b < w.heap.size → X b → ¬ G b ∧ Y b) : RowIs Y w' l xs :=
 ⟨h.1, fun i v hv => (h.2 i v hv).only ho hX⟩
theorem RowIs.snoc {X : Nat → Prop} {w : World} {l : List JV} {xs : List Value} {v : JV} {cs : List Value} (h : RowIs X w l xs) (hv : JIs X w v cs) : RowIs X w (l ++ [v]) (xs ++ cs) := by
 refine ⟨by rw [List.length_append, List.length_append, h.1, hv.len]; simp; omega, ?_⟩
 intro i u hu
 rcases Nat.lt_or_ge i l.length with hi | hi
 ·rw [List.getElem?_append_left hi] at hu
  have := h.2 i u hu
  have hd : 5 * i ≤ xs.length := by rw [h.1]; omega
  rw [List.drop_append_of_le_length hd, List.take_append_of_le_length (by rw [List.length_drop, h.1]; omega)]
  exact this
 ·rw [List.getElem?_append_right hi] at hu
  have : i - l.length = 0 := by
   rcases Nat.eq_zero_or_pos (i - l.length) with e | e
   ·exact e
   ·rw [List.getElem?_eq_none (by simp; omega)] at hu; cases hu
  rw [this] at hu
  simp at hu
  subst hu
  obtain rfl : i = l.length := by omega
  rw [show 5 * l.length = xs.length by rw [h.1]; omega, List.drop_left, List.take_of_length_le (by rw [hv.len]; exact Nat.le_refl _)]
  exact hv
theorem jis_of_rows {X : Nat → Prop} {w : World} {base : Nat} {e f : TypeId} {k : Nat} {s : Bytes} {n : Nat} {l : List JV} {ks : List Bytes} {vl vk : Value} {xs : List Value}
  (hL : w.ownsRow base e 5 vl l.length xs) (hK : w.ownsRow base f 1 vk ks.length (cellsK ks)) (hx : RowIs X w l xs)
  (hXl : ∀ b, vl.ownBlock = some b → X b) (hXk : ∀ b, vk.ownBlock = some b → X b) : JIs X w (.mk k s n l ks) (cells5 k s n vl vk) := by
 obtain ⟨A, c, rfl⟩ : ∃ A c, vl = .slice A l.length c := by
  rcases hL.2 with ⟨rfl, hn⟩ | ⟨g, cap, cur, rfl, _⟩
  ·exact ⟨none, 0, by rw [hn]⟩
  ·exact ⟨_, _, rfl⟩
 obtain ⟨B, d, rfl⟩ : ∃ A c, vk = .slice A ks.length c := by
  rcases hK.2 with ⟨rfl, hn⟩ | ⟨g, cap, cur, rfl, _⟩
  ·exact ⟨none, 0, by rw [hn]⟩
  ·exact ⟨_, _, rfl⟩
 have own_at : ∀ {T : TypeId} {st m c : Nat} {A : Option Addr} {ys : List Value}, w.ownsRow base T st (.slice A m c) m ys → 0 < m → ∃ g, A = some ⟨g, 0, none⟩ ∧ ∀ j x, ys[j]? = some x → w.cell? ⟨g, j, none⟩ = some x := by
  intro T st m c A ys h hm
  rcases h.2 with ⟨e, hn⟩ | ⟨g, cap, cur, e, _⟩
  ·omega
  ·cases e
   refine ⟨g, rfl, fun j x hj => ?_⟩
   have := World.ownsRow.cells h (g := g) rfl j x hj
   unfold Addr.add at this
   by_cases h0 : j = 0
   ·subst h0; simpa using this
   ·rw [if_neg h0] at this; simpa using this
 refine .mk (fun i => (xs.drop (5 * i)).take 5) hx.2 (fun i v hv => (hx.2 i v hv).len) ?_ ?_
 ·intro i v hv
  have hi := (List.getElem?_eq_some_iff.1 hv).1
  obtain ⟨g, rfl, hg⟩ := own_at hL (by omega)
  refine ⟨g, 0, rfl, hXl g rfl, ?_⟩
  intro j x hj
  rw [Nat.zero_add]
  refine hg _ _ ?_
  rw [List.getElem?_take, List.getElem?_drop] at hj
  split at hj
  ·exact hj
  ·cases hj
 ·intro i t ht
  have hi := (List.getElem?_eq_some_iff.1 ht).1
  obtain ⟨g, rfl, hg⟩ := own_at hK (by omega)
  refine ⟨g, 0, rfl, hXk g rfl, ?_⟩
  intro j x hj
  cases j with
  | succ j => simp at hj
  | zero =>
   simp at hj; subst hj
   rw [Nat.zero_add, Nat.one_mul, Nat.add_zero]
   refine hg _ _ ?_
   unfold cellsK
   rw [List.getElem?_map, ht]; rfl
theorem own_only {w w' : World} {base : Nat} {e : TypeId} {st n : Nat} {v : Value} {xs : List Value} {G : Nat → Prop} (h : w.ownsRow base e st v n xs) (ho : Only G w w') (hne : ∀ k, v.ownBlock = some k → ¬ G k) : w'.ownsRow base e st v n xs := by
 refine ⟨h.1, ?_⟩
 rcases h.2 with hn | ⟨g, cap, cur, rfl, hb, hgg, rest⟩
 ·exact .inl hn
 ·refine .inr ⟨g, cap, cur, rfl, hb, ?_, rest⟩
  rw [ho.block g (Array.getElem?_eq_some_iff.1 hgg).1 (hne g rfl)]
  exact hgg
theorem own_mono {w : World} {base base' : Nat} {e : TypeId} {st n : Nat} {v : Value} {xs : List Value} (h : w.ownsRow base e st v n xs) (hb : base' ≤ base) : w.ownsRow base' e st v n xs := by
 refine ⟨h.1, ?_⟩
 rcases h.2 with hn | ⟨g, cap, cur, e, h1, r⟩
 ·exact .inl hn
 ·exact .inr ⟨g, cap, cur, e, Nat.le_trans hb h1, r⟩
theorem results_cell {fn : Func} {p : Tmp} {ty : TypeId} (h : fn.results = #[.cell p ty]) (tmps : Array Value) (P : Program) (w : World) {a : Addr} (hp : tmps.getD p undef = .pointer (some a)) {v : Value}
  (hl : (loadVar ty a).run P w = .ok v w) : (results fn tmps).run P w = .ok v w := by
 simp only [results, h]
 simp [Sem.run_bind, Result.andThen]
 rw [Array.getD_eq_getD_getElem?] at hp
 rw [hp]
 simp [asAddr, hl]
theorem results_cell_tmp' {fn : Func} {p u : Tmp} {ty : TypeId} (h : fn.results = #[.cell p ty, .tmp u]) (tmps : Array Value) (P : Program) (w : World) {a : Addr} (hp : tmps.getD p undef = .pointer (some a)) {v : Value}
  (hl : (loadVar ty a).run P w = .ok v w) : (results fn tmps).run P w = .ok (.tuple #[v, tmps.getD u undef]) w := by
 rw [results_cell_tmp h, hp]
 simp [asAddr, hl, Result.andThen]
def aggD : TypeDesc → Bool
 | .struct _ | .array _ _ => true
 | _ => false
theorem load_row (P : Program) (w : World) (g : Nat) (T ty : TypeId) (cs : List Value) (hB : Blk w g cs T) (hu : (P.underlying ty).map aggD = some true) (hi : (P.info? ty).map (·.size) = some cs.toArray.size) :
  (loadVar ty ⟨g, 0, none⟩).run P w = .ok (.agg cs.toArray) w := by
 cases hd : P.underlying ty with
 | none => rw [hd] at hu; cases hu
 | some d =>
  rw [hd] at hu
  refine run_loadVar_row w g T ty cs.toArray (0, 0) d hB hd ?_ hi
  have h2 : aggD d = true := by simpa using hu
  cases d <;> first | rfl | cases h2
theorem ret_cell {P : Program} {fn : Func} {p : Tmp} {ty : TypeId} {tmps : Array Value} {w : World} {g : Nat} {cs : List Value} {T : TypeId} (h : fn.results = #[.cell p ty]) (hp : tmps.getD p undef = .pointer (some ⟨g, 0, none⟩))
  (hB : Blk w g cs T) (hu : (P.underlying ty).map aggD = some true) (hi : (P.info? ty).map (·.size) = some cs.toArray.size) :
  (results fn tmps).run P w = .ok (.agg cs.toArray) w := by
 exact results_cell h tmps P w hp (load_row P w g T ty cs hB hu hi)
theorem ret_cell_tmp {P : Program} {fn : Func} {p u : Tmp} {ty : TypeId} {tmps : Array Value} {w : World} {g : Nat} {cs : List Value} {T : TypeId} (h : fn.results = #[.cell p ty, .tmp u]) (hp : tmps.getD p undef = .pointer (some ⟨g, 0, none⟩))
  (hB : Blk w g cs T) (hu : (P.underlying ty).map aggD = some true) (hi : (P.info? ty).map (·.size) = some cs.toArray.size) :
  (results fn tmps).run P w = .ok (.tuple #[.agg cs.toArray, tmps.getD u undef]) w := by
 exact results_cell_tmp' h tmps P w hp (load_row P w g T ty cs hB hu hi)
section
variable {P : Program} {ops : Array Oper} {rest : List Oper} {o : Oper} {a : Act} {w : World} {Q : Exit → Act → World → Prop}
theorem Only.setRow {G : Nat → Prop} {g : Nat} {cs : Array Value} {a w : World} (h : Only G a w) (hg : g < a.heap.size → G g) : Only G a (w.setRow g cs) :=
 ⟨h.os, h.tape, h.output, by have := h.size; unfold World.setRow; simpa using this, fun k hk hG => by
  have hne : g ≠ k := by rintro rfl; exact hG (hg hk)
  have := h.block k hk hG
  rw [← this]
  unfold World.setRow
  simp [Array.getElem?_modify, hne]⟩
theorem wpList_store_blk (hgd : o.guard = none) (ty : TypeId) (x y : Operand) (ho : o.op = .store ty x y) (hd : o.dst = none) {g : Nat} {old cs : List Value} {T : TypeId} (hx : a.eval x = .pointer (some ⟨g, 0, none⟩)) (hy : a.eval y = .agg cs.toArray)
  (hB : Blk w g old T) (hold : old.length = cs.length) (hi : (P.info? ty).map (·.size) = some cs.toArray.size) (h1 : cs.all (·.oneCell') = true)
  (h : ∀ w', Blk w' g cs T → Only (· = g) w w' → wpList P ops Q rest a w') : wpList P ops Q (o :: rest) a w := by
 refine wpList_store_rowTo hgd ty x y ho hd g cs.toArray hx hy T old.toArray hB hi (by simpa using hold) (by simpa using h1) (h _ ?_ ((Only.refl _ _).setRow (fun _ => rfl)))
 have hb : w.heap[g]? = some (.cells old.toArray T (0, 0)) := hB
 show (w.setRow g cs.toArray).heap[g]? = _
 unfold World.setRow
 simp [Array.getElem?_modify, hb]
theorem wpList_load_blk (hgd : o.guard = none) (ty : TypeId) (x : Operand) (ho : o.op = .load ty x) {g : Nat} {cs : List Value} {T : TypeId} (hx : a.eval x = .pointer (some ⟨g, 0, none⟩))
  (hB : Blk w g cs T) (hu : (P.underlying ty).map aggD = some true) (hi : (P.info? ty).map (·.size) = some cs.toArray.size)
  (h : wpList P ops Q rest (a.put o.dst (.agg cs.toArray)) w) : wpList P ops Q (o :: rest) a w := by
 cases hd : P.underlying ty with
 | none => rw [hd] at hu; cases hu
 | some d =>
  rw [hd] at hu
  refine wpList_load_row hgd ty x ho g hx T cs.toArray (0, 0) d hB hd ?_ hi h
  have h2 : aggD d = true := by simpa using hu
  cases d <;> first | rfl | cases h2
end
def isS (x : UInt8) (r : Bytes) : Bytes := if r.head? = some x then r.tail else r
def IsAny (g : Nat) (A : Option Addr) (c : Nat) (l : Bytes) (s : Option Bytes) (x : UInt8) (w : World) (b : Bool) (w' : World) : Prop :=
 RSo w' g A c l (s.map (isS x)) ∧ Only (· = g) w w' ∧ (∀ r, s = some r → b = decide (r.head? = some x))
theorem is_any {g : Nat} {A : Option Addr} {c : Nat} {l : Bytes} {s : Option Bytes} {x : UInt8} {w : World} (hR : RSo w g A c l s) :
  Calls Tryz.prog 91 #[.pointer (some ⟨g, 0, none⟩), .int .u8 x.toNat] w (fun e w' => ∃ b, e = .returned (.bool b) ∧ IsAny g A c l s x w b w') := by
 cases s with
 | none =>
  refine (is_bad_o hR).mono ?_
  rintro e w' ⟨⟨b, he⟩, hr, ho⟩
  exact ⟨b, he, hr, ho, fun r h => by cases h⟩
 | some r =>
  by_cases hx : r.head? = some x
  ·obtain ⟨q, rfl⟩ : ∃ q, r = x :: q := by
    cases r with
    | nil => cases hx
    | cons a q => cases hx; exact ⟨q, rfl⟩
   refine (is_yes_o hR).mono ?_
   rintro e w' ⟨he, hr, ho⟩
   exact ⟨true, he, by simpa [isS] using hr, ho, fun r h => by cases h; simp⟩
  ·refine (is_no_o hR hx).mono ?_
   rintro e w' ⟨he, hr, ho⟩
   exact ⟨false, he, by simpa [isS, hx] using hr, ho, fun r h => by cases h; simp [hx]⟩
def NumAny (g : Nat) (A : Option Addr) (c : Nat) (l : Bytes) (s : Option Bytes) (w : World) (n : Nat) (w' : World) : Prop :=
 RSo w' g A c l ((s.bind numB).map (·.2)) ∧ Only (· = g) w w' ∧ (∀ p, s.bind numB = some p → n = p.1)
theorem num_any {g : Nat} {A : Option Addr} {c : Nat} {l : Bytes} {s : Option Bytes} {w : World} (hR : RSo w g A c l s) :
  Calls Tryz.prog 92 #[.pointer (some ⟨g, 0, none⟩)] w (fun e w' => ∃ n : Nat, e = .returned (.int .u64 n) ∧ NumAny g A c l s w n w') := by
 obtain ⟨j, h, hd⟩ := hR.get
 refine (num_at h).mono ?_
 rintro e w' ⟨ho, n, j', he, ⟨r, hn, hr, hd'⟩ | ⟨hn, hr⟩⟩
 ·cases s with
  | none => exact ⟨n, he, ⟨j', hr⟩, ho, fun p hp => by cases hp⟩
  | some q =>
   rw [hd q rfl] at hn
   exact ⟨n, he, by simp only [Option.bind_some, hn, Option.map_some]; exact ⟨j', hr, hd'⟩, ho, fun p hp => by simp only [Option.bind_some, hn] at hp; cases hp; rfl⟩
 ·cases s with
  | none => exact ⟨n, he, ⟨j', hr⟩, ho, fun p hp => by cases hp⟩
  | some q =>
   rw [hd q rfl] at hn
   exact ⟨n, he, by simp only [Option.bind_some, hn]; exact ⟨j', hr⟩, ho, fun p hp => by simp only [Option.bind_some, hn] at hp; cases hp⟩
def Enough (f k : Nat) (s : Option Bytes) : Prop := ∀ r, s = some r → 2 * r.length + k ≤ f
def Five (cs : List Value) : Prop := ∃ (k : Int) (t : ByteArray) (n : Int) (A : Option Addr) (a c : Nat) (B : Option Addr) (b d : Nat), cs = [.int .i64 k, .string t, .int .u64 n, .slice A a c, .slice B b d]
def ValAt (g : Nat) (A : Option Addr) (c : Nat) (l : Bytes) (T : Option (JV × Bytes)) (w : World) (cs : List Value) (w' : World) : Prop :=
 Five cs ∧ RSo w' g A c l (T.map (·.2)) ∧ Only (· = g) w w' ∧ (∀ p, T = some p → JIs (w.heap.size ≤ ·) w' p.1 cs)
def ValueSaid (f : Nat) : Prop := ∀ (g : Nat) (A : Option Addr) (c : Nat) (l : Bytes) (s : Option Bytes) (w : World) (m : Nat), m ≤ 8 → RSo w g A c l s → Enough f 2 s →
 Calls Tryz.prog 67 #[.pointer (some ⟨g, 0, none⟩), .int .i64 m] w (fun e w' => ∃ cs, e = .returned (.agg cs.toArray) ∧ ValAt g A c l (s.bind (valB f m)) w cs w')
theorem RSo.only {w w' : World} {g : Nat} {A : Option Addr} {c : Nat} {l : Bytes} {s : Option Bytes} {G : Nat → Prop} (h : RSo w g A c l s) (ho : Only G w w') (hg : ¬ G g)
  (hA : ∀ b o, A = some ⟨b, o, none⟩ → l ≠ [] → ¬ G b) : RSo w' g A c l s := by
 obtain ⟨j, h, e⟩ := h.get
 exact RSo.mk (h.only ho hg hA) e
theorem RSo.low {w : World} {g : Nat} {A : Option Addr} {c : Nat} {l : Bytes} {s : Option Bytes} (h : RSo w g A c l s) : g < w.heap.size ∧ LowA A l w.heap.size := by
 obtain ⟨j, h, _⟩ := h.get
 exact ⟨h.blk.lt, h.bytes.low⟩
theorem RSo.alloc {w : World} {g : Nat} {A : Option Addr} {c : Nat} {l : Bytes} {s : Option Bytes} (h : RSo w g A c l s) (o : Obj) : RSo (w.alloc o) g A c l s :=
 h.only (G := fun _ => False) ((Only.refl _ _).alloc o) id (fun _ _ _ _ => id)
theorem Blk.five {w : World} {g : Nat} {a b c d e : Value} {T : TypeId} (h : Blk w g [a, b, c, d, e] T) :
  (w.cell? ⟨g, 0, none⟩ = some a ∧ w.cell? ⟨g, 1, none⟩ = some b ∧ w.cell? ⟨g, 2, none⟩ = some c ∧ w.cell? ⟨g, 3, none⟩ = some d ∧ w.cell? ⟨g, 4, none⟩ = some e) ∧
  (w.frozen? ⟨g, 0, none⟩ = false ∧ w.frozen? ⟨g, 1, none⟩ = false ∧ w.frozen? ⟨g, 2, none⟩ = false ∧ w.frozen? ⟨g, 3, none⟩ = false ∧ w.frozen? ⟨g, 4, none⟩ = false) :=
 ⟨⟨h.cell 0 rfl, h.cell 1 rfl, h.cell 2 rfl, h.cell 3 rfl, h.cell 4 rfl⟩, h.frozen 0, h.frozen 1, h.frozen 2, h.frozen 3, h.frozen 4⟩
def Z5 : List Value := [.int .i64 0, .string ⟨#[]⟩, .int .u64 0, .slice none 0 0, .slice none 0 0]
theorem info85s : (Tryz.prog.info? 85).map (·.size) = some 5 := by kernel_rfl
theorem agg85 : (Tryz.prog.underlying 85).map aggD = some true := by kernel_rfl
theorem Z5_five : Five Z5 := ⟨0, _, 0, none, 0, 0, none, 0, 0, rfl⟩
theorem Blk.call {w w1 : World} {g : Nat} {cs : List Value} {T : TypeId} (ho : Only (· = g) (w.alloc (.cells cs.toArray T)) w1) (hg : g < w.heap.size) : Blk w1 w.heap.size cs T :=
 (Blk.new w cs T).only ho (by omega)
set_option maxHeartbeats 8000000 in
set_option maxRecDepth 100000 in
theorem value_bad {g : Nat} {A : Option Addr} {c : Nat} {l : Bytes} {w : World} {m : Nat} (hR : RSo w g A c l none) :
  Calls Tryz.prog 67 #[.pointer (some ⟨g, 0, none⟩), .int .i64 m] w (fun e w' => ∃ cs, e = .returned (.agg cs.toArray) ∧ ValAt g A c l none w cs w') := by
 have HR := Lib.hid hR
 have HG := Lib.hid hR.low.1
 have HL := Lib.hid hR.low.2
 have hne : ¬ w.heap.size = g := by have := hR.low.1; omega
 clear hR
 go_enter Tryz.func67, Tryz.ntmps67
 go_wp2_with (go_at_call 68; refine (blanks_o (HR.out.alloc _)).mono ?_; rintro e w1 ⟨rfl, hr1, ho1⟩; obtain ⟨h2, h4⟩ := hr1.bad; obtain ⟨⟨c0, c1, c2, c3, c4⟩, f0, f1, f2, f3, f4⟩ := (Blk.call (cs := Z5) ho1 HG.out).five; have HR1 := Lib.hid hr1; have HO1 := Lib.hid ho1; clear hr1 ho1)
 go_quiet (fail)
 go_wp2
 have hW := fun n => (Only.refl (· = w.heap.size) (((w1.drewN n).setCell ⟨g, 2, none⟩ (.bool true))))
 refine bodyPost_ret (ret_cell (g := w.heap.size) (cs := Z5) (T := 85) rfl rfl ?_ (by kernel_rfl) (by kernel_rfl)) rfl ⟨Z5, rfl, Z5_five, ?_, ?_, fun p hp => by cases hp⟩
 ·exact Blk.set' (Blk.set' (Blk.set' (Blk.set' (Blk.set' (((((Blk.call (cs := Z5) HO1.out HG.out)).drewN _).far (by simpa using hne) _)) 0 _ rfl) 1 _ rfl) 2 _ rfl) 3 _ rfl) 4 _ rfl
 ·exact ((HR1.out.drewN _).setBad).only ((((((hW _).setCell (fun _ => rfl) _).setCell (fun _ => rfl) _).setCell (fun _ => rfl) _).setCell (fun _ => rfl) _).setCell (fun _ => rfl) _) (by have := HG.out; omega) (fun b o ea hl e => by have := HL.out b o ea hl; omega)
 ·exact ((((((((Only.refl (· = g) w).alloc _).trans HO1.out).drewN _).setCell (fun _ => rfl) _).setCell (fun h => absurd h (Nat.lt_irrefl _)) _).setCell (fun h => absurd h (Nat.lt_irrefl _)) _).setCell (fun h => absurd h (Nat.lt_irrefl _)) _).setCell (fun h => absurd h (Nat.lt_irrefl _)) _ |>.setCell (fun h => absurd h (Nat.lt_irrefl _)) _
end Go.Proofs.YtjehnejgojgahaaGreatDoor
