/-
  A part of the proof of MessageTakes: the texts P2 P3 A0 T5 T6.
-/
import Derived.Test.YtjehnejgojgahaaGreatDoorK03
import Derived.Test.YtjehnejgojgahaaGreatDoorK05
import Derived.Deep.MidRow
namespace Go.Proofs.YtjehnejgojgahaaGreatDoor
open Go.RowKit
set_option linter.unusedVariables false
set_option linter.unusedSimpArgs false
theorem own_set {w : World} {base : Nat} {e : TypeId} {st n g cap : Nat} {xs : List Value} (h : w.ownsRow base e st (.slice (some ⟨g, 0, none⟩) n cap) n xs) (i : Nat) (x : Value) (hi : i < xs.length) :
  (w.setCell ⟨g, i, none⟩ x).ownsRow base e st (.slice (some ⟨g, 0, none⟩) n cap) n (xs.set i x) := by
 have h0 := h.1
 refine ⟨by simpa using h.1, ?_⟩
 rcases h.2 with ⟨he, _⟩ | ⟨g', cap', cur, he, hb, hgg, hn, hc, hsz, hx⟩
 ·cases he
 ·cases he
  refine .inr ⟨g, cap, cur.setIfInBounds i x, rfl, hb, ?_, hn, hc, by simpa using hsz, ?_⟩
  ·simp [World.setCell, Array.getElem?_modify, hgg]
  ·rw [Array.toList_setIfInBounds, List.take_set, hx]
def setList (xs : List Value) : Nat → List Value → List Value
 | _, [] => xs
 | o, v :: r => setList (xs.set o v) (o + 1) r
theorem setList_append (vs : List Value) : ∀ (xs zs : List Value), zs.length = vs.length → setList (xs ++ zs) xs.length vs = xs ++ vs := by
 induction vs with
 | nil => intro xs zs h; simp at h; subst h; rfl
 | cons v r ih =>
  intro xs zs h
  cases zs with
  | nil => cases h
  | cons z zs =>
   rw [setList]
   have e : (xs ++ z :: zs).set xs.length v = (xs ++ [v]) ++ zs := by simp
   rw [e]
   have := ih (xs ++ [v]) zs (by simpa using h)
   rw [List.length_append] at this
   simpa using this
theorem own_setCells (vs : List Value) : ∀ {w : World} {base : Nat} {e : TypeId} {st n g cap : Nat} {xs : List Value} (h : w.ownsRow base e st (.slice (some ⟨g, 0, none⟩) n cap) n xs) (o : Nat), o + vs.length ≤ xs.length →
  (w.setCells g o vs).ownsRow base e st (.slice (some ⟨g, 0, none⟩) n cap) n (setList xs o vs) := by
 induction vs with
 | nil => intro w base e st n g cap xs h o _; exact h
 | cons v r ih =>
  intro w base e st n g cap xs h o ho
  simp only [List.length_cons] at ho
  exact ih (own_set h o v (by omega)) (o + 1) (by simp; omega)
theorem Only.setCells {G : Nat → Prop} (vs : List Value) : ∀ {a w : World} {g : Nat} (h : Only G a w) (hg : g < a.heap.size → G g) (o : Nat), Only G a (w.setCells g o vs) := by
 induction vs with
 | nil => intro a w g h hg o; exact h
 | cons v r ih => intro a w g h hg o; exact ih (h.setCell (p := ⟨g, o, none⟩) hg v) hg (o + 1)
theorem own_range {w : World} {base : Nat} {e : TypeId} {st n g cap : Nat} {xs : List Value} (h : w.ownsRow base e st (.slice (some ⟨g, 0, none⟩) n cap) n xs) (o k : Nat) : w.rangeAt g o ((xs.drop o).take k) := by
 intro j v hv
 rw [List.getElem?_take, List.getElem?_drop] at hv
 split at hv
 ·have := World.ownsRow.cells h (g := g) rfl (o + j) v hv
  rw [Addr.add_mid] at this
  simpa using this
 ·cases hv
theorem own_there {w : World} {base : Nat} {e : TypeId} {st n g cap : Nat} {xs : List Value} (h : w.ownsRow base e st (.slice (some ⟨g, 0, none⟩) n cap) n xs) (o k : Nat) (hk : o + k ≤ xs.length) : w.there g o k := by
 intro j hj
 constructor
 ·have := World.ownsRow.cells h (g := g) rfl (o + j) xs[o + j] (List.getElem?_eq_getElem (by omega))
  rw [Addr.add_mid] at this
  rw [show o + j = 0 + (o + j) by omega, this]; rfl
 ·rcases h.2 with ⟨he, _⟩ | ⟨g', cap', cur, he, hb, hgg, _⟩
  ·cases he
  ·cases he
   unfold World.frozen?
   rw [hgg]; simp
theorem own_pop {w : World} {base : Nat} {e : TypeId} {st n g cap : Nat} {xs : List Value} (h : w.ownsRow base e st (.slice (some ⟨g, 0, none⟩) (n + 1) cap) (n + 1) xs) :
  w.ownsRow base e st (.slice (some ⟨g, 0, none⟩) n cap) n (xs.take (n * st)) := by
 have h1 := h.1
 have hle : n * st ≤ (n + 1) * st := Nat.mul_le_mul_right _ (Nat.le_succ n)
 refine ⟨by rw [List.length_take, h1]; omega, ?_⟩
 rcases h.2 with ⟨he, _⟩ | ⟨g', cap', cur, he, hb, hgg, hn, hc, hsz, hx⟩
 ·cases he
 ·cases he
  refine .inr ⟨g, cap, cur, rfl, hb, hgg, by omega, hc, hsz, ?_⟩
  rw [← hx, List.take_take, Nat.min_eq_left hle]
structure FM where
 fr : Fr
 vl : Value
 vk : Value
 xs : List Value
def FM.cells (t : FM) : List Value := [.int .i64 t.fr.kind, .string ⟨#[]⟩, .int .u64 0, t.vl, t.vk]
def blkOf (v : Value) : List Nat := v.ownBlock.toList
def blocks1 (t : FM) : List Nat := blkOf t.vl ++ blkOf t.vk
def blocksOf (vs : Value) (fs : List FM) : List Nat := blkOf vs ++ fs.flatMap blocks1
structure PStk (B : Nat) (w : World) (fs : List FM) (vs : Value) : Prop where
 own : w.ownsRow B 79 5 vs fs.length (fs.flatMap FM.cells)
 list : ∀ t ∈ fs, w.ownsRow B 79 5 t.vl t.fr.list.length t.xs
 keys : ∀ t ∈ fs, w.ownsRow B 9 1 t.vk t.fr.keys.length (cellsK t.fr.keys)
 rows : ∀ t ∈ fs, RowIs (fun b => B ≤ b ∧ b ∉ blocksOf vs fs) w t.fr.list t.xs
 nodup : (blocksOf vs fs).Nodup
 kind : ∀ t ∈ fs, t.fr.ok
theorem cells_length (fs : List FM) : (fs.flatMap FM.cells).length = 5 * fs.length := by
 induction fs with
 | nil => rfl
 | cons t fs ih => rw [List.flatMap_cons, List.length_append, ih]; simp [FM.cells]; omega
theorem mem_blk {v : Value} {b : Nat} : b ∈ blkOf v ↔ v.ownBlock = some b := by unfold blkOf; simp
theorem mem_blocks {vs : Value} {fs : List FM} {b : Nat} : b ∈ blocksOf vs fs ↔ vs.ownBlock = some b ∨ ∃ t ∈ fs, t.vl.ownBlock = some b ∨ t.vk.ownBlock = some b := by
 unfold blocksOf blocks1
 simp [mem_blk]
theorem PStk.lt {B : Nat} {w : World} {fs : List FM} {vs : Value} (h : PStk B w fs vs) {b : Nat} (hb : b ∈ blocksOf vs fs) : B ≤ b ∧ b < w.heap.size := by
 rcases mem_blocks.1 hb with e | ⟨t, ht, e | e⟩
 ·exact World.ownsRow.lt h.own b e
 ·exact World.ownsRow.lt (h.list t ht) b e
 ·exact World.ownsRow.lt (h.keys t ht) b e
theorem PStk.keep {B : Nat} {w w' : World} {fs : List FM} {vs : Value} {G : Nat → Prop} (h : PStk B w fs vs) (ho : Only G w w') (hG : ∀ b, b < w.heap.size → G b → b < B) : PStk B w' fs vs := by
 have ne : ∀ b, b ∈ blocksOf vs fs → ¬ G b := fun b hb hg => by
  have h1 := h.lt hb
  have := hG b h1.2 hg
  omega
 refine ⟨own_only h.own ho (fun k hk => ne k (mem_blocks.2 (.inl hk))), fun t ht => own_only (h.list t ht) ho (fun k hk => ne k (mem_blocks.2 (.inr ⟨t, ht, .inl hk⟩))),
  fun t ht => own_only (h.keys t ht) ho (fun k hk => ne k (mem_blocks.2 (.inr ⟨t, ht, .inr hk⟩))), fun t ht => (h.rows t ht).only ho (fun b hb hx => ⟨fun hg => ?_, hx⟩), h.nodup, h.kind⟩
 have := hG b hb hg
 have := hx.1
 omega
theorem PStk.push {B : Nat} {w w2 : World} {fs : List FM} {vs : Value} {k g cap : Nat} {o : Obj} (h : PStk B w fs vs) (hk : k = 5 ∨ k = 6)
  (ho : w2.ownsRow B 79 5 (.slice (some ⟨g, 0, none⟩) (fs.length + 1) cap) (fs.length + 1) (fs.flatMap FM.cells ++ [.int .i64 k, .string ⟨#[]⟩, .int .u64 0, .slice none 0 0, .slice none 0 0]))
  (hg : (w.alloc o).grownBy w2 vs.ownBlock) (hat : vs.ownBlock = some g ∨ w.heap.size ≤ g) :
  PStk B w2 (fs ++ [⟨⟨k, [], []⟩, .slice none 0 0, .slice none 0 0, []⟩]) (.slice (some ⟨g, 0, none⟩) (fs.length + 1) cap) := by
 have ho1 : Only (fun b => vs.ownBlock = some b) w w2 := ((Only.refl (fun b => vs.ownBlock = some b) w).alloc o).trans (Only.ofGrown hg)
 have nd := h.nodup
 unfold blocksOf at nd
 rw [List.nodup_append] at nd
 obtain ⟨_, nd2, nd3⟩ := nd
 have ne : ∀ b, b ∈ fs.flatMap blocks1 → vs.ownBlock ≠ some b := fun b hb e => nd3 b (mem_blk.2 e) b hb rfl
 have eqB : blocksOf (.slice (some ⟨g, 0, none⟩) (fs.length + 1) cap) (fs ++ [⟨⟨k, [], []⟩, .slice none 0 0, .slice none 0 0, []⟩]) = g :: fs.flatMap blocks1 := by
  unfold blocksOf
  rw [List.flatMap_append]
  simp [blocks1, blkOf, Value.ownBlock]
 have gfresh : g ∉ fs.flatMap blocks1 := by
  intro hb
  rcases hat with e | e
  ·exact ne g hb e
  ·have := (h.lt (b := g) (by unfold blocksOf; simp only [List.mem_append]; exact .inr hb)).2
   omega
 have sub : ∀ t ∈ fs, ∀ b, b ∈ blocks1 t → vs.ownBlock ≠ some b := fun t ht b hb => ne b (List.mem_flatMap.2 ⟨t, ht, hb⟩)
 refine ⟨by simpa [FM.cells, List.flatMap_append] using ho, ?_, ?_, ?_, by rw [eqB]; exact List.nodup_cons.2 ⟨gfresh, nd2⟩, ?_⟩
 ·intro t ht
  rcases List.mem_append.1 ht with ht | ht
  ·exact own_only (h.list t ht) ho1 (fun b hb e => sub t ht b (by unfold blocks1; simp [mem_blk, hb]) e)
  ·rw [List.mem_singleton.1 ht]; exact World.ownsRow_nil _ _ _ _
 ·intro t ht
  rcases List.mem_append.1 ht with ht | ht
  ·exact own_only (h.keys t ht) ho1 (fun b hb e => sub t ht b (by unfold blocks1; simp [mem_blk, hb]) e)
  ·rw [List.mem_singleton.1 ht]; exact World.ownsRow_nil _ _ _ _
 ·intro t ht
  rcases List.mem_append.1 ht with ht | ht
  ·refine (h.rows t ht).only ho1 (fun b hb hx => ⟨fun e => hx.2 (mem_blocks.2 (.inl e)), hx.1, ?_⟩)
   rw [eqB]
   intro hm
   rcases List.mem_cons.1 hm with rfl | hm
   ·rcases hat with e | e
    ·exact hx.2 (mem_blocks.2 (.inl e))
    ·omega
   ·exact hx.2 (by unfold blocksOf; simp only [List.mem_append]; exact .inr hm)
  ·rw [List.mem_singleton.1 ht]; exact RowIs.nil _ _
 ·intro t ht
  rcases List.mem_append.1 ht with ht | ht
  ·exact h.kind t ht
  ·rw [List.mem_singleton.1 ht]; exact hk
theorem blocksOf_snoc (vs : Value) (fs : List FM) (t : FM) : blocksOf vs (fs ++ [t]) = blocksOf vs fs ++ blocks1 t := by
 unfold blocksOf; simp [List.flatMap_append]
theorem mem_blocks1 {t : FM} {b : Nat} : b ∈ blocks1 t ↔ t.vl.ownBlock = some b ∨ t.vk.ownBlock = some b := by unfold blocks1; simp [mem_blk]
theorem cells_set (fs : List FM) (t t' : FM) (j : Nat) (u : Value) (hj : j < 5) (h : t'.cells = t.cells.set j u) :
  ((fs ++ [t]).flatMap FM.cells).set (5 * fs.length + j) u = (fs ++ [t']).flatMap FM.cells := by
 rw [List.flatMap_append, List.flatMap_append]
 simp only [List.flatMap_cons, List.flatMap_nil, List.append_nil]
 rw [h, ← cells_length fs, List.set_append_right _ _ (by omega), Nat.add_sub_cancel_left]
theorem PStk.setTop {B sb n cap j : Nat} {w w2 : World} {fs : List FM} {t t' : FM} {u : Value} {D : Nat → Prop} (h : PStk B w (fs ++ [t]) (.slice (some ⟨sb, 0, none⟩) n cap))
  (ho : Only D w w2) (hD : ∀ b, D b → b ∈ blocks1 t) (hj : j < 5) (hc : t'.cells = t.cells.set j u)
  (hl : w2.ownsRow B 79 5 t'.vl t'.fr.list.length t'.xs) (hk : w2.ownsRow B 9 1 t'.vk t'.fr.keys.length (cellsK t'.fr.keys))
  (hr : RowIs (fun b => B ≤ b ∧ b ∉ blocksOf (.slice (some ⟨sb, 0, none⟩) n cap) (fs ++ [t'])) w2 t'.fr.list t'.xs)
  (hb : ∀ b, b ∈ blocks1 t' → b ∈ blocks1 t ∨ w.heap.size ≤ b) (hnd : (blocks1 t').Nodup) (hok : t'.fr.ok) :
  PStk B (w2.setCell ⟨sb, 5 * fs.length + j, none⟩ u) (fs ++ [t']) (.slice (some ⟨sb, 0, none⟩) n cap) := by
 have nd := h.nodup
 rw [blocksOf_snoc, List.nodup_append] at nd
 obtain ⟨nd1, nd2, nd3⟩ := nd
 have sbR : sb ∈ blocksOf (.slice (some ⟨sb, 0, none⟩) n cap) fs := mem_blocks.2 (.inl rfl)
 have ltR : ∀ b, b ∈ blocksOf (.slice (some ⟨sb, 0, none⟩) n cap) fs → b < w.heap.size := fun b hb => (h.lt (by rw [blocksOf_snoc]; simp only [List.mem_append]; exact .inl hb)).2
 have neR : ∀ b, b ∈ blocksOf (.slice (some ⟨sb, 0, none⟩) n cap) fs → b ∉ blocks1 t' := fun b hR h1 => by
  rcases hb b h1 with h2 | h2
  ·exact nd3 b hR b h2 rfl
  ·have := ltR b hR; omega
 have nD : ∀ b, b ∈ blocksOf (.slice (some ⟨sb, 0, none⟩) n cap) fs → ¬ D b := fun b hR hd => nd3 b hR b (hD b hd) rfl
 have oS : Only (· = sb) w2 (w2.setCell ⟨sb, 5 * fs.length + j, none⟩ u) := (Only.refl (· = sb) w2).setCell (fun _ => rfl) u
 have inR : ∀ t0, t0 ∈ fs → ∀ b, b ∈ blocks1 t0 → b ∈ blocksOf (.slice (some ⟨sb, 0, none⟩) n cap) fs ∧ b ≠ sb := by
  intro t0 h0 b h1
  have m : b ∈ fs.flatMap blocks1 := List.mem_flatMap.2 ⟨t0, h0, h1⟩
  refine ⟨by unfold blocksOf; simp only [List.mem_append]; exact .inr m, ?_⟩
  rintro rfl
  unfold blocksOf at nd1
  rw [List.nodup_append] at nd1
  exact nd1.2.2 b (mem_blk.2 rfl) b m rfl
 have len1 : (fs ++ [t']).length = (fs ++ [t]).length := by simp
 refine ⟨?_, ?_, ?_, ?_, ?_, ?_⟩
 ·have h1 := own_only h.own ho (fun b hb' => by cases hb'; exact nD sb sbR)
  have hn : n = (fs ++ [t]).length := by
   rcases h.own.2 with ⟨e, _⟩ | ⟨_, _, _, e, _⟩
   ·cases e
   ·cases e; rfl
  rw [len1]
  subst hn
  have h2 := own_set h1 (5 * fs.length + j) u (by rw [cells_length]; simp; omega)
  rw [cells_set fs t t' j u hj hc] at h2
  exact h2
 ·intro t0 h0
  rcases List.mem_append.1 h0 with h0 | h0
  ·have ht := h.list t0 (List.mem_append.2 (.inl h0))
   refine own_only (own_only ht ho (fun b hb' => nD b (inR t0 h0 b (mem_blocks1.2 (.inl hb'))).1)) oS (fun b hb' => (inR t0 h0 b (mem_blocks1.2 (.inl hb'))).2)
  ·rw [List.mem_singleton.1 h0]
   refine own_only hl oS (fun b hb' e => ?_)
   have e' : b = sb := e
   subst e'
   exact neR b sbR (mem_blocks1.2 (.inl hb'))
 ·intro t0 h0
  rcases List.mem_append.1 h0 with h0 | h0
  ·have ht := h.keys t0 (List.mem_append.2 (.inl h0))
   refine own_only (own_only ht ho (fun b hb' => nD b (inR t0 h0 b (mem_blocks1.2 (.inr hb'))).1)) oS (fun b hb' => (inR t0 h0 b (mem_blocks1.2 (.inr hb'))).2)
  ·rw [List.mem_singleton.1 h0]
   refine own_only hk oS (fun b hb' e => ?_)
   have e' : b = sb := e
   subst e'
   exact neR b sbR (mem_blocks1.2 (.inr hb'))
 ·intro t0 h0
  rcases List.mem_append.1 h0 with h0 | h0
  ·have h1 := h.rows t0 (List.mem_append.2 (.inl h0))
   have h2 : RowIs (fun b => B ≤ b ∧ b ∉ blocksOf (.slice (some ⟨sb, 0, none⟩) n cap) (fs ++ [t'])) w2 t0.fr.list t0.xs := by
    refine h1.only ho (fun b hlt hx => ⟨fun hd => hx.2 (by rw [blocksOf_snoc]; simp only [List.mem_append]; exact .inr (hD b hd)), hx.1, ?_⟩)
    have h3 := hx.2
    rw [blocksOf_snoc, List.mem_append] at h3 ⊢
    rintro (h4 | h4)
    ·exact h3 (.inl h4)
    ·rcases hb b h4 with h5 | h5
     ·exact h3 (.inr h5)
     ·omega
   refine h2.only oS (fun b _ hx => ⟨fun e => ?_, hx⟩)
   have e' : b = sb := e
   subst e'
   exact hx.2 (by rw [blocksOf_snoc, List.mem_append]; exact .inl sbR)
  ·rw [List.mem_singleton.1 h0]
   refine hr.only oS (fun b _ hx => ⟨fun e => ?_, hx⟩)
   have e' : b = sb := e
   subst e'
   exact hx.2 (by rw [blocksOf_snoc, List.mem_append]; exact .inl sbR)
 ·rw [blocksOf_snoc, List.nodup_append]
  exact ⟨nd1, hnd, fun a ha b hb' e => by subst e; exact neR a ha hb'⟩
 ·intro t0 h0
  rcases List.mem_append.1 h0 with h0 | h0
  ·exact h.kind t0 (List.mem_append.2 (.inl h0))
  ·rw [List.mem_singleton.1 h0]; exact hok
theorem PStk.top {B : Nat} {w : World} {fs : List FM} {t : FM} {vs : Value} (h : PStk B w (fs ++ [t]) vs) : ∃ sb cap, vs = .slice (some ⟨sb, 0, none⟩) (fs.length + 1) cap ∧ B ≤ sb := by
 rcases h.own.2 with ⟨_, hn⟩ | ⟨g, cap, cur, e, hb, _⟩
 ·simp at hn
 ·exact ⟨g, cap, by simpa using e, hb⟩
theorem PStk.topCells {B sb n cap : Nat} {w : World} {fs : List FM} {t : FM} (h : PStk B w (fs ++ [t]) (.slice (some ⟨sb, 0, none⟩) n cap)) : w.rangeAt sb (5 * fs.length) t.cells ∧ w.there sb (5 * fs.length) 5 := by
 have hn : n = (fs ++ [t]).length := by
  rcases h.own.2 with ⟨e, _⟩ | ⟨_, _, _, e, _⟩
  ·cases e
  ·cases e; rfl
 subst hn
 have e : (((fs ++ [t]).flatMap FM.cells).drop (5 * fs.length)).take 5 = t.cells := by
  rw [List.flatMap_append, ← cells_length fs, List.drop_left]
  simp [FM.cells]
 constructor
 ·have := own_range h.own (5 * fs.length) 5
  rw [e] at this
  exact this
 ·exact own_there h.own _ _ (by rw [cells_length]; simp; omega)
theorem nodup_blocks1 {B : Nat} {w : World} {fs : List FM} {t : FM} {vs : Value} (h : PStk B w (fs ++ [t]) vs) : ∀ b, t.vl.ownBlock = some b → t.vk.ownBlock ≠ some b := by
 have nd := h.nodup
 rw [blocksOf_snoc, List.nodup_append] at nd
 have nd2 := nd.2.1
 unfold blocks1 at nd2
 rw [List.nodup_append] at nd2
 intro b h1 h2
 exact nd2.2.2 b (mem_blk.2 h1) b (mem_blk.2 h2) rfl
theorem blk_nodup {a b : Value} (h : ∀ k, a.ownBlock = some k → b.ownBlock ≠ some k) : (blkOf a ++ blkOf b).Nodup := by
 rw [List.nodup_append]
 refine ⟨?_, ?_, fun x hx y hy e => by subst e; exact h x (mem_blk.1 hx) (mem_blk.1 hy)⟩
 ·unfold blkOf; cases a.ownBlock <;> simp
 ·unfold blkOf; cases b.ownBlock <;> simp
theorem PStk.addKey {B sb n cap gg cap' : Nat} {w w2 : World} {fs : List FM} {t : FM} {o : Obj} {k : Bytes} (h : PStk B w (fs ++ [t]) (.slice (some ⟨sb, 0, none⟩) n cap))
  (hown : w2.ownsRow B 9 1 (.slice (some ⟨gg, 0, none⟩) (t.fr.keys.length + 1) cap') (t.fr.keys.length + 1) (cellsK t.fr.keys ++ [txt k])) (hg : (w.alloc o).grownBy w2 t.vk.ownBlock) (hat : t.vk.ownBlock = some gg ∨ w.heap.size ≤ gg) :
  PStk B (w2.setCell ⟨sb, 5 * fs.length + 4, none⟩ (.slice (some ⟨gg, 0, none⟩) (t.fr.keys.length + 1) cap'))
   (fs ++ [{ t with fr := { t.fr with keys := t.fr.keys ++ [k] }, vk := .slice (some ⟨gg, 0, none⟩) (t.fr.keys.length + 1) cap' }]) (.slice (some ⟨sb, 0, none⟩) n cap) := by
 have ho : Only (fun b => t.vk.ownBlock = some b) w w2 := ((Only.refl (fun b => t.vk.ownBlock = some b) w).alloc o).trans (Only.ofGrown hg)
 have nb := nodup_blocks1 h
 have hmem : t ∈ fs ++ [t] := by simp
 have ggl : ∀ b, t.vl.ownBlock = some b → gg ≠ b := by
  rintro b hb rfl
  rcases hat with e | e
  ·exact nb gg hb e
  ·have := (World.ownsRow.lt (h.list t hmem) gg hb).2; omega
 refine h.setTop ho (fun b hb => mem_blocks1.2 (.inr hb)) (by decide) rfl ?_ ?_ ?_ ?_ ?_ (h.kind t hmem)
 ·exact own_only (h.list t hmem) ho (fun b hb => nb b hb)
 ·simpa [cellsK] using hown
 ·refine (h.rows t hmem).only ho (fun b hlt hx => ⟨fun e => hx.2 (by rw [blocksOf_snoc, List.mem_append]; exact .inr (mem_blocks1.2 (.inr e))), hx.1, ?_⟩)
  have h3 := hx.2
  rw [blocksOf_snoc, List.mem_append] at h3 ⊢
  rintro (h4 | h4)
  ·exact h3 (.inl h4)
  ·rcases mem_blocks1.1 h4 with h5 | h5
   ·exact h3 (.inr (mem_blocks1.2 (.inl h5)))
   ·have h6 : gg = b := by cases h5; rfl
    subst h6
    rcases hat with e | e
    ·exact h3 (.inr (mem_blocks1.2 (.inr e)))
    ·omega
 ·intro b hb
  rcases mem_blocks1.1 hb with h5 | h5
  ·exact .inl (mem_blocks1.2 (.inl h5))
  ·have h6 : gg = b := by cases h5; rfl
   subst h6
   rcases hat with e | e
   ·exact .inl (mem_blocks1.2 (.inr e))
   ·exact .inr e
 ·refine blk_nodup (fun b hb e => ?_)
  have h6 : gg = b := by cases e; rfl
  exact ggl b hb h6
theorem PStk.addVal {B sb n cap gg cap' : Nat} {w w2 : World} {fs : List FM} {t : FM} {v : JV} {cs : List Value} (h : PStk B w (fs ++ [t]) (.slice (some ⟨sb, 0, none⟩) n cap))
  (hv : JIs (fun b => B ≤ b ∧ b ∉ blocksOf (.slice (some ⟨sb, 0, none⟩) n cap) (fs ++ [t])) w v cs)
  (hown : w2.ownsRow B 79 5 (.slice (some ⟨gg, 0, none⟩) (t.fr.list.length + 1) cap') (t.fr.list.length + 1) (t.xs ++ cs)) (ho : Only (fun b => t.vl.ownBlock = some b) w w2) (hat : t.vl.ownBlock = some gg ∨ w.heap.size ≤ gg) :
  PStk B (w2.setCell ⟨sb, 5 * fs.length + 3, none⟩ (.slice (some ⟨gg, 0, none⟩) (t.fr.list.length + 1) cap'))
   (fs ++ [{ t with fr := { t.fr with list := t.fr.list ++ [v] }, vl := .slice (some ⟨gg, 0, none⟩) (t.fr.list.length + 1) cap', xs := t.xs ++ cs }]) (.slice (some ⟨sb, 0, none⟩) n cap) := by
 have nb := nodup_blocks1 h
 have hmem : t ∈ fs ++ [t] := by simp
 have ggk : ∀ b, t.vk.ownBlock = some b → gg ≠ b := by
  rintro b hb rfl
  rcases hat with e | e
  ·exact nb gg e hb
  ·have := (World.ownsRow.lt (h.keys t hmem) gg hb).2; omega
 have hX : ∀ b, b < w.heap.size → (B ≤ b ∧ b ∉ blocksOf (.slice (some ⟨sb, 0, none⟩) n cap) (fs ++ [t])) → ¬ (t.vl.ownBlock = some b) ∧ (B ≤ b ∧ b ∉ blocksOf (.slice (some ⟨sb, 0, none⟩) n cap) (fs ++ [{ t with fr := { t.fr with list := t.fr.list ++ [v] }, vl := .slice (some ⟨gg, 0, none⟩) (t.fr.list.length + 1) cap', xs := t.xs ++ cs }])) := by
  intro b hlt hx
  refine ⟨fun e => hx.2 (by rw [blocksOf_snoc, List.mem_append]; exact .inr (mem_blocks1.2 (.inl e))), hx.1, ?_⟩
  have h3 := hx.2
  rw [blocksOf_snoc, List.mem_append] at h3 ⊢
  rintro (h4 | h4)
  ·exact h3 (.inl h4)
  ·rcases mem_blocks1.1 h4 with h5 | h5
   ·have h6 : gg = b := by cases h5; rfl
    subst h6
    rcases hat with e | e
    ·exact h3 (.inr (mem_blocks1.2 (.inl e)))
    ·omega
   ·exact h3 (.inr (mem_blocks1.2 (.inr h5)))
 refine h.setTop ho (fun b hb => mem_blocks1.2 (.inl hb)) (by decide) rfl ?_ ?_ ?_ ?_ ?_ (h.kind t hmem)
 ·simpa using hown
 ·exact own_only (h.keys t hmem) ho (fun b hb e => nb b e hb)
 ·exact ((h.rows t hmem).only ho hX).snoc (hv.only ho hX)
 ·intro b hb
  rcases mem_blocks1.1 hb with h5 | h5
  ·have h6 : gg = b := by cases h5; rfl
   subst h6
   rcases hat with e | e
   ·exact .inl (mem_blocks1.2 (.inl e))
   ·exact .inr e
  ·exact .inl (mem_blocks1.2 (.inr h5))
 ·refine blk_nodup (fun b hb e => ?_)
  have h6 : gg = b := by cases hb; rfl
  exact ggk b e h6
theorem PStk.pop {B sb cap : Nat} {w : World} {fs : List FM} {t : FM} (h : PStk B w (fs ++ [t]) (.slice (some ⟨sb, 0, none⟩) (fs.length + 1) cap)) :
  PStk B w fs (.slice (some ⟨sb, 0, none⟩) fs.length cap) ∧ JIs (fun b => B ≤ b ∧ b ∉ blocksOf (.slice (some ⟨sb, 0, none⟩) fs.length cap) fs) w (.mk t.fr.kind [] 0 t.fr.list t.fr.keys) t.cells := by
 have nd := h.nodup
 rw [blocksOf_snoc, List.nodup_append] at nd
 obtain ⟨nd1, nd2, nd3⟩ := nd
 have hmem : t ∈ fs ++ [t] := by simp
 have eqB : blocksOf (.slice (some ⟨sb, 0, none⟩) fs.length cap) fs = blocksOf (.slice (some ⟨sb, 0, none⟩) (fs.length + 1) cap) fs := rfl
 have mono : ∀ b, b ∉ blocksOf (.slice (some ⟨sb, 0, none⟩) (fs.length + 1) cap) (fs ++ [t]) → b ∉ blocksOf (.slice (some ⟨sb, 0, none⟩) fs.length cap) fs := by
  intro b hb hm
  exact hb (by rw [blocksOf_snoc, List.mem_append]; exact .inl (eqB ▸ hm))
 refine ⟨⟨?_, fun t0 h0 => h.list t0 (List.mem_append.2 (.inl h0)), fun t0 h0 => h.keys t0 (List.mem_append.2 (.inl h0)), fun t0 h0 => ?_, eqB ▸ nd1, fun t0 h0 => h.kind t0 (List.mem_append.2 (.inl h0))⟩, ?_⟩
 ·have h1 := h.own
  simp only [List.length_append, List.length_singleton] at h1
  have h2 := own_pop h1
  have e : ((fs ++ [t]).flatMap FM.cells).take (fs.length * 5) = fs.flatMap FM.cells := by
   rw [List.flatMap_append, show fs.length * 5 = (fs.flatMap FM.cells).length by rw [cells_length]; omega, List.take_left]
  rw [e] at h2
  exact h2
 ·exact (h.rows t0 (List.mem_append.2 (.inl h0))).only (Only.refl (fun _ => False) w) (fun b _ hx => ⟨id, hx.1, mono b hx.2⟩)
 ·have hrow : RowIs (fun b => B ≤ b ∧ b ∉ blocksOf (.slice (some ⟨sb, 0, none⟩) fs.length cap) fs) w t.fr.list t.xs := (h.rows t hmem).only (Only.refl (fun _ => False) w) (fun b _ hx => ⟨id, hx.1, mono b hx.2⟩)
  refine jis_of_rows (h.list t hmem) (h.keys t hmem) hrow (fun b hb => ?_) (fun b hb => ?_)
  ·exact ⟨(World.ownsRow.lt (h.list t hmem) b hb).1, fun hm => nd3 b (eqB ▸ hm) b (mem_blocks1.2 (.inl hb)) rfl⟩
  ·exact ⟨(World.ownsRow.lt (h.keys t hmem) b hb).1, fun hm => nd3 b (eqB ▸ hm) b (mem_blocks1.2 (.inr hb)) rfl⟩
def u8s (l : Bytes) : List Value := l.map fun x => .int .u8 x.toNat
def zero8 (n : Nat) : Bytes := List.replicate n 0
theorem u8s_length (l : Bytes) : (u8s l).length = l.length := by unfold u8s; simp
theorem u8s_one (l : Bytes) : (u8s l).all (·.oneCell') = true := by
 unfold u8s
 rw [List.all_eq_true]
 intro x hx
 obtain ⟨y, _, rfl⟩ := List.mem_map.1 hx
 rfl
section
variable {P : Program} {ops : Array Oper} {rest : List Oper} {o : Oper} {a : Act} {w : World} {Q : Exit → Act → World → Prop}
theorem wpList_alloc_blk (hgd : o.guard = none) (ty : TypeId) (t : Tmp) (ho : o.op = .alloc ty) (hd : o.dst = some t) {cs : List Value} (hz : (P.info? ty).bind (·.zero) = some (.agg cs.toArray))
  (h : ∀ w', Blk w' w.heap.size cs ty → Only (fun _ => False) w w' → w'.heap.size = w.heap.size + 1 → wpList P ops Q rest (a.put (some t) (.pointer (some ⟨w.heap.size, 0, none⟩))) w') : wpList P ops Q (o :: rest) a w := by
 refine wpList_plain hgd fun K hK => ?_
 unfold Oper.wp
 have hrun : (execOp a.eval o).run P w = .ok (.value (.pointer (some ⟨w.heap.size, 0, none⟩))) (w.alloc (.cells cs.toArray ty)) := by
  cases hi : P.info? ty with
  | none => rw [hi] at hz; cases hz
  | some i =>
   rw [hi] at hz
   have hz2 : i.zero = some (.agg cs.toArray) := by simpa using hz
   have hzero : (zeroValue ty).run P w = .ok (.agg cs.toArray) w := by
    unfold zeroValue
    rw [Sem.run_bind, run_typeInfo w hi]
    simp only [Result.andThen, hz2]
    rfl
   unfold execOp
   rw [ho]
   simp only [Instr.alloc, Sem.run_bind, hzero, Result.andThen, newVar, newRow, Value.cells]
   rfl
 rw [hrun, Oper.upon_value]
 refine hK _ _ ?_
 rw [hd]
 exact h _ (Blk.new w cs ty) ((Only.refl _ _).alloc _) (by simp)
theorem wpList_build0 (hgd : o.guard = none) (ty : TypeId) (ho : o.op = .build ty #[]) {cs : List Value} (hz : P.built ty [] = some cs.toArray)
  (h : wpList P ops Q rest (a.put o.dst (.agg cs.toArray)) w) : wpList P ops Q (o :: rest) a w := by
 refine wpList_build hgd ty #[] ho (by simp [hz]) ?_
 simpa [hz] using h
theorem wpList_array_at (hgd : o.guard = none) (ty : TypeId) (x : Operand) (ho : o.op = .sliceToArrayPointer ty x) {n : Nat} {e : TypeId} (hu : P.underlying ty = some (.array n e)) {A : Option Addr} {m c : Nat} (hx : a.eval x = .slice A m c) (hm : n ≤ m)
  (h : wpList P ops Q rest (a.put o.dst (.pointer A)) w) : wpList P ops Q (o :: rest) a w := by
 refine wpList_plain hgd fun K hK => ?_
 unfold Oper.wp
 have hrun : (execOp a.eval o).run P w = .ok (.value (.pointer A)) w := by
  unfold execOp
  rw [ho]
  simp only [Instr.arrayAt, Sem.run_bind, run_underlying hu, Result.andThen, hx]
  rw [if_neg (by omega)]
  rfl
 rw [hrun, Oper.upon_value]
 exact hK _ _ h
end
theorem BytesAt.range {w : World} {b o : Nat} {l : Bytes} (h : BytesAt w (some ⟨b, o, none⟩) l) : w.rangeAt b o (u8s l) := by
 intro j x hx
 unfold u8s at hx
 rw [List.getElem?_map] at hx
 cases hl : l[j]? with
 | none => rw [hl] at hx; simp at hx
 | some y =>
  rw [hl] at hx
  simp only [Option.map_some, Option.some.injEq] at hx
  obtain ⟨b', o', e, hc⟩ := h j y hl
  simp only [Option.some.injEq, Addr.mk.injEq] at e
  obtain ⟨rfl, rfl, _⟩ := e
  rw [← hx]; exact hc
theorem text_run {A : Option Addr} {n c : Nat} {l : Bytes} {w : World} (hn : n = l.length) (hB : BytesAt w A l) : (convert 22 9 (.slice A n c)).run Tryz.prog w = .ok (.string ⟨l.toArray⟩) w := by
 subst hn
 cases l with
 | nil =>
  rw [run_convert_bytes_string w 22 9 5 A _ c under22 under5 under9]
  cases A <;> rfl
 | cons x l =>
  obtain ⟨b, off, rfl, _⟩ := hB 0 x rfl
  refine run_convert_bytes_back w 22 9 5 ⟨b, off, none⟩ c (x :: l) under22 under5 under9 ?_
  intro j hj
  obtain ⟨b', o', e, hc⟩ := hB j _ (List.getElem?_eq_getElem hj)
  cases e
  unfold Addr.add
  by_cases h0 : j = 0
  ·subst h0; simpa using hc
  ·rw [if_neg h0]; exact hc
theorem wpList_load_arr {P : Program} {ops : Array Oper} {rest : List Oper} {op : Oper} {a : Act} {w : World} {Q : Exit → Act → World → Prop} (hgd : op.guard = none) (ty : TypeId) (x : Operand) (ho : op.op = .load ty x)
  {b o : Nat} (hx : a.eval x = .pointer (some ⟨b, o, none⟩)) {cs : List Value} (hc : w.rangeAt b o cs) {n : Nat} {e : TypeId} (hu : P.underlying ty = some (.array n e)) (hi : (P.info? ty).map (·.size) = some cs.length)
  (h : wpList P ops Q rest (a.put op.dst (.agg cs.toArray)) w) : wpList P ops Q (op :: rest) a w :=
 wpList_load_mid hgd ty x ho b o hx cs _ hc hu rfl hi h
theorem zero24 : (Tryz.prog.info? 24).bind (·.zero) = some (.agg (u8s (zero8 32)).toArray) := by kernel_rfl
theorem built24 : Tryz.prog.built 24 [] = some (u8s (zero8 32)).toArray := by kernel_rfl
theorem info24 : (Tryz.prog.info? 24).map (·.size) = some 32 := by kernel_rfl
theorem agg24 : (Tryz.prog.underlying 24).map aggD = some true := by kernel_rfl
theorem info24s {l : Bytes} (h : l.length = 32) : (Tryz.prog.info? 24).map (·.size) = some (u8s l).toArray.size := by
 rw [List.size_toArray, u8s_length, h]; exact info24
theorem info24l {l : Bytes} (h : l.length = 32) : (Tryz.prog.info? 24).map (·.size) = some (u8s l).length := by
 rw [u8s_length, h]; exact info24
theorem zero8_length (n : Nat) : (zero8 n).length = n := by unfold zero8; simp
theorem u8s_same {l m : Bytes} (h : l.length = m.length) : (u8s l).length = (u8s m).length := by rw [u8s_length, u8s_length, h]
def digB (l : Bytes) : Bytes := if l.length = 32 then l else zero8 32
theorem digB_length (l : Bytes) : (digB l).length = 32 := by
 unfold digB
 split
 ·assumption
 ·exact zero8_length 32
def DigAt (l : Bytes) (w : World) (e : Ending) (w' : World) : Prop :=
 Only (fun _ => False) w w' ∧ e = .returned (.tuple #[.agg (u8s (digB l)).toArray, .bool (decide (l.length = 32))])
theorem BytesAt.there {w : World} {A : Option Addr} {l : Bytes} (h : BytesAt w A l) (hl : 0 < l.length) : ∃ b o, A = some ⟨b, o, none⟩ := by
 cases l with
 | nil => simp at hl
 | cons x l => obtain ⟨b, o, e, _⟩ := h 0 x rfl; exact ⟨b, o, e⟩
set_option maxRecDepth 100000 in
set_option maxHeartbeats 1600000 in
theorem digest_any {A : Option Addr} {c : Nat} {l : Bytes} {w : World} (hB : BytesAt w A l) (hcap : l.length ≤ c) :
  Calls Tryz.prog 63 #[.slice A l.length c] w (DigAt l w) := by
 by_cases h : l.length = 32
 ·have q : ((l.length : Int) != 32) = false := by simp; omega
  have hd : digB l = l := if_pos h
  have hdd : decide (l.length = 32) = true := decide_eq_true h
  have hne : 32 ≤ l.length := by omega
  have HNE := Lib.hid hne
  have HL := Lib.hid h
  obtain ⟨b, o, rfl⟩ := hB.there (by omega)
  have HB := Lib.hid hB
  have HD := Lib.hid (show ∀ w', Only (fun _ => False) w w' → DigAt l w (.returned (.tuple #[.agg (u8s l).toArray, .bool true])) w' from fun w' ho => ⟨ho, by rw [hd, hdd]⟩)
  have HZ := Lib.hid (u8s_same (l := zero8 32) (m := l) (by rw [zero8_length, h]))
  clear hB hd hdd h hne
  generalize l.length = m at q HNE ⊢
  go_enter Tryz.func63, Tryz.ntmps63
  go_wp2_with (first
   | (refine wpList_alloc_blk rfl 24 2 rfl rfl zero24 ?_; intro w1 hb1 ho1 hs1; have HB1 := Lib.hid hb1; have HO1 := Lib.hid ho1; have HR1 := Lib.hid (HB.out.only ho1 (fun _ _ _ => id)).range; clear hb1 ho1 hs1; generalize hH : w.heap.size = H at HB1 ⊢; have HH := Lib.hid hH; clear hH)
   | (refine wpList_array_at rfl 24 (.tmp 8) rfl Tryz.underlying24 rfl HNE.out ?_)
   | (refine wpList_load_arr rfl 24 (.tmp 9) rfl rfl HR1.out Tryz.underlying24 (info24l HL.out) ?_)
   | (refine wpList_store_blk (cs := u8s l) rfl 24 (.tmp 2) (.tmp 10) rfl rfl rfl rfl HB1.out HZ.out (info24s HL.out) (u8s_one l) ?_; intro w2 hb2 ho2; have HB2 := Lib.hid hb2; have HO2 := Lib.hid (HO1.out.then ho2 (fun i hi e => by have := HH.out; omega)); clear hb2 ho2))
  refine bodyPost_ret (ret_cell_tmp rfl rfl HB2.out agg24 (info24s HL.out)) rfl ?_
  exact HD.out _ HO2.out
 ·have q : ((l.length : Int) != 32) = true := by simp; omega
  have hd : digB l = zero8 32 := if_neg h
  have hdd : decide (l.length = 32) = false := decide_eq_false h
  have HD := Lib.hid (show ∀ w', Only (fun _ => False) w w' → DigAt l w (.returned (.tuple #[.agg (u8s (zero8 32)).toArray, .bool false])) w' from fun w' ho => ⟨ho, by rw [hd, hdd]⟩)
  clear hB hd hdd h
  generalize l.length = m at q ⊢
  go_enter Tryz.func63, Tryz.ntmps63
  go_wp2_with (first
   | (refine wpList_alloc_blk rfl 24 2 rfl rfl zero24 ?_; intro w1 hb1 ho1 hs1; have HB1 := Lib.hid hb1; have HO1 := Lib.hid ho1; clear hb1 ho1 hs1; generalize hH : w.heap.size = H at HB1 ⊢; have HH := Lib.hid hH; clear hH)
   | (refine wpList_build0 rfl 24 rfl built24 ?_)
   | (refine wpList_store_blk (cs := u8s (zero8 32)) rfl 24 (.tmp 2) (.tmp 7) rfl rfl rfl rfl HB1.out rfl (info24s (zero8_length 32)) (u8s_one _) ?_; intro w2 hb2 ho2; have HB2 := Lib.hid hb2; have HO2 := Lib.hid (HO1.out.then ho2 (fun i hi e => by have := HH.out; omega)); clear hb2 ho2))
  refine bodyPost_ret (ret_cell_tmp rfl rfl HB2.out agg24 (info24s (zero8_length 32))) rfl ?_
  exact HD.out _ HO2.out
theorem zero26 : (Tryz.prog.info? 26).bind (·.zero) = some (.agg (u8s (zero8 64)).toArray) := by kernel_rfl
theorem built26 : Tryz.prog.built 26 [] = some (u8s (zero8 64)).toArray := by kernel_rfl
theorem info26 : (Tryz.prog.info? 26).map (·.size) = some 64 := by kernel_rfl
theorem agg26 : (Tryz.prog.underlying 26).map aggD = some true := by kernel_rfl
theorem info26s {l : Bytes} (h : l.length = 64) : (Tryz.prog.info? 26).map (·.size) = some (u8s l).toArray.size := by
 rw [List.size_toArray, u8s_length, h]; exact info26
theorem info26l {l : Bytes} (h : l.length = 64) : (Tryz.prog.info? 26).map (·.size) = some (u8s l).length := by
 rw [u8s_length, h]; exact info26
def markB (l : Bytes) : Bool := decide (l.length = 68) && decide (l.take 4 = [8, 7, 0, 64])
def sigB (l : Bytes) : Bytes := if markB l = true then l.drop 4 else zero8 64
theorem sigB_length (l : Bytes) : (sigB l).length = 64 := by
 unfold sigB
 split
 ·rename_i h
  unfold markB at h
  simp only [Bool.and_eq_true, decide_eq_true_eq] at h
  rw [List.length_drop, h.1]
 ·exact zero8_length 64
def UnmAt (l : Bytes) (w : World) (e : Ending) (w' : World) : Prop :=
 Only (fun _ => False) w w' ∧ e = .returned (.tuple #[.agg (u8s (sigB l)).toArray, .int .i64 (if markB l = true then 0 else 5)])
theorem BytesAt.drop {w : World} {b o : Nat} {l : Bytes} (h : BytesAt w (some ⟨b, o, none⟩) l) (k : Nat) : BytesAt w (some ⟨b, o + k, none⟩) (l.drop k) := by
 intro i x hx
 rw [List.getElem?_drop] at hx
 obtain ⟨b', o', e, hc⟩ := h _ x hx
 cases e
 exact ⟨b, o + k, rfl, by rw [Nat.add_assoc]; exact hc⟩
set_option maxRecDepth 100000 in
set_option maxHeartbeats 1600000 in
theorem unmark_any {A : Option Addr} {c : Nat} {l : Bytes} {w : World} (hB : BytesAt w A l) (hcap : l.length ≤ c) :
  Calls Tryz.prog 65 #[.slice A l.length c] w (UnmAt l w) := by
 by_cases h : l.length = 68
 ·have q : ((l.length : Int) != 68) = false := by simp; omega
  obtain ⟨b, o, rfl⟩ := hB.there (by omega)
  have HB := Lib.hid hB
  have HP := Lib.hid (show BytesAt w (some ⟨b, o, none⟩) (l.take 4) from fun i x hx => hB i x (by rw [List.getElem?_take] at hx; split at hx; exact hx; cases hx))
  have h4 : (4 : Int) ≤ (l.length : Int) := by omega
  have h4c : (4 : Int) ≤ (c : Int) := by omega
  have HL := Lib.hid h
  have HC := Lib.hid hcap
  have h4t : (l.take 4).length = 4 := by rw [List.length_take]; omega
  have H4 := Lib.hid h4t
  by_cases hm : l.take 4 = [8, 7, 0, 64]
  ·have hk : markB l = true := by unfold markB; rw [decide_eq_true h, decide_eq_true hm]; rfl
   have HD := Lib.hid (show ∀ w', Only (fun _ => False) w w' → UnmAt l w (.returned (.tuple #[.agg (u8s (l.drop 4)).toArray, .int .i64 0])) w' from fun w' ho => ⟨ho, by unfold sigB; rw [if_pos hk, if_pos hk]⟩)
   have HM := Lib.hid hm
   have hc4 : c ≠ 4 := by omega
   have q4 : (if c = 4 then (some ⟨b, o, none⟩ : Option Addr) else some ⟨b, o + 4, none⟩) = some ⟨b, o + 4, none⟩ := if_neg hc4
   have HX := Lib.hid (show 64 ≤ l.length - 4 by omega)
   have HZ := Lib.hid (u8s_same (l := zero8 64) (m := l.drop 4) (by rw [zero8_length, List.length_drop, h]))
   have HL4 := Lib.hid (show (l.drop 4).length = 64 by rw [List.length_drop, h])
   clear hB h hm hk h4t hcap hc4
   generalize l.length = m at q h4 HC HL HX ⊢
   go_enter Tryz.func65, Tryz.ntmps65
   go_wp2_with (first
    | (refine wpList_alloc_blk rfl 26 2 rfl rfl zero26 ?_; intro w1 hb1 ho1 hs1; have HB1 := Lib.hid hb1; have HO1 := Lib.hid ho1; have hcv := text_run (c := c) H4.out.symm (HP.out.only ho1 (fun _ _ _ => id)); rw [HM.out] at hcv; have HR1 := Lib.hid ((HB.out.only ho1 (fun _ _ _ => id)).drop 4).range; clear hb1 ho1 hs1; generalize hH : w.heap.size = H at HB1 ⊢; have HH := Lib.hid hH; clear hH)
    | (refine wpList_array_at rfl 26 (.tmp 15) rfl Tryz.underlying26 rfl HX.out ?_)
    | (refine wpList_load_arr rfl 26 (.tmp 16) rfl rfl HR1.out Tryz.underlying26 (info26l HL4.out) ?_)
    | (refine wpList_store_blk (cs := u8s (l.drop 4)) rfl 26 (.tmp 2) (.tmp 17) rfl rfl rfl rfl HB1.out HZ.out (info26s HL4.out) (u8s_one _) ?_; intro w2 hb2 ho2; have HB2 := Lib.hid hb2; have HO2 := Lib.hid (HO1.out.then ho2 (fun i hi e => by have := HH.out; omega)); clear hb2 ho2))
   refine bodyPost_ret (ret_cell_tmp rfl rfl HB2.out agg26 (info26s HL4.out)) rfl ?_
   exact HD.out _ HO2.out
  ·have hk : markB l = false := by unfold markB; rw [decide_eq_false hm, Bool.and_false]
   have HD := Lib.hid (show ∀ w', Only (fun _ => False) w w' → UnmAt l w (.returned (.tuple #[.agg (u8s (zero8 64)).toArray, .int .i64 5])) w' from fun w' ho => ⟨ho, by unfold sigB; rw [hk, if_neg (by decide), if_neg (by decide)]⟩)
   obtain ⟨s, hs⟩ : ∃ s : Bytes, s = l.take 4 := ⟨_, rfl⟩
   have qs : (s == [8, 7, 0, 64]) = false := by rw [hs]; simpa using hm
   have HS := Lib.hid hs
   clear hB h hm hk h4t hcap hs
   generalize l.length = m at q h4 HC HL ⊢
   go_enter Tryz.func65, Tryz.ntmps65
   go_wp2_with (first
    | (refine wpList_alloc_blk rfl 26 2 rfl rfl zero26 ?_; intro w1 hb1 ho1 hs1; have HB1 := Lib.hid hb1; have HO1 := Lib.hid ho1; have hcv := text_run (c := c) H4.out.symm (HP.out.only ho1 (fun _ _ _ => id)); rw [← HS.out] at hcv; clear hb1 ho1 hs1; generalize hH : w.heap.size = H at HB1 ⊢; have HH := Lib.hid hH; clear hH)
    | (refine wpList_build0 rfl 26 rfl built26 ?_)
    | (refine wpList_store_blk (cs := u8s (zero8 64)) rfl 26 (.tmp 2) (.tmp 13) rfl rfl rfl rfl HB1.out rfl (info26s (zero8_length 64)) (u8s_one _) ?_; intro w2 hb2 ho2; have HB2 := Lib.hid hb2; have HO2 := Lib.hid (HO1.out.then ho2 (fun i hi e => by have := HH.out; omega)); clear hb2 ho2))
   refine bodyPost_ret (ret_cell_tmp rfl rfl HB2.out agg26 (info26s (zero8_length 64))) rfl ?_
   exact HD.out _ HO2.out
 ·have q : ((l.length : Int) != 68) = true := by simp; omega
  have hk : markB l = false := by unfold markB; rw [decide_eq_false h, Bool.false_and]
  have HD := Lib.hid (show ∀ w', Only (fun _ => False) w w' → UnmAt l w (.returned (.tuple #[.agg (u8s (zero8 64)).toArray, .int .i64 5])) w' from fun w' ho => ⟨ho, by unfold sigB; rw [hk, if_neg (by decide), if_neg (by decide)]⟩)
  clear hB h hk hcap
  generalize l.length = m at q ⊢
  go_enter Tryz.func65, Tryz.ntmps65
  go_wp2_with (first
   | (refine wpList_alloc_blk rfl 26 2 rfl rfl zero26 ?_; intro w1 hb1 ho1 hs1; have HB1 := Lib.hid hb1; have HO1 := Lib.hid ho1; clear hb1 ho1 hs1; generalize hH : w.heap.size = H at HB1 ⊢; have HH := Lib.hid hH; clear hH)
   | (refine wpList_build0 rfl 26 rfl built26 ?_)
   | (refine wpList_store_blk (cs := u8s (zero8 64)) rfl 26 (.tmp 2) (.tmp 13) rfl rfl rfl rfl HB1.out rfl (info26s (zero8_length 64)) (u8s_one _) ?_; intro w2 hb2 ho2; have HB2 := Lib.hid hb2; have HO2 := Lib.hid (HO1.out.then ho2 (fun i hi e => by have := HH.out; omega)); clear hb2 ho2))
  refine bodyPost_ret (ret_cell_tmp rfl rfl HB2.out agg26 (info26s (zero8_length 64))) rfl ?_
  exact HD.out _ HO2.out
end Go.Proofs.YtjehnejgojgahaaGreatDoor
