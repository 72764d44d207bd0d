/-
  A part of the proof of MessageTakes: the texts B0 R0 R1 R2 R3 B1 K0.
-/
import Derived.Test.YtjehnejgojgahaaGreatDoorK01
import Derived.Test.YtjehnejgojgahaaGreatDoorProg
import Derived.WalkKit
import Derived.WalkSpells
import Derived.WalkLawsBesides
import Derived.BigQuiet
import Derived.Deep.QuietTactic
import Derived.Deep.LoopGhost
import Derived.Lib.Hide
import Derived.Deep.DeepCutAuto
import Derived.Deep.CutBlock
import Derived.Lib.AppendStr
import Derived.Laws.IdiomStrings
import Derived.WalkMore
namespace Go.Proofs.YtjehnejgojgahaaGreatDoor
open Go.RowKit
set_option linter.unusedVariables false
set_option linter.unusedSimpArgs false
structure Only (G : Nat → Prop) (w w' : World) : Prop where
 os : w'.os = w.os
 tape : w'.tape = w.tape
 output : w'.output = w.output
 size : w.heap.size ≤ w'.heap.size
 block : ∀ k, k < w.heap.size → ¬ G k → w'.heap[k]? = w.heap[k]?
theorem Only.refl (G : Nat → Prop) (w : World) : Only G w w := ⟨rfl, rfl, rfl, Nat.le_refl _, fun _ _ _ => rfl⟩
theorem Only.trans {G : Nat → Prop} {a b c : World} (h : Only G a b) (k : Only G b c) : Only G a c :=
 ⟨k.os.trans h.os, k.tape.trans h.tape, k.output.trans h.output, Nat.le_trans h.size k.size,
   fun i hi hg => (k.block i (Nat.lt_of_lt_of_le hi h.size) hg).trans (h.block i hi hg)⟩
theorem Only.then {G H : Nat → Prop} {a b c : World} (h : Only G a b) (k : Only H b c) (hh : ∀ i, i < a.heap.size → H i → G i) : Only G a c :=
 ⟨k.os.trans h.os, k.tape.trans h.tape, k.output.trans h.output, Nat.le_trans h.size k.size,
   fun i hi hg => (k.block i (Nat.lt_of_lt_of_le hi h.size) (fun x => hg (hh i hi x))).trans (h.block i hi hg)⟩
theorem Only.mono {G H : Nat → Prop} {a b : World} (h : Only G a b) (hh : ∀ i, i < a.heap.size → G i → H i) : Only H a b :=
 ⟨h.os, h.tape, h.output, h.size, fun i hi hg => h.block i hi (fun x => hg (hh i hi x))⟩
theorem Only.drewN {G : Nat → Prop} {a w : World} (h : Only G a w) (n : Nat) : Only G a (w.drewN n) := ⟨h.os, h.tape, h.output, h.size, h.block⟩
theorem Only.drew {G : Nat → Prop} {a w : World} (h : Only G a w) : Only G a w.drew := ⟨h.os, h.tape, h.output, h.size, h.block⟩
theorem Only.alloc {G : Nat → Prop} {a w : World} (h : Only G a w) (o : Obj) : Only G a (w.alloc o) :=
 h.trans ⟨rfl, rfl, rfl, by simp, fun k hk _ => Below.heap_alloc _ _ _ hk⟩
theorem Only.setCell {G : Nat → Prop} {a w : World} (h : Only G a w) {p : Addr} (hp : p.block < a.heap.size → G p.block) (u : Value) : Only G a (w.setCell p u) :=
 ⟨h.os, h.tape, h.output, by simpa [World.setCell] using h.size,
   fun k hk hg => (Below.heap_setCell _ _ _ _ (fun e => by subst e; exact hg (hp hk))).trans (h.block k hk hg)⟩
theorem Only.below {G : Nat → Prop} {a w w' : World} (h : Only G a w) (hb : Below w.heap.size w w') : Only G a w' :=
 h.trans ⟨hb.os, hb.tape, hb.output, hb.size, fun k hk _ => hb.block k hk⟩
theorem Only.toBelow {a w : World} (h : Only (fun _ => False) a w) : Below a.heap.size a w := ⟨h.os, h.tape, h.output, h.size, fun k hk => h.block k hk id⟩
theorem Only.ofBelow {G : Nat → Prop} {a w : World} (h : Below a.heap.size a w) : Only G a w := ⟨h.os, h.tape, h.output, h.size, fun k hk _ => h.block k hk⟩
theorem cell_lt {w : World} {a : Addr} {v : Value} (h : w.cell? a = some v) : a.block < w.heap.size := by
 unfold World.cell? at h
 split at h
 ·rename_i c t f e
  exact (Array.getElem?_eq_some_iff.1 e).1
 ·cases h
theorem Only.cell {G : Nat → Prop} {w w' : World} (h : Only G w w') {p : Addr} {v : Value} (hc : w.cell? p = some v) (hg : ¬ G p.block) : w'.cell? p = some v :=
 (World.cell?_of_block (w := w) (h.block p.block (cell_lt hc) hg)).trans hc
theorem Only.frozen {G : Nat → Prop} {w w' : World} (h : Only G w w') {p : Addr} (hp : p.block < w.heap.size) (hg : ¬ G p.block) : w'.frozen? p = w.frozen? p :=
 World.frozen?_of_block (w := w) (h.block p.block hp hg)
def Blk (w : World) (g : Nat) (cs : List Value) (T : TypeId) : Prop := w.heap[g]? = some (.cells cs.toArray T (0, 0))
theorem Blk.cell {w : World} {g : Nat} {cs : List Value} {T : TypeId} (h : Blk w g cs T) (i : Nat) {v : Value} (hi : cs[i]? = some v) : w.cell? ⟨g, i, none⟩ = some v := by
 unfold Blk at h; unfold World.cell?; rw [h]; simpa using hi
theorem Blk.frozen {w : World} {g : Nat} {cs : List Value} {T : TypeId} (h : Blk w g cs T) (i : Nat) : w.frozen? ⟨g, i, none⟩ = false := by
 unfold Blk at h; unfold World.frozen?; rw [h]; simp
theorem Blk.lt {w : World} {g : Nat} {cs : List Value} {T : TypeId} (h : Blk w g cs T) : g < w.heap.size := (Array.getElem?_eq_some_iff.1 h).1
theorem Blk.only {w w' : World} {g : Nat} {cs : List Value} {T : TypeId} {G : Nat → Prop} (h : Blk w g cs T) (ho : Only G w w') (hg : ¬ G g) : Blk w' g cs T :=
 (ho.block g h.lt hg).trans h
theorem Blk.set {w : World} {g : Nat} {cs : List Value} {T : TypeId} (h : Blk w g cs T) (i : Nat) (v : Value) : Blk (w.setCell ⟨g, i, none⟩ v) g (cs.set i v) T := by
 unfold Blk at *
 simp [World.setCell, Array.getElem?_modify, h]
theorem Blk.set' {w : World} {g : Nat} {cs : List Value} {T : TypeId} (h : Blk w g cs T) (i : Nat) (v : Value) {ds : List Value} (hd : ds = cs.set i v) : Blk (w.setCell ⟨g, i, none⟩ v) g ds T := hd ▸ h.set i v
theorem Blk.far {w : World} {g : Nat} {cs : List Value} {T : TypeId} (h : Blk w g cs T) {p : Addr} (hp : g ≠ p.block) (v : Value) : Blk (w.setCell p v) g cs T :=
 (Below.heap_setCell _ _ _ _ hp).trans h
theorem Blk.drewN {w : World} {g : Nat} {cs : List Value} {T : TypeId} (h : Blk w g cs T) (n : Nat) : Blk (w.drewN n) g cs T := h
theorem Blk.drew {w : World} {g : Nat} {cs : List Value} {T : TypeId} (h : Blk w g cs T) : Blk w.drew g cs T := h
theorem Blk.alloc {w : World} {g : Nat} {cs : List Value} {T : TypeId} (h : Blk w g cs T) (o : Obj) : Blk (w.alloc o) g cs T :=
 (Below.heap_alloc _ _ _ h.lt).trans h
theorem Blk.new (w : World) (cs : List Value) (T : TypeId) : Blk (w.alloc (.cells cs.toArray T)) w.heap.size cs T := by
 show (w.heap.push _)[w.heap.size]? = _; simp
def BytesAt (w : World) (A : Option Addr) (l : Bytes) : Prop :=
 ∀ (i : Nat) (x : UInt8), l[i]? = some x → ∃ b o, A = some ⟨b, o, none⟩ ∧ w.cell? ⟨b, o + i, none⟩ = some (.int .u8 x.toNat)
theorem BytesAt.only {w w' : World} {A : Option Addr} {l : Bytes} {G : Nat → Prop} (h : BytesAt w A l) (ho : Only G w w') (hg : ∀ b o, A = some ⟨b, o, none⟩ → ¬ G b) : BytesAt w' A l := by
 intro i x hx
 obtain ⟨b, o, e, hc⟩ := h i x hx
 exact ⟨b, o, e, ho.cell hc (hg _ _ e)⟩
def Apart (A : Option Addr) (g : Nat) : Prop := ∀ b o, A = some ⟨b, o, none⟩ → b ≠ g
structure RS (w : World) (g : Nat) (A : Option Addr) (c : Nat) (l : Bytes) (i : Nat) (bad : Bool) : Prop where
 blk : Blk w g [.slice A l.length c, .int .i64 i, .bool bad] 140
 bytes : BytesAt w A l
 ne : Apart A g
 le : i ≤ l.length
 len : l.length ≤ 1048576
theorem RS.drewN {w : World} {g : Nat} {A : Option Addr} {c : Nat} {l : Bytes} {i : Nat} {bad : Bool} (h : RS w g A c l i bad) (n : Nat) : RS (w.drewN n) g A c l i bad :=
 ⟨h.blk, h.bytes, h.ne, h.le, h.len⟩
theorem BytesAt.set {w : World} {A : Option Addr} {l : Bytes} (h : BytesAt w A l) {p : Addr} (hp : Apart A p.block) (v : Value) : BytesAt (w.setCell p v) A l := by
 intro i x hx
 obtain ⟨b, o, e, hc⟩ := h i x hx
 exact ⟨b, o, e, (World.cell?_of_block (w := w) (Below.heap_setCell _ _ _ _ (hp _ _ e))).trans hc⟩
theorem RS.setAt {w : World} {g : Nat} {A : Option Addr} {c : Nat} {l : Bytes} {i : Nat} {bad : Bool} (h : RS w g A c l i bad) (j : Nat) (hj : j ≤ l.length) : RS (w.setCell ⟨g, 1, none⟩ (.int .i64 j)) g A c l j bad :=
 ⟨h.blk.set _ _, h.bytes.set h.ne _, h.ne, hj, h.len⟩
theorem RS.setBad {w : World} {g : Nat} {A : Option Addr} {c : Nat} {l : Bytes} {i : Nat} {bad : Bool} (h : RS w g A c l i bad) (b : Bool) : RS (w.setCell ⟨g, 2, none⟩ (.bool b)) g A c l i b :=
 ⟨h.blk.set _ _, h.bytes.set h.ne _, h.ne, h.le, h.len⟩
theorem RS.cells {w : World} {g : Nat} {A : Option Addr} {c : Nat} {l : Bytes} {i : Nat} {bad : Bool} (h : RS w g A c l i bad) :
  w.cell? ⟨g, 0, none⟩ = some (.slice A l.length c) ∧ w.cell? ⟨g, 1, none⟩ = some (.int .i64 i) ∧ w.cell? ⟨g, 2, none⟩ = some (.bool bad) ∧ w.frozen? ⟨g, 1, none⟩ = false ∧ w.frozen? ⟨g, 2, none⟩ = false :=
 ⟨h.blk.cell 0 rfl, h.blk.cell 1 rfl, h.blk.cell 2 rfl, h.blk.frozen 1, h.blk.frozen 2⟩
def IsPost (g : Nat) (A : Option Addr) (c : Nat) (l : Bytes) (i : Nat) (bad : Bool) (w : World) (r : Bool) (j : Nat) (e : Ending) (w' : World) : Prop :=
 e = .returned (.bool r) ∧ RS w' g A c l j bad ∧ Only (· = g) w w'
set_option maxHeartbeats 400000 in
theorem is_out (g : Nat) (A : Option Addr) (c : Nat) (l : Bytes) (i : Nat) (bad : Bool) (x : Int) (w : World) (hR : RS w g A c l i bad) (h : l.length ≤ i) :
  Calls Tryz.prog 91 #[.pointer (some ⟨g, 0, none⟩), .int .u8 x] w (IsPost g A c l i bad w false i) := by
 obtain ⟨h0, h1, _, _, _⟩ := hR.cells
 have H : decide (i < l.length) = false := by simp; omega
 have HR := Lib.hid hR
 clear hR h
 go_enter Tryz.func91, Tryz.ntmps91
 go_wp2
 go_quiet (fail)
 go_wp2
 go_ret
 exact ⟨rfl, HR.out.drewN _, (Only.refl _ _).drewN _⟩
theorem RS.byte {w : World} {g : Nat} {A : Option Addr} {c : Nat} {l : Bytes} {i : Nat} {bad : Bool} (h : RS w g A c l i bad) {y : UInt8} (hy : l[i]? = some y) :
  i < l.length ∧ ∃ b o, A = some ⟨b, o, none⟩ ∧ w.cell? ⟨b, o + i, none⟩ = some (.int .u8 y.toNat) :=
 ⟨(List.getElem?_eq_some_iff.1 hy).1, h.bytes i y hy⟩
set_option maxHeartbeats 400000 in
theorem is_yes (g : Nat) (A : Option Addr) (c : Nat) (l : Bytes) (i : Nat) (bad : Bool) (y : UInt8) (w : World) (hR : RS w g A c l i bad) (h : l[i]? = some y) :
  Calls Tryz.prog 91 #[.pointer (some ⟨g, 0, none⟩), .int .u8 y.toNat] w (IsPost g A c l i bad w true (i + 1)) := by
 obtain ⟨hlt, b, o, rfl, hc⟩ := hR.byte h
 obtain ⟨h0, h1, _, h3, _⟩ := hR.cells
 have hi : decide (i < l.length) = true := by simp; omega
 have hl := hR.len
 have HR := Lib.hid hR
 obtain ⟨z, hz⟩ : ∃ z : Int, z = y.toNat := ⟨_, rfl⟩
 rw [← hz] at hc ⊢
 have he : (z == z) = true := by simp
 clear hR h hz
 go_enter Tryz.func91, Tryz.ntmps91
 go_wp2
 go_quiet (fail)
 go_wp2
 go_ret
 exact ⟨rfl, (HR.out.drewN _).setAt (i + 1) (by omega), (((Only.refl (· = g) _).drewN _).setCell (fun _ => rfl) _)⟩
set_option maxHeartbeats 400000 in
theorem is_no (g : Nat) (A : Option Addr) (c : Nat) (l : Bytes) (i : Nat) (bad : Bool) (x : UInt8) (y : UInt8) (w : World) (hR : RS w g A c l i bad) (h : l[i]? = some y) (e : y ≠ x) :
  Calls Tryz.prog 91 #[.pointer (some ⟨g, 0, none⟩), .int .u8 x.toNat] w (IsPost g A c l i bad w false i) := by
 obtain ⟨hlt, b, o, rfl, hc⟩ := hR.byte h
 obtain ⟨h0, h1, _, h3, _⟩ := hR.cells
 have hi : decide (i < l.length) = true := by simp; omega
 have HR := Lib.hid hR
 obtain ⟨z, hz⟩ : ∃ z : Int, z = y.toNat := ⟨_, rfl⟩
 obtain ⟨v, hv⟩ : ∃ v : Int, v = x.toNat := ⟨_, rfl⟩
 have he : (z == v) = false := by
  subst hz hv; simp; intro q; exact e (UInt8.toNat_inj.1 (by omega))
 rw [← hz] at hc
 rw [← hv]
 clear hR h hz hv e
 go_enter Tryz.func91, Tryz.ntmps91
 go_wp2
 go_quiet (fail)
 go_wp2
 go_ret
 exact ⟨rfl, HR.out.drewN _, (Only.refl _ _).drewN _⟩
theorem skipB_drop {l : Bytes} {i : Nat} {x : UInt8} (h : l[i]? = some x) : skipB (l.drop i) = if isBlank x then skipB (l.drop (i + 1)) else l.drop i := by
 obtain ⟨hi, rfl⟩ := List.getElem?_eq_some_iff.1 h
 rw [List.drop_eq_getElem_cons hi, skipB]
def BlRel (g : Nat) (A : Option Addr) (c : Nat) (l : Bytes) (i : Nat) (bad : Bool) (w : World) (gk : Nat) (w' : World) : Prop :=
 ∃ j, RS w' g A c l j bad ∧ skipB (l.drop j) = skipB (l.drop i) ∧ l.length - j = gk ∧ Only (· = g) w w'
def BlPost (g : Nat) (A : Option Addr) (c : Nat) (l : Bytes) (i : Nat) (bad : Bool) (w : World) (e : Ending) (w' : World) : Prop :=
 e = .returned (.tuple #[]) ∧ (∃ j, RS w' g A c l j bad ∧ l.drop j = skipB (l.drop i)) ∧ Only (· = g) w w'
set_option maxHeartbeats 400000 in
theorem blanks_any (g : Nat) (A : Option Addr) (c : Nat) (l : Bytes) (i : Nat) (bad : Bool) (w : World) (hR : RS w g A c l i bad) :
  Calls Tryz.prog 68 #[.pointer (some ⟨g, 0, none⟩)] w (BlPost g A c l i bad w) := by
 have HR := Lib.hid hR
 clear hR
 go_enter Tryz.func68, Tryz.ntmps68
 go_wp2
 go_loopg [] (l.length - i) (fun gk wr => BlRel g A c l i bad w gk wr)
 case atStart => exact ⟨i, HR.out, rfl, rfl, Only.refl _ _⟩
 case round =>
  obtain ⟨j, hr, hs, hk, ho⟩ := hrel
  have hl := hr.len
  have hj := hr.le
  by_cases hlt : j < l.length
  ·obtain ⟨y, hy⟩ : ∃ y, l[j]? = some y := ⟨l[j], List.getElem?_eq_getElem hlt⟩
   have hsk := skipB_drop hy
   have HL := Lib.hid (show j + 1 ≤ l.length from hlt)
   obtain ⟨z, hz⟩ : ∃ z : Int, z = y.toNat := ⟨_, rfl⟩
   have hb : isBlank y = (z == 32 || z == 9 || z == 10 || z == 13) := by
    unfold isBlank
    subst hz
    rw [Bool.eq_iff_iff]
    simp [← UInt8.toNat_inj]
    omega
   obtain ⟨b, o, rfl, hc⟩ := hr.bytes j y hy
   rw [← hz] at hc
   obtain ⟨h0, h1, _, h3, _⟩ := hr.cells
   have hi : decide (j < l.length) = true := by simp; omega
   have HR' := Lib.hid hr
   have HO := Lib.hid ho
   have HS := Lib.hid hs
   have HSK := Lib.hid hsk
   have HB := Lib.hid hb
   have HK := Lib.hid hk
   clear hr ho hs hsk hb hk hy hz
   have h4 : (z == 32) = true ∨ ((z == 32) = false ∧ (z == 9) = true) ∨ ((z == 32) = false ∧ (z == 9) = false ∧ (z == 10) = true) ∨ ((z == 32) = false ∧ (z == 9) = false ∧ (z == 10) = false ∧ (z == 13) = true) ∨ ((z == 32) = false ∧ (z == 9) = false ∧ (z == 10) = false ∧ (z == 13) = false) := by
    cases (z == 32) <;> cases (z == 9) <;> cases (z == 10) <;> cases (z == 13) <;> simp
   rcases h4 with c1 | ⟨c1, c2⟩ | ⟨c1, c2, c3⟩ | ⟨c1, c2, c3, c4⟩ | ⟨c1, c2, c3, c4⟩
   iterate 4
    ·have HB' := Lib.hid (show isBlank y = true by rw [HB.out]; simp [*])
     clear HB
     go_wp2
     go_quiet (fail)
     go_wp2
     go_roundg (l.length - (j + 1))
     case rel => exact ⟨j + 1, (HR'.out.drewN _).setAt _ HL.out, by rw [← HS.out, HSK.out, HB'.out]; rfl, rfl, (HO.out.drewN _).setCell (fun _ => rfl) _⟩
     case measure => have := HK.out; have := HL.out; omega
   ·have HB' := Lib.hid (show isBlank y = false by rw [HB.out]; simp [*])
    clear HB
    go_wp2
    go_quiet (fail)
    go_wp2
    go_end0
    refine ⟨rfl, ⟨j, HR'.out.drewN _, ?_⟩, HO.out.drewN _⟩
    rw [← HS.out, HSK.out, HB'.out]; rfl
  ·have hge : decide (j < l.length) = false := by simp; omega
   have hd : l.drop j = [] := List.drop_eq_nil_of_le (by omega)
   rw [hd] at hs
   obtain ⟨h0, h1, _, _, _⟩ := hr.cells
   have HR' := Lib.hid hr
   have HO := Lib.hid ho
   have HS := Lib.hid hs
   have HD := Lib.hid hd
   clear hr ho hs hk hd
   go_wp2
   go_quiet (fail)
   go_wp2
   go_end0
   refine ⟨rfl, ⟨j, HR'.out.drewN _, ?_⟩, HO.out.drewN _⟩
   rw [← HS.out, HD.out]; rfl
def RSo (w : World) (g : Nat) (A : Option Addr) (c : Nat) (l : Bytes) : Option Bytes → Prop
 | some r => ∃ j, RS w g A c l j false ∧ l.drop j = r
 | none => ∃ j, RS w g A c l j true
theorem RSo.get {w : World} {g : Nat} {A : Option Addr} {c : Nat} {l : Bytes} {s : Option Bytes} (h : RSo w g A c l s) : ∃ j, RS w g A c l j s.isNone ∧ ∀ r, s = some r → l.drop j = r := by
 cases s with
 | none => obtain ⟨j, h⟩ := h; exact ⟨j, h, fun _ e => by cases e⟩
 | some r => obtain ⟨j, h, e⟩ := h; exact ⟨j, h, fun _ q => by cases q; exact e⟩
theorem RSo.mk {w : World} {g : Nat} {A : Option Addr} {c : Nat} {l : Bytes} {s : Option Bytes} {j : Nat} (h : RS w g A c l j s.isNone) (e : ∀ r, s = some r → l.drop j = r) : RSo w g A c l s := by
 cases s with
 | none => exact ⟨j, h⟩
 | some r => exact ⟨j, h, e r rfl⟩
theorem RSo.bad {w : World} {g : Nat} {A : Option Addr} {c : Nat} {l : Bytes} {s : Option Bytes} (h : RSo w g A c l s) : w.cell? ⟨g, 2, none⟩ = some (.bool s.isNone) ∧ w.frozen? ⟨g, 2, none⟩ = false := by
 obtain ⟨j, h, _⟩ := h.get
 exact ⟨h.cells.2.2.1, h.cells.2.2.2.2⟩
theorem RSo.setBad {w : World} {g : Nat} {A : Option Addr} {c : Nat} {l : Bytes} {s : Option Bytes} (h : RSo w g A c l s) : RSo (w.setCell ⟨g, 2, none⟩ (.bool true)) g A c l none := by
 obtain ⟨j, h, _⟩ := h.get
 exact ⟨j, h.setBad true⟩
theorem RSo.drewN {w : World} {g : Nat} {A : Option Addr} {c : Nat} {l : Bytes} {s : Option Bytes} (h : RSo w g A c l s) (n : Nat) : RSo (w.drewN n) g A c l s := by
 obtain ⟨j, h, e⟩ := h.get
 exact RSo.mk (h.drewN n) e
def EndPost (g : Nat) (A : Option Addr) (c : Nat) (l : Bytes) (s : Option Bytes) (w : World) (e : Ending) (w' : World) : Prop :=
 e = .returned (.tuple #[]) ∧ RSo w' g A c l s ∧ Only (· = g) w w'
def BoolPost (g : Nat) (A : Option Addr) (c : Nat) (l : Bytes) (s : Option Bytes) (b : Bool) (w : World) (e : Ending) (w' : World) : Prop :=
 e = .returned (.bool b) ∧ RSo w' g A c l s ∧ Only (· = g) w w'
def SomePost (g : Nat) (A : Option Addr) (c : Nat) (l : Bytes) (w : World) (e : Ending) (w' : World) : Prop :=
 (∃ b, e = .returned (.bool b)) ∧ RSo w' g A c l none ∧ Only (· = g) w w'
theorem blanks_o {g : Nat} {A : Option Addr} {c : Nat} {l : Bytes} {s : Option Bytes} {w : World} (hR : RSo w g A c l s) :
  Calls Tryz.prog 68 #[.pointer (some ⟨g, 0, none⟩)] w (EndPost g A c l (s.map skipB) w) := by
 obtain ⟨i, h, hd⟩ := hR.get
 refine (blanks_any g A c l i _ w h).mono ?_
 rintro e w' ⟨he, ⟨j, hj, hjd⟩, ho⟩
 refine ⟨he, RSo.mk (j := j) (by simpa using hj) ?_, ho⟩
 intro r hr
 cases s with
 | none => cases hr
 | some q => cases hr; rw [hjd, hd q rfl]
theorem is_yes_o {g : Nat} {A : Option Addr} {c : Nat} {l : Bytes} {r : Bytes} {x : UInt8} {w : World} (hR : RSo w g A c l (some (x :: r))) :
  Calls Tryz.prog 91 #[.pointer (some ⟨g, 0, none⟩), .int .u8 x.toNat] w (BoolPost g A c l (some r) true w) := by
 obtain ⟨i, h, hd⟩ := hR
 have hx : l[i]? = some x := by rw [← List.head?_drop, hd]; rfl
 refine (is_yes g A c l i false x w h hx).mono ?_
 rintro e w' ⟨he, hj, ho⟩
 exact ⟨he, ⟨i + 1, hj, by rw [← List.tail_drop, hd]; rfl⟩, ho⟩
theorem is_no_o {g : Nat} {A : Option Addr} {c : Nat} {l : Bytes} {r : Bytes} {x : UInt8} {w : World} (hR : RSo w g A c l (some r)) (hx : r.head? ≠ some x) :
  Calls Tryz.prog 91 #[.pointer (some ⟨g, 0, none⟩), .int .u8 x.toNat] w (BoolPost g A c l (some r) false w) := by
 obtain ⟨i, h, hd⟩ := hR
 rcases Nat.lt_or_ge i l.length with hlt | hge
 ·have hy : l[i]? = some l[i] := List.getElem?_eq_getElem hlt
  have : r.head? = some l[i] := by rw [← hd, List.head?_drop, hy]
  refine (is_no g A c l i false x l[i] w h hy (by rintro rfl; exact hx this)).mono ?_
  rintro e w' ⟨he, hj, ho⟩
  exact ⟨he, ⟨i, hj, hd⟩, ho⟩
 ·refine (is_out g A c l i false _ w h hge).mono ?_
  rintro e w' ⟨he, hj, ho⟩
  exact ⟨he, ⟨i, hj, hd⟩, ho⟩
theorem is_bad_o {g : Nat} {A : Option Addr} {c : Nat} {l : Bytes} {x : UInt8} {w : World} (hR : RSo w g A c l none) :
  Calls Tryz.prog 91 #[.pointer (some ⟨g, 0, none⟩), .int .u8 x.toNat] w (SomePost g A c l w) := by
 obtain ⟨i, h⟩ := hR
 rcases Nat.lt_or_ge i l.length with hlt | hge
 ·have hy : l[i]? = some l[i] := List.getElem?_eq_getElem hlt
  by_cases e : l[i] = x
  ·rw [e] at hy
   refine (is_yes g A c l i true x w h hy).mono ?_
   rintro e w' ⟨he, hj, ho⟩
   exact ⟨⟨_, he⟩, ⟨_, hj⟩, ho⟩
  ·refine (is_no g A c l i true x l[i] w h hy e).mono ?_
   rintro e w' ⟨he, hj, ho⟩
   exact ⟨⟨_, he⟩, ⟨_, hj⟩, ho⟩
 ·refine (is_out g A c l i true _ w h hge).mono ?_
  rintro e w' ⟨he, hj, ho⟩
  exact ⟨⟨_, he⟩, ⟨_, hj⟩, ho⟩
theorem drop_text (t : ByteArray) (k : Nat) (h : k < t.size) : t.data.toList.drop k = t[k] :: t.data.toList.drop (k + 1) := by
 rw [List.drop_eq_getElem_cons (by simpa using h)]; rfl
def MustRel (g : Nat) (A : Option Addr) (c : Nat) (l : Bytes) (s : Option Bytes) (t : ByteArray) (w : World) (v : Value) (gk : Nat) (w' : World) : Prop :=
 ∃ (k : Nat) (s' : Option Bytes), k ≤ t.size ∧ v = .int .i64 k ∧ RSo w' g A c l s' ∧ Only (· = g) w w' ∧ gk = t.size - k ∧
  s'.bind (mustB (t.data.toList.drop k)) = s.bind (mustB t.data.toList)
set_option maxHeartbeats 400000 in
theorem must_any {g : Nat} {A : Option Addr} {c : Nat} {l : Bytes} {s : Option Bytes} {t : ByteArray} {w : World} (ht : t.size ≤ 1000) (hR : RSo w g A c l s) :
  Calls Tryz.prog 89 #[.pointer (some ⟨g, 0, none⟩), .string t] w (EndPost g A c l (s.bind (mustB t.data.toList)) w) := by
 have HR := Lib.hid hR
 clear hR
 go_enter Tryz.func89, Tryz.ntmps89
 go_wp2
 go_loopg [4] (t.size) (fun gk v wr => MustRel g A c l s t w v gk wr)
 case atStart => exact ⟨0, s, Nat.zero_le _, rfl, HR.out, Only.refl _ _, rfl, rfl⟩
 case round =>
  obtain ⟨k, s', hk, rfl, hr, ho, hgk, hs⟩ := hrel
  have HS := Lib.hid hs
  have HO := Lib.hid ho
  have HG := Lib.hid hgk
  clear hs ho hgk
  by_cases hlt : k < t.size
  ·have HK := Lib.hid (show k + 1 ≤ t.size from hlt)
   have hlt' : decide (k < t.size) = true := by simpa using hlt
   have hd := Lib.hid (drop_text t k hlt)
   cases s' with
   | none =>
    have HN := Lib.hid hr
    clear hr
    go_wp2_with (go_at_call 91; refine (is_bad_o HN.out).mono ?_; rintro e w1 ⟨⟨b1, rfl⟩, hr1, ho1⟩; obtain ⟨h2, h4⟩ := hr1.bad; have HR1 := Lib.hid hr1; have HO1 := Lib.hid ho1; clear hr1 ho1)
    ·go_end0
     have e1 := HS.out
     exact ⟨rfl, by rw [← e1]; exact HR1.out.setBad, (HO.out.trans HO1.out).setCell (fun _ => rfl) _⟩
    ·go_roundg (t.size - (k + 1))
     case rel => exact ⟨k + 1, none, HK.out, rfl, HR1.out, HO.out.trans HO1.out, rfl, HS.out⟩
     case measure => have := HG.out; have := HK.out; omega
   | some r =>
    by_cases hx : r.head? = some t[k]
    ·obtain ⟨r, rfl⟩ : ∃ q, r = t[k] :: q := by
      cases r with
      | nil => cases hx
      | cons a q => cases hx; exact ⟨q, rfl⟩
     have HN := Lib.hid hr
     clear hr hx
     go_wp2_with (go_at_call 91; refine (is_yes_o HN.out).mono ?_; rintro e w1 ⟨rfl, hr1, ho1⟩; have HR1 := Lib.hid hr1; have HO1 := Lib.hid ho1; clear hr1 ho1)
     go_roundg (t.size - (k + 1))
     case rel =>
      refine ⟨k + 1, some r, HK.out, rfl, HR1.out, HO.out.trans HO1.out, rfl, ?_⟩
      rw [← HS.out, hd.out]
      simp only [Option.bind_some, mustB]
      exact (if_pos rfl).symm
     case measure => have := HG.out; have := HK.out; omega
    ·have HN := Lib.hid hr
     have HX := Lib.hid hx
     clear hr hx
     go_wp2_with (go_at_call 91; refine (is_no_o HN.out HX.out).mono ?_; rintro e w1 ⟨rfl, hr1, ho1⟩; obtain ⟨h2, h4⟩ := hr1.bad; have HR1 := Lib.hid hr1; have HO1 := Lib.hid ho1; clear hr1 ho1)
     go_end0
     refine ⟨rfl, ?_, (HO.out.trans HO1.out).setCell (fun _ => rfl) _⟩
     have e2 : s.bind (mustB t.data.toList) = none := by
      rw [← HS.out, hd.out]
      have hx := HX.out
      cases r with
      | nil => rfl
      | cons a q =>
       simp only [Option.bind_some, mustB]
       rw [if_neg (by rintro rfl; exact hx rfl)]
     rw [e2]
     exact HR1.out.setBad
  ·have hlt' : decide (k < t.size) = false := by simpa using hlt
   have HN := Lib.hid hr
   have HD := Lib.hid (show t.data.toList.drop k = [] from List.drop_eq_nil_of_le (by simpa using hlt))
   clear hr
   go_wp2
   go_end0
   have e2 := HS.out
   rw [HD.out] at e2
   refine ⟨rfl, ?_, HO.out⟩
   rw [← e2]
   have e3 : s'.bind (mustB []) = s' := by cases s' <;> rfl
   rw [e3]
   exact HN.out
def FourRel (g : Nat) (A : Option Addr) (c : Nat) (l : Bytes) (i : Nat) (bad : Bool) (w : World) (v3 v4 : Value) (gk : Nat) (w' : World) : Prop :=
 ∃ (k n j : Nat), k ≤ 4 ∧ v3 = .int .i64 n ∧ v4 = .int .i64 k ∧ RS w' g A c l j bad ∧ Only (· = g) w w' ∧ gk = 4 - k ∧ n < 16 ^ k ∧
  hexN (4 - k) n (l.drop j) = hexN 4 0 (l.drop i)
def FourAt (g : Nat) (A : Option Addr) (c : Nat) (l : Bytes) (i : Nat) (bad : Bool) (w : World) (e : Ending) (w' : World) : Prop :=
 Only (· = g) w w' ∧ ((∃ n j r, hexN 4 0 (l.drop i) = some (n, r) ∧ e = .returned (.int .i64 n) ∧ RS w' g A c l j bad ∧ l.drop j = r) ∨
  (hexN 4 0 (l.drop i) = none ∧ e = .returned (.int .i64 0) ∧ ∃ j, RS w' g A c l j true))
theorem hex_step {l : Bytes} {j k n : Nat} {y : UInt8} (h : l[j]? = some y) : hexN (k + 1) n (l.drop j) = match hexD y with | some d => hexN k (16 * n + d) (l.drop (j + 1)) | none => none := by
 obtain ⟨hi, rfl⟩ := List.getElem?_eq_some_iff.1 h
 rw [List.drop_eq_getElem_cons hi, hexN]
 cases hexD l[j] <;> rfl
theorem drop_one {l : Bytes} {j : Nat} {y : UInt8} (h : l[j]? = some y) : l.drop j = y :: l.drop (j + 1) := by
 obtain ⟨hi, rfl⟩ := List.getElem?_eq_some_iff.1 h
 exact List.drop_eq_getElem_cons hi
theorem int_eq {k : IntKind} {a b : Int} (h : a = b) : Value.int k a = .int k b := by rw [h]
theorem four_next {l : Bytes} {i j k n d z : Nat} {y : UInt8} (hk : k + 1 ≤ 4) (hh : hexN (4 - k) n (l.drop j) = hexN 4 0 (l.drop i))
  (hs : hexN (3 - k + 1) n (l.drop j) = match hexD y with | some d => hexN (3 - k) (16 * n + d) (l.drop (j + 1)) | none => none)
  (hd : hexD y = some d) : hexN (4 - (k + 1)) (16 * n + d) (l.drop (j + 1)) = hexN 4 0 (l.drop i) := by
 rw [← hh, show 4 - k = 3 - k + 1 by omega, hs, hd, show 4 - (k + 1) = 3 - k by omega]
theorem four_none {l : Bytes} {i j k n : Nat} {y : UInt8} (hk : k + 1 ≤ 4) (hh : hexN (4 - k) n (l.drop j) = hexN 4 0 (l.drop i))
  (hs : hexN (3 - k + 1) n (l.drop j) = match hexD y with | some d => hexN (3 - k) (16 * n + d) (l.drop (j + 1)) | none => none)
  (hd : hexD y = none) : hexN 4 0 (l.drop i) = none := by
 rw [← hh, show 4 - k = 3 - k + 1 by omega, hs, hd]
theorem four_out {l : Bytes} {i j k n : Nat} (hk : k + 1 ≤ 4) (hh : hexN (4 - k) n (l.drop j) = hexN 4 0 (l.drop i)) (hj : l.length ≤ j) : hexN 4 0 (l.drop i) = none := by
 rw [← hh, show 4 - k = 3 - k + 1 by omega, List.drop_eq_nil_of_le hj]; rfl
theorem pow_next {n k d : Nat} (h : n < 16 ^ k) (hd : d < 16) : 16 * n + d < 16 ^ (k + 1) := by
 rw [Nat.pow_succ]; omega
set_option maxHeartbeats 1000000 in
set_option maxRecDepth 100000 in
theorem four_at {g : Nat} {A : Option Addr} {c : Nat} {l : Bytes} {i : Nat} {bad : Bool} {w : World} (hR : RS w g A c l i bad) :
  Calls Tryz.prog 114 #[.pointer (some ⟨g, 0, none⟩)] w (FourAt g A c l i bad w) := by
 have HR := Lib.hid hR
 clear hR
 go_enter Tryz.func114, Tryz.ntmps114
 go_wp2
 go_loopg [3, 4] 4 (fun gk v3 v4 wr => FourRel g A c l i bad w v3 v4 gk wr)
 case atStart => exact ⟨0, 0, i, by omega, rfl, rfl, HR.out, Only.refl _ _, rfl, by omega, rfl⟩
 case round =>
  obtain ⟨k, n, j, hk, rfl, rfl, hr, ho, hgk, hn, hh⟩ := hrel
  have HH := Lib.hid hh
  have HO := Lib.hid ho
  have HG := Lib.hid hgk
  clear hh ho hgk
  have hl := hr.len
  have hj := hr.le
  obtain ⟨h0, h1, h2, h3, h4⟩ := hr.cells
  by_cases hlt : k < 4
  ·have HK := Lib.hid (show k + 1 ≤ 4 from hlt)
   have hn' : n ≤ 4095 := by have := Nat.pow_le_pow_right (n := 16) (by omega) (show k ≤ 3 by omega); omega
   by_cases hjl : j < l.length
   ·have hc1 : decide (l.length ≤ j) = false := by simp; omega
    obtain ⟨y, hy⟩ : ∃ y, l[j]? = some y := ⟨l[j], List.getElem?_eq_getElem hjl⟩
    obtain ⟨b, o, rfl, hc⟩ := hr.bytes j y hy
    have HS := Lib.hid (hex_step (k := 3 - k) (n := n) hy)
    have HJ := Lib.hid (show j + 1 ≤ l.length from hjl)
    have HN := Lib.hid hn
    have hy255 := y.toNat_lt
    obtain ⟨z, hz⟩ : ∃ z : Nat, z = y.toNat := ⟨_, rfl⟩
    rw [← hz] at hc hy255
    have HD : Hid (hexD y = if 48 ≤ z ∧ z ≤ 57 then some (z - 48) else if 97 ≤ z ∧ z ≤ 102 then some (z - 87) else if 65 ≤ z ∧ z ≤ 70 then some (z - 55) else none) := by rw [hz]; rfl
    have HR' := Lib.hid hr
    clear hr hy hz hn
    go_wp2
    go_quiet (fail)
    go_wp2
    go_quiet (fail)
    go_wp2
    all_goals first
     | (go_roundg (4 - (k + 1))
        case rel =>
         have hd : hexD y = some (z - 48) := by rw [HD.out, if_pos (by omega)]
         exact ⟨k + 1, 16 * n + (z - 48), j + 1, HK.out, int_eq (by omega), rfl, (HR'.out.drewN _).setAt _ HJ.out, (HO.out.drewN _).setCell (fun _ => rfl) _, rfl, pow_next HN.out (hexD_lt hd), four_next (z := z) HK.out HH.out HS.out hd⟩
        case measure => have := HG.out; have := HK.out; omega)
     | (go_roundg (4 - (k + 1))
        case rel =>
         have hd : hexD y = some (z - 87) := by rw [HD.out, if_neg (by omega), if_pos (by omega)]
         exact ⟨k + 1, 16 * n + (z - 87), j + 1, HK.out, int_eq (by omega), rfl, (HR'.out.drewN _).setAt _ HJ.out, (HO.out.drewN _).setCell (fun _ => rfl) _, rfl, pow_next HN.out (hexD_lt hd), four_next (z := z) HK.out HH.out HS.out hd⟩
        case measure => have := HG.out; have := HK.out; omega)
     | (go_roundg (4 - (k + 1))
        case rel =>
         have hd : hexD y = some (z - 55) := by rw [HD.out, if_neg (by omega), if_neg (by omega), if_pos (by omega)]
         exact ⟨k + 1, 16 * n + (z - 55), j + 1, HK.out, int_eq (by omega), rfl, (HR'.out.drewN _).setAt _ HJ.out, (HO.out.drewN _).setCell (fun _ => rfl) _, rfl, pow_next HN.out (hexD_lt hd), four_next (z := z) HK.out HH.out HS.out hd⟩
        case measure => have := HG.out; have := HK.out; omega)
     | (go_ret
        have hd : hexD y = none := by rw [HD.out, if_neg (by omega), if_neg (by omega), if_neg (by omega)]
        exact ⟨(HO.out.drewN _).setCell (fun _ => rfl) _, Or.inr ⟨four_none HK.out HH.out HS.out hd, rfl, j, (HR'.out.drewN _).setBad true⟩⟩)
   ·have hc1 : decide (l.length ≤ j) = true := by simp; omega
    have HR' := Lib.hid hr
    have HJ := Lib.hid (show l.length ≤ j by omega)
    clear hr
    go_wp2
    go_quiet (fail)
    go_wp2
    go_ret
    exact ⟨(HO.out.drewN _).setCell (fun _ => rfl) _, Or.inr ⟨four_out HK.out HH.out HJ.out, rfl, j, (HR'.out.drewN _).setBad true⟩⟩
  ·obtain rfl : k = 4 := by omega
   have HR' := Lib.hid hr
   clear hr
   go_wp2
   go_ret
   exact ⟨HO.out, Or.inl ⟨n, j, _, HH.out.symm, rfl, HR'.out, rfl⟩⟩
def NumRel (g : Nat) (A : Option Addr) (c : Nat) (l : Bytes) (i : Nat) (bad : Bool) (w : World) (v4 : Value) (gk : Nat) (w' : World) : Prop :=
 ∃ (n j : Nat) (ds : Bytes), v4 = .int .u64 n ∧ n < big ∧ RS w' g A c l j (bad || decide (big ≤ dv ds)) ∧ Only (· = g) w w' ∧ gk = l.length - j ∧
  (∀ x ∈ ds, isDig x = true) ∧ l.drop i = ds ++ l.drop j ∧ j = i + ds.length ∧ (dv ds < big → n = dv ds)
def NumAt (g : Nat) (A : Option Addr) (c : Nat) (l : Bytes) (i : Nat) (bad : Bool) (w : World) (e : Ending) (w' : World) : Prop :=
 Only (· = g) w w' ∧ ∃ n j : Nat, e = .returned (.int .u64 n) ∧
  ((∃ r, numB (l.drop i) = some (n, r) ∧ RS w' g A c l j bad ∧ l.drop j = r) ∨ (numB (l.drop i) = none ∧ RS w' g A c l j true))
theorem wrap_u64 (x : Int) : IntKind.u64.wrap x = x % 18446744073709551616 := by
 simp [IntKind.wrap, IntKind.signed, IntKind.bits]
theorem num_over {n z : Nat} {ds : Bytes} {y : UInt8} (hz : z = y.toNat) (h1 : 48 ≤ z) (h2 : z ≤ 57) (hv : dv ds < big → n = dv ds) (h : (18446744073709551615 - ((z : Int) - 48)) / 10 < (n : Int)) : big ≤ dv (ds ++ [y]) := by
 rw [dv_snoc, ← hz]
 rcases Nat.lt_or_ge (dv ds) big with q | q
 ·have := hv q
  unfold big at *
  omega
 ·unfold big at *
  omega
theorem num_under {n z : Nat} {ds : Bytes} {y : UInt8} (hz : z = y.toNat) (h1 : 48 ≤ z) (h2 : z ≤ 57) (hv : dv ds < big → n = dv ds) (h : (n : Int) ≤ (18446744073709551615 - ((z : Int) - 48)) / 10) : decide (big ≤ dv (ds ++ [y])) = decide (big ≤ dv ds) := by
 rw [dv_snoc, ← hz, decide_eq_decide]
 constructor
 ·intro q
  rcases Nat.lt_or_ge (dv ds) big with p | p
  ·have := hv p
   unfold big at *
   omega
  ·exact p
 ·unfold big
  omega
theorem num_next {n z : Nat} {ds : Bytes} {y : UInt8} (hz : z = y.toNat) (hv : dv ds < big → n = dv ds) : dv (ds ++ [y]) < big → (10 * n + (z - 48)) % big = dv (ds ++ [y]) := by
 rw [dv_snoc, ← hz]
 intro q
 have := hv (by unfold big at *; omega)
 subst this
 exact Nat.mod_eq_of_lt q
theorem num_val1 {n z : Nat} (h1 : 48 ≤ z) : IntKind.u64.wrap (IntKind.u64.wrap (10 * (n : Int)) + ((z : Int) - 48)) = (((10 * n + (z - 48)) % big : Nat) : Int) := by
 rw [wrap_u64, wrap_u64]
 unfold big
 omega
theorem num_val2 {n z : Nat} (h1 : 48 ≤ z) (h2 : z ≤ 57) (h : (n : Int) ≤ (18446744073709551615 - ((z : Int) - 48)) / 10) : (10 * (n : Int) + ((z : Int) - 48)) = (((10 * n + (z - 48)) % big : Nat) : Int) := by
 unfold big
 omega
theorem numTail (ds r : Bytes) (hr : ∀ x, r.head? = some x → isDig x = false) (h : ∀ x ∈ ds, isDig x = true) : numB (ds ++ r) = if numOk ds then some (dv ds, r) else none := numB_of ds r h hr
theorem mem_snoc {p : UInt8 → Bool} {ds : Bytes} {y : UInt8} (h : ∀ x ∈ ds, p x = true) (hy : p y = true) : ∀ x ∈ ds ++ [y], p x = true := by
 intro x hx
 rcases List.mem_append.1 hx with h1 | h1
 ·exact h x h1
 ·rw [List.mem_singleton.1 h1]; exact hy
structure NumEnd (g : Nat) (A : Option Addr) (c : Nat) (l : Bytes) (i : Nat) (bad : Bool) (w : World) (n j : Nat) (ds : Bytes) (wr : World) : Prop where
 rs : RS wr g A c l j (bad || decide (big ≤ dv ds))
 only : Only (· = g) w wr
 num : numB (l.drop i) = if numOk ds then some (dv ds, l.drop j) else none
 n_is : dv ds < big → n = dv ds
theorem NumEnd.drewN {g : Nat} {A : Option Addr} {c : Nat} {l : Bytes} {i : Nat} {bad : Bool} {w : World} {n j : Nat} {ds : Bytes} {wr : World} (h : NumEnd g A c l i bad w n j ds wr) (k : Nat) : NumEnd g A c l i bad w n j ds (wr.drewN k) :=
 ⟨h.rs.drewN k, h.only.drewN k, h.num, h.n_is⟩
theorem NumEnd.falls {g : Nat} {A : Option Addr} {c : Nat} {l : Bytes} {i : Nat} {bad : Bool} {w : World} {n j : Nat} {ds : Bytes} {wr : World} (h : NumEnd g A c l i bad w n j ds wr)
  (hk : numOk ds = false) : NumAt g A c l i bad w (.returned (.int .u64 n)) (wr.setCell ⟨g, 2, none⟩ (.bool true)) := by
 have := h.num
 rw [hk] at this
 exact ⟨h.only.setCell (fun _ => rfl) _, n, j, rfl, Or.inr ⟨by simpa using this, h.rs.setBad true⟩⟩
theorem NumEnd.stands {g : Nat} {A : Option Addr} {c : Nat} {l : Bytes} {i : Nat} {bad : Bool} {w : World} {n j : Nat} {ds : Bytes} {wr : World} (h : NumEnd g A c l i bad w n j ds wr)
  (h1 : ds.isEmpty = false) (h2 : (ds.head? == some 48 && decide (1 < ds.length)) = false) : NumAt g A c l i bad w (.returned (.int .u64 n)) wr := by
 have hn := h.num
 have hr := h.rs
 refine ⟨h.only, n, j, rfl, ?_⟩
 by_cases hb : big ≤ dv ds
 ·right
  rw [show numOk ds = false by unfold numOk; simp [hb]] at hn
  refine ⟨by simpa using hn, by simpa [hb] using hr⟩
 ·left
  have hk : numOk ds = true := by unfold numOk; rw [h1, h2]; simp [hb]
  have := h.n_is (by omega)
  subst this
  rw [hk] at hn
  exact ⟨_, by simpa using hn, by simpa [hb] using hr, rfl⟩
theorem num_head {wr : World} {g b o c i j : Nat} {l : Bytes} {bb : Bool} {x : UInt8} {ds' : Bytes} (hx : RS wr g (some ⟨b, o, none⟩) c l j bb)
  (hs : l.drop i = (x :: ds') ++ l.drop j) (hj : j = i + (x :: ds').length) :
  ((j : Int) == (i : Int)) = false ∧ i < l.length ∧ ∃ v : Nat, wr.cell? ⟨b, o + i, none⟩ = some (.int .u8 v) ∧
   (((v : Int) == 48) = true → decide ((i : Int) + 1 < (j : Int)) = true → numOk (x :: ds') = false) ∧
   ((((v : Int) == 48) = false ∨ decide ((i : Int) + 1 < (j : Int)) = false) → ((x :: ds').head? == some 48 && decide (1 < (x :: ds').length)) = false) := by
 have hl : l[i]? = some x := by rw [← List.head?_drop, hs]; rfl
 obtain ⟨b', o', e, hc⟩ := hx.bytes i x hl
 cases e
 have key : ((x :: ds').head? == some 48 && decide (1 < (x :: ds').length)) = (((x.toNat : Int) == 48) && decide ((i : Int) + 1 < (j : Int))) := by
  rw [Bool.eq_iff_iff]
  simp [← UInt8.toNat_inj]
  simp at hj
  omega
 refine ⟨by simp at hj ⊢; omega, (List.getElem?_eq_some_iff.1 hl).1, x.toNat, hc, ?_, ?_⟩
 ·intro h1 h2
  unfold numOk
  rw [key, h1, h2]; simp
 ·intro h
  rw [key]
  rcases h with h | h <;> rw [h] <;> simp
set_option maxHeartbeats 2000000 in
set_option maxRecDepth 100000 in
theorem num_at {g : Nat} {A : Option Addr} {c : Nat} {l : Bytes} {i : Nat} {bad : Bool} {w : World} (hR : RS w g A c l i bad) :
  Calls Tryz.prog 92 #[.pointer (some ⟨g, 0, none⟩)] w (NumAt g A c l i bad w) := by
 have HR := Lib.hid hR
 obtain ⟨h0, h1, h2, h3, h4⟩ := hR.cells
 clear hR
 go_enter Tryz.func92, Tryz.ntmps92
 go_wp2
 clear h0 h1 h2 h3 h4
 go_loopg [4] (l.length - i) (fun gk v4 wr => NumRel g A c l i bad w v4 gk wr)
 case atStart => exact ⟨0, i, [], rfl, by unfold big; omega, by simpa [dv, dvFrom, big] using HR.out, Only.refl _ _, rfl, by simp, rfl, rfl, fun _ => rfl⟩
 case round =>
  obtain ⟨n, j, ds, rfl, hn, hr, ho, hgk, hds, hsp, hj, hv⟩ := hrel
  have HO := Lib.hid ho
  have HG := Lib.hid hgk
  have HDS := Lib.hid hds
  have HSP := Lib.hid hsp
  have HJ := Lib.hid hj
  have HV := Lib.hid hv
  have HN := Lib.hid hn
  have hl := hr.len
  obtain ⟨h0, h1, h2, h3, h4⟩ := hr.cells
  clear hgk ho hds hsp hj hv hn
  by_cases hjl : j < l.length
  ·have hc1 : decide (j < l.length) = true := by simp; omega
   obtain ⟨y, hy⟩ : ∃ y, l[j]? = some y := ⟨l[j], List.getElem?_eq_getElem hjl⟩
   obtain ⟨b, o, rfl, hc⟩ := hr.bytes j y hy
   have HL := Lib.hid (show j + 1 ≤ l.length from hjl)
   have HDR := Lib.hid (drop_one hy)
   have HR' := Lib.hid hr
   by_cases hd : isDig y = true
   ·obtain ⟨z, hz⟩ : ∃ z : Nat, z = y.toNat := ⟨_, rfl⟩
    have hd' := hd
    simp only [isDig, decide_eq_true_eq, ← hz] at hd'
    obtain ⟨hd1, hd2⟩ := hd'
    rw [← hz] at hc
    have hz1 : decide ((48 : Int) ≤ (z : Int)) = true := by simp; omega
    have hz2 : decide ((z : Int) ≤ (57 : Int)) = true := by simp; omega
    have HD := Lib.hid hd
    have HZ := Lib.hid hz
    clear hr hy hz hd
    go_wp2
    go_quiet (fail)
    go_wp2
    go_quiet (fail)
    go_wp2
    ·rename_i hq
     have HQ := Lib.hid (num_over HZ.out hd1 hd2 HV.out hq)
     go_roundg (l.length - (j + 1))
     case rel =>
      have hb : (bad || decide (big ≤ dv (ds ++ [y]))) = true := by simp [HQ.out]
      refine ⟨(10 * n + (z - 48)) % big, j + 1, ds ++ [y], int_eq (num_val1 hd1), Nat.mod_lt _ (by unfold big; omega), ?_, ((HO.out.drewN _).setCell (fun _ => rfl) _).setCell (fun _ => rfl) _, rfl, mem_snoc HDS.out HD.out, ?_, ?_, num_next HZ.out HV.out⟩
      ·rw [hb]; exact ((HR'.out.drewN _).setBad true).setAt _ HL.out
      ·rw [HSP.out, HDR.out]; simp
      ·rw [HJ.out]; simp; omega
     case measure => have := HG.out; have := HL.out; omega
    ·rename_i hq
     have HQ := Lib.hid (num_under HZ.out hd1 hd2 HV.out hq)
     go_roundg (l.length - (j + 1))
     case rel =>
      refine ⟨(10 * n + (z - 48)) % big, j + 1, ds ++ [y], int_eq (num_val2 hd1 hd2 hq), Nat.mod_lt _ (by unfold big; omega), ?_, (HO.out.drewN _).setCell (fun _ => rfl) _, rfl, mem_snoc HDS.out HD.out, ?_, ?_, num_next HZ.out HV.out⟩
      ·rw [HQ.out]; exact (HR'.out.drewN _).setAt _ HL.out
      ·rw [HSP.out, HDR.out]; simp
      ·rw [HJ.out]; simp; omega
     case measure => have := HG.out; have := HL.out; omega
   ·obtain ⟨z, hz⟩ : ∃ z : Nat, z = y.toNat := ⟨_, rfl⟩
    have hd' : ¬ (48 ≤ z ∧ z ≤ 57) := by simpa [isDig, ← hz] using hd
    rw [← hz] at hc
    have HD := Lib.hid hd
    have HZ := Lib.hid hz
    clear hr hy hz hd
    have h4' : decide ((48 : Int) ≤ (z : Int)) = false ∨ (decide ((48 : Int) ≤ (z : Int)) = true ∧ decide ((z : Int) ≤ (57 : Int)) = false) := by
     by_cases e : 48 ≤ z
     ·right; constructor <;> simp <;> omega
     ·left; simp; omega
    clear hd'
    have HE : Hid (NumEnd g (some ⟨b, o, none⟩) c l i bad w n j ds wr) := ⟨HR'.out, HO.out, by rw [HSP.out]; exact numTail ds (l.drop j) (by rw [HDR.out]; intro x hx; cases hx; simpa using HD.out) HDS.out, HV.out⟩
    have HJ' := HJ.out
    cases ds with
    | nil =>
     obtain rfl : j = i := by simpa using HJ'
     have e1 : ((j : Int) == (j : Int)) = true := by simp
     clear HJ'
     rcases h4' with c2 | ⟨c2, c3⟩
     all_goals
      go_wp2
      go_quiet (fail)
      go_wp2
      go_ret
      exact (HE.out.drewN _).falls rfl
    | cons x ds' =>
     obtain ⟨e1, hil, v, hci, h5⟩ := num_head (hx := HR'.out) HSP.out HJ'
     clear HJ'
     have h6 : (((v : Int) == 48) = true ∧ decide ((i : Int) + 1 < (j : Int)) = true) ∨ (((v : Int) == 48) = false) ∨ (((v : Int) == 48) = true ∧ decide ((i : Int) + 1 < (j : Int)) = false) := by
      cases ((v : Int) == 48) <;> cases decide ((i : Int) + 1 < (j : Int)) <;> simp
     rcases h4' with c2 | ⟨c2, c3⟩
     all_goals
      rcases h6 with ⟨c5, c6⟩ | c5 | ⟨c5, c6⟩
      ·have HB := Lib.hid (h5.1 c5 c6)
       clear h5
       go_wp2
       go_quiet (fail)
       go_wp2
       go_ret
       exact (HE.out.drewN _).falls HB.out
      ·have HB := Lib.hid (h5.2 (Or.inl c5))
       clear h5
       go_wp2
       go_quiet (fail)
       go_wp2
       go_ret
       exact (HE.out.drewN _).stands rfl HB.out
      ·have HB := Lib.hid (h5.2 (Or.inr c6))
       clear h5
       go_wp2
       go_quiet (fail)
       go_wp2
       go_ret
       exact (HE.out.drewN _).stands rfl HB.out
  ·have hc1 : decide (j < l.length) = false := by simp; omega
   have HR' := Lib.hid hr
   have HE : Hid (NumEnd g A c l i bad w n j ds wr) := ⟨HR'.out, HO.out, by rw [HSP.out]; exact numTail ds (l.drop j) (by rw [List.drop_eq_nil_of_le (by omega)]; intro x hx; cases hx) HDS.out, HV.out⟩
   have HJ' := HJ.out
   clear hr
   cases ds with
   | nil =>
    obtain rfl : j = i := by simpa using HJ'
    have e1 : ((j : Int) == (j : Int)) = true := by simp
    clear HJ'
    go_wp2
    go_quiet (fail)
    go_wp2
    go_ret
    exact (HE.out.drewN _).falls rfl
   | cons x ds' =>
    obtain ⟨b, o, rfl, hxx⟩ := HR'.out.bytes i x (by rw [← List.head?_drop, HSP.out]; rfl)
    clear hxx
    obtain ⟨e1, hil, v, hci, h5⟩ := num_head (hx := HR'.out) HSP.out HJ'
    clear HJ'
    have h6 : (((v : Int) == 48) = true ∧ decide ((i : Int) + 1 < (j : Int)) = true) ∨ (((v : Int) == 48) = false) ∨ (((v : Int) == 48) = true ∧ decide ((i : Int) + 1 < (j : Int)) = false) := by
     cases ((v : Int) == 48) <;> cases decide ((i : Int) + 1 < (j : Int)) <;> simp
    rcases h6 with ⟨c5, c6⟩ | c5 | ⟨c5, c6⟩
    ·have HB := Lib.hid (h5.1 c5 c6)
     clear h5
     go_wp2
     go_quiet (fail)
     go_wp2
     go_ret
     exact (HE.out.drewN _).falls HB.out
    ·have HB := Lib.hid (h5.2 (Or.inl c5))
     clear h5
     go_wp2
     go_quiet (fail)
     go_wp2
     go_ret
     exact (HE.out.drewN _).stands rfl HB.out
    ·have HB := Lib.hid (h5.2 (Or.inr c6))
     clear h5
     go_wp2
     go_quiet (fail)
     go_wp2
     go_ret
     exact (HE.out.drewN _).stands rfl HB.out
def cellsB (l : Bytes) : List Value := l.map fun x => .int .u8 x.toNat
def OwnB (w : World) (base : Nat) (v : Value) (l : Bytes) : Prop := w.ownsRow base 5 1 v l.length (cellsB l)
theorem Only.grown {G : Nat → Prop} {a w w' : World} {row : Option Nat} (h : Only G a w) (hg : w.grownBy w' row) (hr : ∀ k, row = some k → k < a.heap.size → G k) : Only G a w' :=
 ⟨hg.os.trans h.os, hg.tape.trans h.tape, hg.output.trans h.output, Nat.le_trans h.size hg.size,
   fun k hk hG => (hg.block k (Nat.lt_of_lt_of_le hk h.size) (fun e => hG (hr k e.symm hk))).trans (h.block k hk hG)⟩
theorem Only.ofGrown {w w' : World} {row : Option Nat} (hg : w.grownBy w' row) : Only (fun k => row = some k) w w' :=
 ⟨hg.os, hg.tape, hg.output, hg.size, fun k hk hG => hg.block k hk (fun e => hG e.symm)⟩
theorem OwnB.nil (w : World) (base : Nat) : OwnB w base (.slice none 0 0) [] := World.ownsRow_nil w base 5 1
theorem OwnB.form {w : World} {base : Nat} {v : Value} {l : Bytes} (h : OwnB w base v l) : ∃ A c, v = .slice A l.length c := by
 rcases h.2 with ⟨rfl, hn⟩ | ⟨g, cap, cur, rfl, _⟩
 ·exact ⟨none, 0, by rw [hn]⟩
 ·exact ⟨_, _, rfl⟩
theorem OwnB.grown {w w' : World} {base : Nat} {v : Value} {l : Bytes} {row : Option Nat} (h : OwnB w base v l) (hg : w.grownBy w' row) (hne : ∀ k, row = some k → v.ownBlock ≠ some k) : OwnB w' base v l := by
 refine World.ownsRow.kept h hg ?_
 cases hr : row with
 | none => cases hv : v.ownBlock with
  | none => exact .inl rfl
  | some k => right; simp
 | some k => right; exact hne k hr
theorem OwnB.only {w w' : World} {base : Nat} {v : Value} {l : Bytes} {G : Nat → Prop} (h : OwnB w base v l) (ho : Only G w w') (hne : ∀ k, v.ownBlock = some k → ¬ G k) : OwnB w' base v l := by
 refine ⟨h.1, ?_⟩
 rcases h.2 with hn | ⟨g, cap, cur, rfl, hb, hgg, rest⟩
 ·exact .inl hn
 ·refine .inr ⟨g, cap, cur, rfl, hb, ?_, rest⟩
  rw [ho.block g (Array.getElem?_eq_some_iff.1 hgg).1 (hne g rfl)]
  exact hgg
theorem OwnB.lt {w : World} {base : Nat} {v : Value} {l : Bytes} (h : OwnB w base v l) : ∀ k, v.ownBlock = some k → base ≤ k ∧ k < w.heap.size := World.ownsRow.lt h
theorem cellsB_get {l : Bytes} {i : Nat} {x : UInt8} (h : l[i]? = some x) : (cellsB l)[i]? = some (.int .u8 x.toNat) := by
 unfold cellsB; rw [List.getElem?_map, h]; rfl
theorem OwnB.bytes {w : World} {base : Nat} {A : Option Addr} {n c : Nat} {l : Bytes} (h : OwnB w base (.slice A n c) l) : n = l.length ∧ BytesAt w A l := by
 rcases h.2 with ⟨e, hn⟩ | ⟨g, cap, cur, e, hb, hgg, _⟩
 ·cases e
  refine ⟨hn.symm, ?_⟩
  intro i x hx
  have : l = [] := List.length_eq_zero_iff.1 hn
  subst this; simp at hx
 ·cases e
  refine ⟨rfl, ?_⟩
  intro i x hx
  refine ⟨g, 0, rfl, ?_⟩
  have := World.ownsRow.cells h (g := g) rfl i _ (cellsB_get hx)
  unfold Addr.add at this
  by_cases h0 : i = 0
  ·subst h0; simpa using this
  ·rw [if_neg h0] at this; simpa using this
theorem OwnB.alloc {w : World} {base : Nat} {v : Value} {l : Bytes} (h : OwnB w base v l) (o : Obj) : OwnB (w.alloc o) base v l := World.ownsRow.alloc h o
theorem OwnB.mono {w : World} {base base' : Nat} {v : Value} {l : Bytes} (h : OwnB w base v l) (hb : base' ≤ base) : OwnB w base' v l := by
 refine ⟨h.1, ?_⟩
 rcases h.2 with hn | ⟨g, cap, cur, e, h1, r⟩
 ·exact .inl hn
 ·exact .inr ⟨g, cap, cur, e, Nat.le_trans hb h1, r⟩
theorem OwnB.drewN {w : World} {base : Nat} {v : Value} {l : Bytes} (h : OwnB w base v l) (n : Nat) : OwnB (w.drewN n) base v l := h
theorem OwnB.drew {w : World} {base : Nat} {v : Value} {l : Bytes} (h : OwnB w base v l) : OwnB w.drew base v l := h
theorem size_setCell (w : World) (p : Addr) (v : Value) : (w.setCell p v).heap.size = w.heap.size := by simp [World.setCell]
theorem cell_new_at (w : World) (x : Value) (t : TypeId) (n : Nat) (h : n = w.heap.size) : (w.alloc (.cells #[x] t)).cell? ⟨n, 0, none⟩ = some x := by
 subst h
 have := cell_one_new w x t 0 x rfl
 simp [Addr.add] at this ⊢
theorem info5 : (Tryz.prog.info? 5).map (fun i => (i.zero, i.size, i.bytes)) = some (some (.int .u8 0), 1, 1) := by kernel_rfl
theorem under22 : Tryz.prog.underlying 22 = some (.slice 5) := by kernel_rfl
theorem under9 : Tryz.prog.underlying 9 = some .string := by kernel_rfl
theorem under5 : Tryz.prog.underlying 5 = some (.int .u8) := by kernel_rfl
section
variable {ops : Array Oper} {rest : List Oper} {o : Oper} {a : Act} {w : World} {Q : Exit → Act → World → Prop}
theorem wpList_append_byte (hgd : o.guard = none) (s x : Operand) (ho : o.op = .call { callee := .builtin .append, args := #[s, x], argTypes := #[22, 22] })
  {base : Nat} {v : Value} {l : Bytes} (hs : a.eval s = v) (hown : OwnB w base v l) {ad : Addr} {c : Nat} {z : Int} (hx : a.eval x = .slice (some ad) 1 c)
  {y : UInt8} (hz : z = y.toNat) (hnew : w.cell? ad = some (.int .u8 z)) (hlen : l.length + 1 ≤ 2 ^ 40) (hbase : base ≤ w.heap.size)
  (h : ∀ v' w', OwnB w' base v' (l ++ [y]) → w.grownBy w' v.ownBlock → wpList Tryz.prog ops Q rest (a.put o.dst v') w') : wpList Tryz.prog ops Q (o :: rest) a w := by
 obtain ⟨i0, hi, hz0, hz1, hz2⟩ := info_parts info5
 refine wpList_append_own w hgd s x 22 ho base 5 i0 (.int .u8 0) 1 1 under22 hi hz0 hz1 hz2 rfl (by decide) v l.length (cellsB l) hs hown ad 1 c [.int .u8 z] hx rfl ?_ ?_ ?_ ?_ hbase ?_
 ·intro j u hj
  cases j with
  | zero => simp at hj; subst hj; simpa [Addr.add] using hnew
  | succ j => simp at hj
 ·intro u hu; simp at hu; subst hu; rfl
 ·unfold maxLen; omega
 ·omega
 ·intro v' w' h1 h2 _
  refine h v' w' ?_ h2
  subst hz
  unfold OwnB
  simpa [cellsB] using h1
theorem wpList_append_text (hgd : o.guard = none) (s x : Operand) (ho : o.op = .call { callee := .builtin .append, args := #[s, x], argTypes := #[22, 9] })
  {base : Nat} {v : Value} {l : Bytes} (hs : a.eval s = v) (hown : OwnB w base v l) {t : ByteArray} (hx : a.eval x = .string t)
  (hlen : l.length + t.size ≤ 2 ^ 40) (hbase : base ≤ w.heap.size)
  (h : ∀ v' w', OwnB w' base v' (l ++ t.data.toList) → w.grownBy w' v.ownBlock → wpList Tryz.prog ops Q rest (a.put o.dst v') w') : wpList Tryz.prog ops Q (o :: rest) a w := by
 obtain ⟨i0, hi, hz0, hz1, hz2⟩ := info_parts info5
 refine Lib.wpList_append_own_string w hgd s x 22 9 ho base 5 i0 under22 under9 hi hz0 hz1 hz2 v l.length (cellsB l) hs hown t hx ?_ ?_ hbase ?_
 ·unfold maxLen; omega
 ·omega
 ·intro v' w' h1 h2 _
  refine h v' w' ?_ h2
  unfold OwnB
  have e : (l ++ t.data.toList).length = l.length + t.size := by simp
  rw [e]
  have e2 : cellsB (l ++ t.data.toList) = cellsB l ++ Lib.strCells t := by unfold cellsB Lib.strCells; simp
  rw [e2]
  exact h1
theorem wpList_text_of (hgd : o.guard = none) (x : Operand) (ho : o.op = .convert 22 9 x) {A : Option Addr} {n c : Nat} {l : Bytes} (hx : a.eval x = .slice A n c) (hn : n = l.length) (hB : BytesAt w A l)
  (h : wpList Tryz.prog ops Q rest (a.put o.dst (.string ⟨l.toArray⟩)) w) : wpList Tryz.prog ops Q (o :: rest) a w := by
 refine wpList_plain hgd fun K hK => ?_
 have hr : (convert 22 9 (.slice A n c)).run Tryz.prog w = .ok (.string ⟨l.toArray⟩) w := by
  subst hn
  cases l with
  | nil =>
   rw [run_convert_bytes_string w 22 9 5 A _ c under22 under5 under9]
   cases A <;> rfl
  | cons x l =>
   obtain ⟨b, off, rfl, _⟩ := hB 0 x rfl
   refine run_convert_bytes_back w 22 9 5 ⟨b, off, none⟩ c (x :: l) under22 under5 under9 ?_
   intro j hj
   obtain ⟨b', o', e, hc⟩ := hB j _ (List.getElem?_eq_getElem hj)
   cases e
   unfold Addr.add
   by_cases h0 : j = 0
   ·subst h0; simpa using hc
   ·rw [if_neg h0]; exact hc
 unfold Oper.wp execOp
 simp only [ho, Sem.run_bind, hx, hr, Result.andThen_ok]
 exact hK _ _ h
theorem wpList_rune_text (hgd : o.guard = none) (x : Operand) (ho : o.op = .convert 21 9 x) {k : IntKind} {z : Int} (hx : a.eval x = .int k z)
  (h : ∀ t, t = Utf8.encode z → wpList Tryz.prog ops Q rest (a.put o.dst (.string t)) w) : wpList Tryz.prog ops Q (o :: rest) a w := by
 refine wpList_plain hgd fun K hK => ?_
 have hr := run_convert_int_string (P := Tryz.prog) w 21 9 k z (by kernel_rfl) under9
 unfold Oper.wp execOp
 simp only [ho, Sem.run_bind, hx, hr, Result.andThen_ok]
 exact hK _ _ (h _ rfl)
end
def jumpsBelow (J : Nat → Nat → Act → World → Prop) (n : Nat) (Q : Exit → Act → World → Prop) : Exit → Act → World → Prop
 | .goto l, a, w => ∃ m, m < n ∧ J l m a w
 | e, a, w => Q e a w
def Seg (P : Program) (c : Code) (J : Nat → Nat → Act → World → Prop) (n : Nat) (Q : Exit → Act → World → Prop) (l : Nat) (a : Act) (w : World) : Prop :=
 ∃ rest, findLabel c l = some (.seq .skip rest) ∧ rest.wp P (jumpsBelow J n Q) a w
theorem jumpsBelow_mono {J : Nat → Nat → Act → World → Prop} {n m : Nat} {Q : Exit → Act → World → Prop} (h : n ≤ m) : ∀ e a w, jumpsBelow J n Q e a w → jumpsBelow J m Q e a w := by
 intro e a w hq
 cases e <;> first | exact hq | (obtain ⟨k, hk, hj⟩ := hq; exact ⟨k, Nat.lt_of_lt_of_le hk h, hj⟩)
theorem jumpsBelow_ret {J : Nat → Nat → Act → World → Prop} {n : Nat} {Q : Exit → Act → World → Prop} {a : Act} {w : World} (h : Q .ret a w) : jumpsBelow J n Q .ret a w := h
theorem jumpsBelow_goto {J : Nat → Nat → Act → World → Prop} {n l : Nat} {Q : Exit → Act → World → Prop} {a : Act} {w : World} (m : Nat) (hm : m < n) (h : J l m a w) : jumpsBelow J n Q (.goto l) a w := ⟨m, hm, h⟩
section
variable {P : Program} {a : Act} {w : World} {Q : Exit → Act → World → Prop}
theorem wp_scope_segs {c : Code} (J : Nat → Nat → Act → World → Prop) (N : Nat)
  (first : (∀ l n a' w', n < N → J l n a' w' → Seg P c J N Q l a' w') → c.wp P (jumpsBelow J N Q) a w)
  (pass : ∀ n l a w, J l n a w → (∀ l' n' a' w', n' < n → J l' n' a' w' → Seg P c J n Q l' a' w') → Seg P c J n Q l a w) : (Code.scope c).wp P Q a w := by
 have ok : ∀ n l a w, J l n a w → Seg P c J n Q l a w := by
  intro n
  induction n using Nat.strongRecOn with
  | _ n ih =>
   intro l a w hJ
   refine pass n l a w hJ (fun l' n' a' w' hlt hJ' => ?_)
   obtain ⟨rest, hf, hw⟩ := ih n' hlt l' a' w' hJ'
   exact ⟨rest, hf, wp_mono hw (jumpsBelow_mono (Nat.le_of_lt hlt))⟩
 intro b k cs
 have key : ∀ n l a w, J l n a w → ∀ m k', (∃ rest, findLabel c l = some rest ∧ k' = .code rest :: .inScope c :: k) → lone (b.at a k') cs w = m →
   ∃ e a' w', Q e a' w' ∧ Arrives P m b k cs e a' w' := by
  intro n
  induction n using Nat.strongRecOn with
  | _ n ih =>
   rintro l a w hJ m k' ⟨rest', hf', rfl⟩ rfl
   obtain ⟨rest, hf, hw⟩ := ok n l a w hJ
   rw [hf'] at hf
   cases hf
   obtain ⟨e, a₁, w₁, hq, harr⟩ := (wp_seq (x := .skip) (wp_skip hw)) b (.inScope c :: k) cs
   cases e with
   | normal => exact ⟨.normal, a₁, w₁, hq, Steps.trans harr (.one step_inScope)⟩
   | exit id => exact ⟨.exit id, a₁, w₁, hq, fun k' hk => harr k' (by simp [exitTo, hk])⟩
   | goto l' =>
    obtain ⟨n', hlt, hJ'⟩ := hq
    obtain ⟨rest₂, hf₂, _⟩ := ok n' l' a₁ w₁ hJ'
    have hg : gotoIn l' (.inScope c :: k) = some (.code (.seq .skip rest₂) :: .inScope c :: k) := by simp [gotoIn, hf₂]
    obtain ⟨e₂, a₂, w₂, hq₂, harr₂⟩ := ih n' hlt l' a₁ w₁ hJ' _ _ ⟨_, hf₂, rfl⟩ rfl
    exact ⟨e₂, a₂, w₂, hq₂, .of_steps (harr _ hg) harr₂⟩
   | ret => exact ⟨_, a₁, w₁, hq, harr⟩
   | panic ch => exact ⟨_, a₁, w₁, hq, harr⟩
   | outgrown => exact ⟨_, a₁, w₁, hq, harr⟩
 have hfirst := first (fun l n a' w' hlt hJ => by
  obtain ⟨rest, hf, hw⟩ := ok n l a' w' hJ
  exact ⟨rest, hf, wp_mono hw (jumpsBelow_mono (Nat.le_of_lt hlt))⟩)
 obtain ⟨e, a₁, w₁, hq, harr⟩ := hfirst b (.inScope c :: k) cs
 cases e with
 | normal => exact ⟨.normal, a₁, w₁, hq, .head step_scope (Steps.trans harr (.one step_inScope))⟩
 | exit id => exact ⟨.exit id, a₁, w₁, hq, fun k' hk => .head step_scope (harr k' (by simp [exitTo, hk]))⟩
 | goto l' =>
  obtain ⟨n', hlt, hJ'⟩ := hq
  obtain ⟨rest₂, hf₂, _⟩ := ok n' l' a₁ w₁ hJ'
  have hg : gotoIn l' (.inScope c :: k) = some (.code (.seq .skip rest₂) :: .inScope c :: k) := by simp [gotoIn, hf₂]
  obtain ⟨e₂, a₂, w₂, hq₂, harr₂⟩ := key n' l' a₁ w₁ hJ' _ _ ⟨_, hf₂, rfl⟩ rfl
  exact ⟨e₂, a₂, w₂, hq₂, .of_steps (.head step_scope (harr _ hg)) harr₂⟩
 | ret => exact ⟨_, a₁, w₁, hq, .of_steps (.one step_scope) harr⟩
 | panic ch => exact ⟨_, a₁, w₁, hq, .of_steps (.one step_scope) harr⟩
 | outgrown => exact ⟨_, a₁, w₁, hq, .of_steps (.one step_scope) harr⟩
theorem Seg.code {c rest : Code} {J : Nat → Nat → Act → World → Prop} {n l : Nat} (h : Seg P c J n Q l a w) (hf : findLabel c l = some (.seq .skip rest)) : rest.wp P (jumpsBelow J n Q) a w := by
 obtain ⟨r, h1, h2⟩ := h
 rw [hf] at h1
 cases h1
 exact h2
end
def firstScope : Code → Option Code
 | .scope c => some c
 | .seq a b => match firstScope a with
  | some c => some c
  | none => firstScope b
 | _ => none
noncomputable def scopeOf (f : Func) : Code := ((f.body.bind firstScope).getD .skip)
end Go.Proofs.YtjehnejgojgahaaGreatDoor
