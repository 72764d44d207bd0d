/-
  A part of the proof of MessageTakes: the texts M2 M3 M4 M5 M6 M7 M8 M9.
-/
import Derived.Test.YtjehnejgojgahaaGreatDoorK02
import Derived.Test.YtjehnejgojgahaaGreatDoorK03
import Derived.Test.YtjehnejgojgahaaGreatDoorK04
import Derived.Test.YtjehnejgojgahaaGreatDoorK05
import Derived.Test.YtjehnejgojgahaaGreatDoorK08
namespace Go.Proofs.YtjehnejgojgahaaGreatDoor
open Go.RowKit
set_option linter.unusedVariables false
set_option linter.unusedSimpArgs false
def PlainAt (g : Nat) (A : Option Addr) (c : Nat) (l : Bytes) (T : Option (Nat × Bytes)) (w : World) (e : Ending) (w' : World) : Prop :=
 Only (· = g) w w' ∧ match T with
 | some (k, q) => e = .returned (.tuple #[.agg #[.int .i64 k, .string ⟨#[]⟩, .int .u64 0, .slice none 0 0, .slice none 0 0], .bool true]) ∧ MR w' g A c l q
 | none => e = .returned (.tuple #[.agg #[.int .i64 0, .string ⟨#[]⟩, .int .u64 0, .slice none 0 0, .slice none 0 0], .bool false])
theorem isPrefixOf_take {α : Type} [BEq α] (p r : List α) (n : Nat) (h : p.length ≤ n) : p.isPrefixOf (r.take n) = p.isPrefixOf r := by
 induction p generalizing r n with
 | nil => simp
 | cons a p ih =>
  cases r with
  | nil => simp
  | cons b r =>
   obtain ⟨n, rfl⟩ : ∃ k, n = k + 1 := ⟨n - 1, by simp at h; omega⟩
   simp only [List.take_succ_cons, List.isPrefixOf]
   rw [ih r n (by simpa using h)]
theorem pre_call {t p : ByteArray} {b : Bool} (h : Lib.hasPrefix t.data.toList p.data.toList = b) : ∀ w, Calls Tryz.prog 104 #[.string t, .string p] w fun e w' => e = .returned (.bool b) ∧ w' = w := by
 intro w
 have := Tryz.strings_HasPrefix t p w
 rw [h] at this
 exact this
theorem ask_word {w : World} {g : Nat} {A : Option Addr} {c : Nat} {l : Bytes} {i : Nat} (h : MS w g A c l i) {X : Option Addr} (hX : (if c = i then A else Option.map (fun x => x.add i) A) = X) (n : Nat) (z : Int) (hz : z = n) (hn : 1 ≤ n) :
  ∃ (M : Nat) (t : ByteArray), min (l.length : Int) ((i : Int) + z) = (M : Int) ∧ i ≤ M ∧ M ≤ c ∧
   (∀ k, (convert 22 9 (.slice X (M - i) (c - i))).run Tryz.prog (w.drewN k) = .ok (.string t) (w.drewN k)) ∧
   (∀ p : ByteArray, p.data.toList.length = n → Lib.hasPrefix t.data.toList p.data.toList = p.data.toList.isPrefixOf (l.drop i)) := by
 subst hX
 have h1 := h.le
 have h2 := h.cap
 obtain ⟨t, ht, hc⟩ := text_piece (i := i) (m := min l.length (i + n)) h.bytes (Nat.min_le_left _ _) h2 (by omega)
 refine ⟨min l.length (i + n), t, by omega, by omega, by omega, hc, ?_⟩
 intro p hp
 unfold Lib.hasPrefix
 rw [ht, List.drop_take]
 rw [← isPrefixOf_take p.data.toList (l.drop i) n (by omega)]
 congr 1
 rcases Nat.le_total l.length (i + n) with q | q
 ·rw [Nat.min_eq_left q, List.take_of_length_le (by simp), List.take_of_length_le (by simp; omega)]
 ·rw [Nat.min_eq_right q, Nat.add_sub_cancel_left]
theorem prefix_le {p r : Bytes} (h : p.isPrefixOf r = true) : p.length ≤ r.length := (List.isPrefixOf_iff_prefix.1 h).length_le
theorem info79s : (Tryz.prog.info? 79).map (·.size) = some 5 := by kernel_rfl
theorem agg79 : (Tryz.prog.underlying 79).map aggD = some true := by kernel_rfl
set_option maxRecDepth 100000 in
set_option maxHeartbeats 1600000 in
theorem plain_0 {g : Nat} {A : Option Addr} {c : Nat} {l r : Bytes} {w : World} (hR : MR w g A c l r) (p0 : [110, 117, 108, 108].isPrefixOf r = true) :
  Calls Tryz.prog 83 #[.pointer (some ⟨g, 0, none⟩)] w (PlainAt g A c l (some (0, r.drop 4)) w) := by
 obtain ⟨i, hR, rfl⟩ := hR
 have hg : g < w.heap.size := hR.blk.lt
 have hne : ¬ w.heap.size = g := by omega
 have hne2 : ¬ g = w.heap.size := by omega
 have HLO := Lib.hid (show ∀ b o, A = some ⟨b, o, none⟩ → l ≠ [] → b < w.heap.size from fun b o e hl => hR.bytes.low b o e hl)
 have hR1 : MS (w.alloc (.cells #[.int .i64 0, .string ⟨#[]⟩, .int .u64 0, .slice none 0 0, .slice none 0 0] 79)) g A c l i := hR.only (G := fun _ => False) ((Only.refl _ _).alloc _) id (fun _ _ _ _ => id)
 obtain ⟨X, hX⟩ : ∃ X, (if c = i then A else Option.map (fun x => x.add i) A) = X := ⟨_, rfl⟩
 obtain ⟨M0, t0, m0, a0, b0, cv0, hp0⟩ := ask_word hR1 hX 4 4 rfl (by decide)
 have hc0 := pre_call ((hp0 { data := #[110, 117, 108, 108] } rfl).trans p0)
 have HC0 := Lib.hid hc0
 have HL := Lib.hid (show i + 4 ≤ l.length by have := prefix_le p0; have := hR.le; simp at *; omega)
 clear hp0 hc0 p0
 have hl := hR.len
 have hj := hR.le
 obtain ⟨h0, h1, h3⟩ := hR1.cells
 have HR1 := Lib.hid hR1
 clear hR hR1
 have i0 : ∀ w, (Instr.index 201 (.agg #[.string { data := #[110, 117, 108, 108] }, .string { data := #[102, 97, 108, 115, 101] }, .string { data := #[116, 114, 117, 101] }]) (.int .i64 0)).run Tryz.prog w = .ok (.string { data := #[110, 117, 108, 108] }) w := fun _ => by kernel_rfl
 go_enter Tryz.func83, Tryz.ntmps83
 go_wp2
 refine wp_loop_rounds 4 ?_
 rw [rounds_succ]
 go_wp2
 go_quiet ((go_at_call 104; exact Calls.quiet_of_same (HC0.out _)))
 have hr2 := fun n => (HR1.out.drewN n).setAt (i + 4) HL.out
 have HR2 := Lib.hid hr2
 clear hr2
 have b2 : ∀ n, Blk (((w.alloc (.cells #[.int .i64 0, .string ⟨#[]⟩, .int .u64 0, .slice none 0 0, .slice none 0 0] 79)).drewN n).setCell ⟨g, 1, none⟩ (.int .i64 ((i + 4 : Nat) : Int))) w.heap.size [.int .i64 0, .string ⟨#[]⟩, .int .u64 0, .slice none 0 0, .slice none 0 0] 79 := fun n => ((Blk.new w _ 79).drewN n).far (by simpa using hne) _
 have B2 := Lib.hid b2
 clear b2
 go_wp2_with (refine wpList_store_blk rfl 79 (.tmp 2) (.tmp 46) rfl rfl rfl rfl (B2.out _) rfl info79s rfl ?_; intro w2 hb2 ho2; have HB2 := Lib.hid hb2; have HO2 := Lib.hid ho2; clear hb2 ho2)
 refine bodyPost_ret (ret_cell_tmp (cs := [.int .i64 0, .string ⟨#[]⟩, .int .u64 0, .slice none 0 0, .slice none 0 0]) rfl rfl HB2.out agg79 info79s) rfl ⟨?_, rfl, ?_⟩
 ·exact ((((Only.refl (· = g) w).alloc _).drewN _).setCell (fun _ => rfl) _).then HO2.out (fun i hi e => by omega)
 ·exact ⟨i + 4, (HR2.out _).only HO2.out (by omega) (fun b o ea hl e => by have := HLO.out b o ea hl; omega), by simp [Nat.add_comm]⟩
set_option maxRecDepth 100000 in
set_option maxHeartbeats 1600000 in
theorem plain_1 {g : Nat} {A : Option Addr} {c : Nat} {l r : Bytes} {w : World} (hR : MR w g A c l r) (p0 : [110, 117, 108, 108].isPrefixOf r = false) (p1 : [102, 97, 108, 115, 101].isPrefixOf r = true) :
  Calls Tryz.prog 83 #[.pointer (some ⟨g, 0, none⟩)] w (PlainAt g A c l (some (1, r.drop 5)) w) := by
 obtain ⟨i, hR, rfl⟩ := hR
 have hg : g < w.heap.size := hR.blk.lt
 have hne : ¬ w.heap.size = g := by omega
 have hne2 : ¬ g = w.heap.size := by omega
 have HLO := Lib.hid (show ∀ b o, A = some ⟨b, o, none⟩ → l ≠ [] → b < w.heap.size from fun b o e hl => hR.bytes.low b o e hl)
 have hR1 : MS (w.alloc (.cells #[.int .i64 0, .string ⟨#[]⟩, .int .u64 0, .slice none 0 0, .slice none 0 0] 79)) g A c l i := hR.only (G := fun _ => False) ((Only.refl _ _).alloc _) id (fun _ _ _ _ => id)
 obtain ⟨X, hX⟩ : ∃ X, (if c = i then A else Option.map (fun x => x.add i) A) = X := ⟨_, rfl⟩
 obtain ⟨M0, t0, m0, a0, b0, cv0, hp0⟩ := ask_word hR1 hX 4 4 rfl (by decide)
 have hc0 := pre_call ((hp0 { data := #[110, 117, 108, 108] } rfl).trans p0)
 have HC0 := Lib.hid hc0
 obtain ⟨M1, t1, m1, a1, b1, cv1, hp1⟩ := ask_word hR1 hX 5 5 rfl (by decide)
 have hc1 := pre_call ((hp1 { data := #[102, 97, 108, 115, 101] } rfl).trans p1)
 have HC1 := Lib.hid hc1
 have HL := Lib.hid (show i + 5 ≤ l.length by have := prefix_le p1; have := hR.le; simp at *; omega)
 clear hp0 hc0 p0 hp1 hc1 p1
 have hl := hR.len
 have hj := hR.le
 obtain ⟨h0, h1, h3⟩ := hR1.cells
 have HR1 := Lib.hid hR1
 clear hR hR1
 have i0 : ∀ w, (Instr.index 201 (.agg #[.string { data := #[110, 117, 108, 108] }, .string { data := #[102, 97, 108, 115, 101] }, .string { data := #[116, 114, 117, 101] }]) (.int .i64 0)).run Tryz.prog w = .ok (.string { data := #[110, 117, 108, 108] }) w := fun _ => by kernel_rfl
 have i1 : ∀ w, (Instr.index 201 (.agg #[.string { data := #[110, 117, 108, 108] }, .string { data := #[102, 97, 108, 115, 101] }, .string { data := #[116, 114, 117, 101] }]) (.int .i64 1)).run Tryz.prog w = .ok (.string { data := #[102, 97, 108, 115, 101] }) w := fun _ => by kernel_rfl
 go_enter Tryz.func83, Tryz.ntmps83
 go_wp2
 refine wp_loop_rounds 4 ?_
 rw [rounds_succ]
 go_wp2
 go_quiet ((go_at_call 104; exact Calls.quiet_of_same (HC0.out _)))
 go_wp2
 rw [rounds_succ]
 go_wp2
 go_quiet ((go_at_call 104; exact quiet_add_same (HC1.out _)))
 have hr2 := fun n => (HR1.out.drewN n).setAt (i + 5) HL.out
 have HR2 := Lib.hid hr2
 clear hr2
 have b2 : ∀ n, Blk (((w.alloc (.cells #[.int .i64 0, .string ⟨#[]⟩, .int .u64 0, .slice none 0 0, .slice none 0 0] 79)).drewN n).setCell ⟨g, 1, none⟩ (.int .i64 ((i + 5 : Nat) : Int))) w.heap.size [.int .i64 0, .string ⟨#[]⟩, .int .u64 0, .slice none 0 0, .slice none 0 0] 79 := fun n => ((Blk.new w _ 79).drewN n).far (by simpa using hne) _
 have B2 := Lib.hid b2
 clear b2
 go_wp2_with (refine wpList_store_blk rfl 79 (.tmp 2) (.tmp 46) rfl rfl rfl rfl (B2.out _) rfl info79s rfl ?_; intro w2 hb2 ho2; have HB2 := Lib.hid hb2; have HO2 := Lib.hid ho2; clear hb2 ho2)
 refine bodyPost_ret (ret_cell_tmp (cs := [.int .i64 1, .string ⟨#[]⟩, .int .u64 0, .slice none 0 0, .slice none 0 0]) rfl rfl HB2.out agg79 info79s) rfl ⟨?_, rfl, ?_⟩
 ·exact ((((Only.refl (· = g) w).alloc _).drewN _).setCell (fun _ => rfl) _).then HO2.out (fun i hi e => by omega)
 ·exact ⟨i + 5, (HR2.out _).only HO2.out (by omega) (fun b o ea hl e => by have := HLO.out b o ea hl; omega), by simp [Nat.add_comm]⟩
set_option maxRecDepth 100000 in
set_option maxHeartbeats 1600000 in
theorem plain_2 {g : Nat} {A : Option Addr} {c : Nat} {l r : Bytes} {w : World} (hR : MR w g A c l r) (p0 : [110, 117, 108, 108].isPrefixOf r = false) (p1 : [102, 97, 108, 115, 101].isPrefixOf r = false) (p2 : [116, 114, 117, 101].isPrefixOf r = true) :
  Calls Tryz.prog 83 #[.pointer (some ⟨g, 0, none⟩)] w (PlainAt g A c l (some (2, r.drop 4)) w) := by
 obtain ⟨i, hR, rfl⟩ := hR
 have hg : g < w.heap.size := hR.blk.lt
 have hne : ¬ w.heap.size = g := by omega
 have hne2 : ¬ g = w.heap.size := by omega
 have HLO := Lib.hid (show ∀ b o, A = some ⟨b, o, none⟩ → l ≠ [] → b < w.heap.size from fun b o e hl => hR.bytes.low b o e hl)
 have hR1 : MS (w.alloc (.cells #[.int .i64 0, .string ⟨#[]⟩, .int .u64 0, .slice none 0 0, .slice none 0 0] 79)) g A c l i := hR.only (G := fun _ => False) ((Only.refl _ _).alloc _) id (fun _ _ _ _ => id)
 obtain ⟨X, hX⟩ : ∃ X, (if c = i then A else Option.map (fun x => x.add i) A) = X := ⟨_, rfl⟩
 obtain ⟨M0, t0, m0, a0, b0, cv0, hp0⟩ := ask_word hR1 hX 4 4 rfl (by decide)
 have hc0 := pre_call ((hp0 { data := #[110, 117, 108, 108] } rfl).trans p0)
 have HC0 := Lib.hid hc0
 obtain ⟨M1, t1, m1, a1, b1, cv1, hp1⟩ := ask_word hR1 hX 5 5 rfl (by decide)
 have hc1 := pre_call ((hp1 { data := #[102, 97, 108, 115, 101] } rfl).trans p1)
 have HC1 := Lib.hid hc1
 have hc2 := pre_call ((hp0 { data := #[116, 114, 117, 101] } rfl).trans p2)
 have HC2 := Lib.hid hc2
 have HL := Lib.hid (show i + 4 ≤ l.length by have := prefix_le p2; have := hR.le; simp at *; omega)
 clear hp0 hc0 p0 hp1 hc1 p1 hc2 p2
 have hl := hR.len
 have hj := hR.le
 obtain ⟨h0, h1, h3⟩ := hR1.cells
 have HR1 := Lib.hid hR1
 clear hR hR1
 have i0 : ∀ w, (Instr.index 201 (.agg #[.string { data := #[110, 117, 108, 108] }, .string { data := #[102, 97, 108, 115, 101] }, .string { data := #[116, 114, 117, 101] }]) (.int .i64 0)).run Tryz.prog w = .ok (.string { data := #[110, 117, 108, 108] }) w := fun _ => by kernel_rfl
 have i1 : ∀ w, (Instr.index 201 (.agg #[.string { data := #[110, 117, 108, 108] }, .string { data := #[102, 97, 108, 115, 101] }, .string { data := #[116, 114, 117, 101] }]) (.int .i64 1)).run Tryz.prog w = .ok (.string { data := #[102, 97, 108, 115, 101] }) w := fun _ => by kernel_rfl
 have i2 : ∀ w, (Instr.index 201 (.agg #[.string { data := #[110, 117, 108, 108] }, .string { data := #[102, 97, 108, 115, 101] }, .string { data := #[116, 114, 117, 101] }]) (.int .i64 2)).run Tryz.prog w = .ok (.string { data := #[116, 114, 117, 101] }) w := fun _ => by kernel_rfl
 go_enter Tryz.func83, Tryz.ntmps83
 go_wp2
 refine wp_loop_rounds 4 ?_
 rw [rounds_succ]
 go_wp2
 go_quiet ((go_at_call 104; exact Calls.quiet_of_same (HC0.out _)))
 go_wp2
 rw [rounds_succ]
 go_wp2
 go_quiet ((go_at_call 104; exact quiet_add_same (HC1.out _)))
 go_wp2
 rw [rounds_succ]
 go_wp2
 go_quiet ((go_at_call 104; exact quiet_add_same (HC2.out _)))
 have hr2 := fun n => (HR1.out.drewN n).setAt (i + 4) HL.out
 have HR2 := Lib.hid hr2
 clear hr2
 have b2 : ∀ n, Blk (((w.alloc (.cells #[.int .i64 0, .string ⟨#[]⟩, .int .u64 0, .slice none 0 0, .slice none 0 0] 79)).drewN n).setCell ⟨g, 1, none⟩ (.int .i64 ((i + 4 : Nat) : Int))) w.heap.size [.int .i64 0, .string ⟨#[]⟩, .int .u64 0, .slice none 0 0, .slice none 0 0] 79 := fun n => ((Blk.new w _ 79).drewN n).far (by simpa using hne) _
 have B2 := Lib.hid b2
 clear b2
 go_wp2_with (refine wpList_store_blk rfl 79 (.tmp 2) (.tmp 46) rfl rfl rfl rfl (B2.out _) rfl info79s rfl ?_; intro w2 hb2 ho2; have HB2 := Lib.hid hb2; have HO2 := Lib.hid ho2; clear hb2 ho2)
 refine bodyPost_ret (ret_cell_tmp (cs := [.int .i64 2, .string ⟨#[]⟩, .int .u64 0, .slice none 0 0, .slice none 0 0]) rfl rfl HB2.out agg79 info79s) rfl ⟨?_, rfl, ?_⟩
 ·exact ((((Only.refl (· = g) w).alloc _).drewN _).setCell (fun _ => rfl) _).then HO2.out (fun i hi e => by omega)
 ·exact ⟨i + 4, (HR2.out _).only HO2.out (by omega) (fun b o ea hl e => by have := HLO.out b o ea hl; omega), by simp [Nat.add_comm]⟩
set_option maxRecDepth 100000 in
set_option maxHeartbeats 1600000 in
theorem plain_no {g : Nat} {A : Option Addr} {c : Nat} {l r : Bytes} {w : World} (hR : MR w g A c l r) (p0 : [110, 117, 108, 108].isPrefixOf r = false) (p1 : [102, 97, 108, 115, 101].isPrefixOf r = false) (p2 : [116, 114, 117, 101].isPrefixOf r = false) :
  Calls Tryz.prog 83 #[.pointer (some ⟨g, 0, none⟩)] w (PlainAt g A c l (none) w) := by
 obtain ⟨i, hR, rfl⟩ := hR
 have hg : g < w.heap.size := hR.blk.lt
 have hne : ¬ w.heap.size = g := by omega
 have hne2 : ¬ g = w.heap.size := by omega
 have HLO := Lib.hid (show ∀ b o, A = some ⟨b, o, none⟩ → l ≠ [] → b < w.heap.size from fun b o e hl => hR.bytes.low b o e hl)
 have hR1 : MS (w.alloc (.cells #[.int .i64 0, .string ⟨#[]⟩, .int .u64 0, .slice none 0 0, .slice none 0 0] 79)) g A c l i := hR.only (G := fun _ => False) ((Only.refl _ _).alloc _) id (fun _ _ _ _ => id)
 obtain ⟨X, hX⟩ : ∃ X, (if c = i then A else Option.map (fun x => x.add i) A) = X := ⟨_, rfl⟩
 obtain ⟨M0, t0, m0, a0, b0, cv0, hp0⟩ := ask_word hR1 hX 4 4 rfl (by decide)
 have hc0 := pre_call ((hp0 { data := #[110, 117, 108, 108] } rfl).trans p0)
 have HC0 := Lib.hid hc0
 obtain ⟨M1, t1, m1, a1, b1, cv1, hp1⟩ := ask_word hR1 hX 5 5 rfl (by decide)
 have hc1 := pre_call ((hp1 { data := #[102, 97, 108, 115, 101] } rfl).trans p1)
 have HC1 := Lib.hid hc1
 have hc2 := pre_call ((hp0 { data := #[116, 114, 117, 101] } rfl).trans p2)
 have HC2 := Lib.hid hc2
 clear hp0 hc0 p0 hp1 hc1 p1 hc2 p2
 have hl := hR.len
 have hj := hR.le
 obtain ⟨h0, h1, h3⟩ := hR1.cells
 have HR1 := Lib.hid hR1
 clear hR hR1
 have i0 : ∀ w, (Instr.index 201 (.agg #[.string { data := #[110, 117, 108, 108] }, .string { data := #[102, 97, 108, 115, 101] }, .string { data := #[116, 114, 117, 101] }]) (.int .i64 0)).run Tryz.prog w = .ok (.string { data := #[110, 117, 108, 108] }) w := fun _ => by kernel_rfl
 have i1 : ∀ w, (Instr.index 201 (.agg #[.string { data := #[110, 117, 108, 108] }, .string { data := #[102, 97, 108, 115, 101] }, .string { data := #[116, 114, 117, 101] }]) (.int .i64 1)).run Tryz.prog w = .ok (.string { data := #[102, 97, 108, 115, 101] }) w := fun _ => by kernel_rfl
 have i2 : ∀ w, (Instr.index 201 (.agg #[.string { data := #[110, 117, 108, 108] }, .string { data := #[102, 97, 108, 115, 101] }, .string { data := #[116, 114, 117, 101] }]) (.int .i64 2)).run Tryz.prog w = .ok (.string { data := #[116, 114, 117, 101] }) w := fun _ => by kernel_rfl
 go_enter Tryz.func83, Tryz.ntmps83
 go_wp2
 refine wp_loop_rounds 4 ?_
 rw [rounds_succ]
 go_wp2
 go_quiet ((go_at_call 104; exact Calls.quiet_of_same (HC0.out _)))
 go_wp2
 rw [rounds_succ]
 go_wp2
 go_quiet ((go_at_call 104; exact quiet_add_same (HC1.out _)))
 go_wp2
 rw [rounds_succ]
 go_wp2
 go_quiet ((go_at_call 104; exact quiet_add_same (HC2.out _)))
 go_wp2
 rw [rounds_succ]
 go_wp2_with (refine wpList_store_blk rfl 79 (.tmp 2) (.tmp 48) rfl rfl rfl rfl ((Blk.new w [.int .i64 0, .string ⟨#[]⟩, .int .u64 0, .slice none 0 0, .slice none 0 0] 79).drewN _) rfl info79s rfl ?_; intro w2 hb2 ho2; have HB2 := Lib.hid hb2; have HO2 := Lib.hid ho2; clear hb2 ho2)
 refine bodyPost_ret (ret_cell_tmp (cs := [.int .i64 0, .string ⟨#[]⟩, .int .u64 0, .slice none 0 0, .slice none 0 0]) rfl rfl HB2.out agg79 info79s) rfl ⟨?_, rfl⟩
 exact (((Only.refl (· = g) w).alloc _).drewN _).then HO2.out (fun i hi e => by omega)
theorem plain_any {g : Nat} {A : Option Addr} {c : Nat} {l r : Bytes} {w : World} (hR : MR w g A c l r) :
  Calls Tryz.prog 83 #[.pointer (some ⟨g, 0, none⟩)] w (PlainAt g A c l (plainB r) w) := by
 unfold plainB
 split
 ·exact plain_0 hR ‹_›
 ·rename_i p0
  split
  ·exact plain_1 hR (eq_false_of_ne_true p0) ‹_›
  ·rename_i p1
   split
   ·exact plain_2 hR (eq_false_of_ne_true p0) (eq_false_of_ne_true p1) ‹_›
   ·exact plain_no hR (eq_false_of_ne_true p0) (eq_false_of_ne_true p1) (eq_false_of_ne_true ‹¬ _›)
def NumberRel (g : Nat) (A : Option Addr) (c : Nat) (l : Bytes) (i : Nat) (w : World) (gk : Nat) (w' : World) : Prop :=
 ∃ j ds, MS w' g A c l j ∧ i ≤ j ∧ l.drop i = ds ++ l.drop j ∧ (∀ x ∈ ds, isDig x = true) ∧ ds = (l.take j).drop i ∧ l.length - j = gk ∧ Only (· = g) w w'
def NumberAt (g : Nat) (A : Option Addr) (c : Nat) (l : Bytes) (T : Option (Nat × Bytes)) (w : World) (e : Ending) (w' : World) : Prop :=
 Only (· = g) w w' ∧ match T with
 | some (n, q) => e = .returned (.tuple #[.int .u64 n, .bool true]) ∧ MR w' g A c l q
 | none => ∃ n : Int, e = .returned (.tuple #[.int .u64 n, .bool false])
def NumberEnd (g : Nat) (A : Option Addr) (c : Nat) (l : Bytes) (i : Nat) (w : World) (w' : World) : Prop :=
 ∃ j ds, MS w' g A c l j ∧ i ≤ j ∧ ds = (l.take j).drop i ∧ (∀ x ∈ ds, isDig x = true) ∧ numB (l.drop i) = (if numOk ds then some (dv ds, l.drop j) else none) ∧ Only (· = g) w w'
theorem NumberEnd.drewN {g : Nat} {A : Option Addr} {c : Nat} {l : Bytes} {i : Nat} {w w' : World} (h : NumberEnd g A c l i w w') (n : Nat) : NumberEnd g A c l i w (w'.drewN n) := by
 obtain ⟨j, ds, h1, h2, h3, h4, h5, h6⟩ := h
 exact ⟨j, ds, h1.drewN n, h2, h3, h4, h5, h6.drewN n⟩
theorem NumberEnd.of {g : Nat} {A : Option Addr} {c : Nat} {l : Bytes} {i j : Nat} {ds : Bytes} {w w' : World} (hr : MS w' g A c l j) (hij : i ≤ j) (hs : l.drop i = ds ++ l.drop j) (hd : ∀ x ∈ ds, isDig x = true)
  (he : ds = (l.take j).drop i) (ho : Only (· = g) w w') (hh : ∀ x, (l.drop j).head? = some x → isDig x = false) : NumberEnd g A c l i w w' :=
 ⟨j, ds, hr, hij, he, hd, by rw [hs]; exact numB_of ds _ hd hh, ho⟩
theorem num_first {t : ByteArray} {x : UInt8} {r : Bytes} (h : t.data.toList = x :: r) (h0 : 0 < t.size) : t[0] = x := by
 obtain ⟨⟨d⟩⟩ := t
 have h' : d = x :: r := h
 subst h'
 rfl
theorem text_eq {t : ByteArray} {l : Bytes} (h : t.data.toList = l) (m : Bytes) : (t.toList == m) = (l == m) := by
 rw [ByteArray.toList_eq, h]
theorem numOk_cons {x : UInt8} {r : Bytes} (h : dv (x :: r) < big) : numOk (x :: r) = ((x :: r) == [48] || ((x.toNat : Int) != 48)) := by
 have e : ((x.toNat : Int) != 48) = (x != 48) := by
  rw [Bool.eq_iff_iff]; simp [← UInt8.toNat_inj]; omega
 rw [e]
 have hb : decide (big ≤ dv (x :: r)) = false := decide_eq_false (Nat.not_le.2 h)
 unfold numOk
 rw [hb]
 cases r with
 | nil => by_cases q : x = 48 <;> simp [q, bne]
 | cons y r => by_cases q : x = 48 <;> simp [q, bne]
theorem NumberAt.yes {g : Nat} {A : Option Addr} {c : Nat} {l r : Bytes} {w w' : World} {ds : Bytes} {j : Nat} {b : Bool} (ho : Only (· = g) w w') (hn : numB r = (if numOk ds then some (dv ds, l.drop j) else none))
  (hb : numOk ds = b) (hr : MS w' g A c l j) : NumberAt g A c l (numB r) w (.returned (.tuple #[.int .u64 (dv ds), .bool b])) w' := by
 refine ⟨ho, ?_⟩
 rw [hn, hb]
 cases b with
 | true => exact ⟨rfl, j, hr, rfl⟩
 | false => exact ⟨_, rfl⟩
theorem NumberAt.no {g : Nat} {A : Option Addr} {c : Nat} {l r : Bytes} {w w' : World} {ds : Bytes} {j : Nat} {n : Int} (ho : Only (· = g) w w') (hn : numB r = (if numOk ds then some (dv ds, l.drop j) else none))
  (hb : numOk ds = false) : NumberAt g A c l (numB r) w (.returned (.tuple #[.int .u64 n, .bool false])) w' := by
 refine ⟨ho, ?_⟩
 rw [hn, hb]
 exact ⟨_, rfl⟩
set_option maxRecDepth 100000 in
set_option maxHeartbeats 1600000 in
theorem number_any {g : Nat} {A : Option Addr} {c : Nat} {l r : Bytes} {w : World} (hR : MR w g A c l r) (hG : Gl w) (hg8 : 8 ≤ g) :
  Calls Tryz.prog 82 #[.pointer (some ⟨g, 0, none⟩)] w (NumberAt g A c l (numB r) w) := by
 obtain ⟨i, hR, rfl⟩ := hR
 obtain ⟨h0, h1, h3⟩ := hR.cells
 have HR := Lib.hid hR
 have HG := Lib.hid hG
 clear hR hG
 go_enter Tryz.func82, Tryz.ntmps82
 go_wp2
 clear h0 h1 h3
 go_loopg [] (l.length - i) (fun gk wr => NumberRel g A c l i w gk wr)
 case atStart => exact ⟨i, [], HR.out, Nat.le_refl _, rfl, by simp, by simp, rfl, Only.refl _ _⟩
 case round =>
  obtain ⟨j, ds, hr, hij, hs, hd, he, hk, ho⟩ := hrel
  have hl := hr.len
  have hj := hr.le
  have hcap := hr.cap
  obtain ⟨h0, h1, h3⟩ := hr.cells
  have HO := Lib.hid ho
  have HS := Lib.hid hs
  have HK := Lib.hid hk
  have HD := Lib.hid hd
  have HE := Lib.hid he
  have HR' := Lib.hid hr
  clear ho hs hk hd he
  by_cases hlt : j < l.length
  ·obtain ⟨y, b, o, rfl, hd, hc⟩ := hr.at hlt
   have HDR := Lib.hid hd
   have HL := Lib.hid (show j + 1 ≤ l.length from hlt)
   have hlt1 : decide (j < l.length) = true := by simp; omega
   have HJ := Lib.hid (show (l.take (j + 1)).drop i = (l.take j).drop i ++ [y] by
    have e : l.take (j + 1) = l.take j ++ [y] := by
     have h1 : l = l.take j ++ l.drop j := (List.take_append_drop j l).symm
     have h2 : (l.take j).length = j := by simp; omega
     conv => lhs; rw [h1, hd]
     rw [List.take_append, h2]
     simp
     rw [List.take_take]; simp
    rw [e, List.drop_append_of_le_length (by simp; omega)])
   obtain ⟨z, hz⟩ : ∃ z : Nat, z = y.toNat := ⟨_, rfl⟩
   have HZ := Lib.hid hz
   rw [← hz] at hc
   clear hd hr hz
   by_cases hz1 : 48 ≤ z
   ·have c1 : decide ((48 : Int) ≤ (z : Int)) = true := by simp; omega
    by_cases hz2 : z ≤ 57
    ·have c2 : decide ((z : Int) ≤ (57 : Int)) = true := by simp; omega
     have HY := Lib.hid (show isDig y = true by unfold isDig; rw [← HZ.out]; simp; omega)
     go_wp2
     go_quiet (fail)
     go_wp2
     go_roundg (l.length - (j + 1))
     case rel =>
      refine ⟨j + 1, ds ++ [y], (HR'.out.drewN _).setAt _ HL.out, by omega, ?_, mem_snoc HD.out HY.out, ?_, rfl, (HO.out.drewN _).setCell (fun _ => rfl) _⟩
      ·rw [HS.out, HDR.out]; simp
      ·rw [HJ.out, HE.out]
     case measure => have := HK.out; have := HL.out; omega
    ·as_aux_lemma =>
     have c2 : decide ((z : Int) ≤ (57 : Int)) = false := by simp; omega
     have HN : Hid (NumberEnd g (some ⟨b, o, none⟩) c l i w wr) := NumberEnd.of HR'.out hij HS.out HD.out HE.out HO.out (by intro x hx; rw [HDR.out] at hx; cases hx; unfold isDig; rw [← HZ.out]; simp; omega)
     go_wp2
     go_quiet (fail)
     go_wp2
     have hm4 := HN.out.drewN nq
     refine wp_gen0 (NumberEnd g (some (⟨b, o, none⟩ : Addr)) c l i w) hm4 ?_
     clear hm4 HN
     intro w3 hm3
     obtain ⟨A', hA'⟩ : ∃ A' : Option Addr, A' = (some (⟨b, o, none⟩ : Addr)) := ⟨_, rfl⟩
     rw [← hA'] at hm3
     have HA' := Lib.hid hA'
     clear hA'
     obtain ⟨j3, ds3, hr3, hij3, he3, hd3, hn3, ho3⟩ := hm3
     clear h0 h1 h3
     obtain ⟨h0, h1, h3⟩ := hr3.cells
     obtain ⟨X, hX⟩ : ∃ X, (if c = i then A' else Option.map (fun x => x.add i) A') = X := ⟨_, rfl⟩
     obtain ⟨t, ht, hcv⟩ := text_piece hr3.bytes hr3.le hr3.cap hij3
     rw [hX] at hcv
     rw [← he3] at ht
     have hl3 := hr3.len
     have hj3 := hr3.le
     have hcap3 := hr3.cap
     have hj3c : j3 ≤ c := by omega
     have HSZ := Lib.hid (show t.size ≤ 2 ^ 40 by have e : t.size = t.data.toList.length := (by simp); rw [e, ht, he3]; simp; omega)
     have HP := Lib.hid (show Lib.parseUintB 64 t.data.toList = if ds3 = [] then noNum else if dv ds3 < big then .ok (dv ds3) else .range by rw [ht]; exact parseB_digits ds3 hd3)
     have HG3 := Lib.hid (HG.out.only ho3 (fun b hb e => by omega))
     have HLO := Lib.hid (show ∀ b o, A' = some ⟨b, o, none⟩ → l ≠ [] → b < w3.heap.size from fun b o e hl => hr3.bytes.low b o e hl)
     have HGL := Lib.hid hr3.blk.lt
     have HT := Lib.hid ht
     have HN3 := Lib.hid hn3
     have HO3 := Lib.hid ho3
     have HR3 := Lib.hid hr3
     clear ht hd3 hn3 ho3 hr3 he3 HS HK HD HE HO HR'
     by_cases hnil : ds3 = []
     ·have HQ := Lib.hid (show Lib.parseUintB 64 t.data.toList = noNum by rw [HP.out, if_pos hnil])
      have HNO := Lib.hid (show numOk ds3 = false by rw [hnil]; rfl)
      clear hnil HP
      go_quiet (fail)
      go_wp2_with (go_at_call 107; refine (parse64 (t := t) (HG3.out.drewN _) HSZ.out).mono ?_; rintro e w4 ⟨ho4, h4⟩; have HO4 := Lib.hid ho4; clear ho4; rw [HQ.out] at h4; obtain ⟨N, rfl⟩ := h4)
      go_quiet (fail)
      go_wp2
      go_ret2
      obtain rfl := HA'.out
      exact NumberAt.no ((HO3.out.drewN _).then (HO4.out.drewN _) (fun _ _ h => h.elim)) HN3.out HNO.out
     by_cases hbig : dv ds3 < big
     ·have HQ := Lib.hid (show Lib.parseUintB 64 t.data.toList = .ok (dv ds3) by rw [HP.out, if_neg hnil, if_pos hbig])
      obtain ⟨x, r, hxr⟩ : ∃ x r, ds3 = x :: r := by
       cases ds3 with
       | nil => exact absurd rfl hnil
       | cons x r => exact ⟨x, r, rfl⟩
      have hsz : 0 < t.size := by
       have e : t.size = t.data.toList.length := by simp
       rw [e, HT.out, hxr]; simp
      have HX := Lib.hid (num_first (HT.out.trans hxr) hsz)
      have HB := Lib.hid (show numOk ds3 = ((x :: r) == [48] || ((x.toNat : Int) != 48)) by rw [hxr]; exact numOk_cons (by rw [← hxr]; exact hbig))
      have HXR := Lib.hid hxr
      clear hxr hnil hbig HP
      by_cases h48 : ds3 = [48]
      ·have hts : (t.toList == [48]) = true := by rw [text_eq HT.out, h48]; rfl
       have HNO := Lib.hid (show numOk ds3 = true by rw [HB.out, ← HXR.out, h48]; rfl)
       clear h48
       go_quiet (fail)
       go_wp2_with (go_at_call 107; refine (parse64 (t := t) (HG3.out.drewN _) HSZ.out).mono ?_; rintro e w4 ⟨ho4, h4⟩; have HO4 := Lib.hid ho4; clear ho4; rw [HQ.out] at h4; obtain rfl := h4)
       go_quiet (fail)
       go_wp2
       go_ret2
       obtain rfl := HA'.out
       exact NumberAt.yes ((HO3.out.drewN _).then (HO4.out.drewN _) (fun _ _ h => h.elim)) HN3.out HNO.out ((HR3.out.drewN _).only (HO4.out.drewN _) id (fun _ _ _ _ => id))
      ·have hts : (t.toList == [48]) = false := by rw [text_eq HT.out]; simpa using h48
       have HNO := Lib.hid (show numOk ds3 = (((t[0].toNat : Nat) : Int) != 48) by rw [HB.out, ← HXR.out, HX.out, show (ds3 == [48]) = false by simpa using h48]; rfl)
       clear h48
       go_quiet (fail)
       go_wp2_with (go_at_call 107; refine (parse64 (t := t) (HG3.out.drewN _) HSZ.out).mono ?_; rintro e w4 ⟨ho4, h4⟩; have HO4 := Lib.hid ho4; clear ho4; rw [HQ.out] at h4; obtain rfl := h4)
       go_quiet (fail)
       go_wp2
       go_ret2
       obtain rfl := HA'.out
       exact NumberAt.yes ((HO3.out.drewN _).then (HO4.out.drewN _) (fun _ _ h => h.elim)) HN3.out HNO.out ((HR3.out.drewN _).only (HO4.out.drewN _) id (fun _ _ _ _ => id))
     ·have HQ := Lib.hid (show Lib.parseUintB 64 t.data.toList = .range by rw [HP.out, if_neg hnil, if_neg hbig])
      have HNO := Lib.hid (show numOk ds3 = false by unfold numOk; simp [show big ≤ dv ds3 by omega])
      clear hnil hbig HP
      go_quiet (fail)
      go_wp2_with (go_at_call 107; refine (parse64 (t := t) (HG3.out.drewN _) HSZ.out).mono ?_; rintro e w4 ⟨ho4, h4⟩; have HO4 := Lib.hid ho4; clear ho4; rw [HQ.out] at h4; obtain ⟨N, rfl⟩ := h4)
      go_quiet (fail)
      go_wp2
      go_ret2
      obtain rfl := HA'.out
      exact NumberAt.no ((HO3.out.drewN _).then (HO4.out.drewN _) (fun _ _ h => h.elim)) HN3.out HNO.out
   ·as_aux_lemma =>
    have c1 : decide ((48 : Int) ≤ (z : Int)) = false := by simp; omega
    have HN : Hid (NumberEnd g (some ⟨b, o, none⟩) c l i w wr) := NumberEnd.of HR'.out hij HS.out HD.out HE.out HO.out (by intro x hx; rw [HDR.out] at hx; cases hx; unfold isDig; rw [← HZ.out]; simp; omega)
    go_wp2
    go_quiet (fail)
    go_wp2
    have hm4 := HN.out.drewN nq
    refine wp_gen0 (NumberEnd g (some (⟨b, o, none⟩ : Addr)) c l i w) hm4 ?_
    clear hm4 HN
    intro w3 hm3
    obtain ⟨A', hA'⟩ : ∃ A' : Option Addr, A' = (some (⟨b, o, none⟩ : Addr)) := ⟨_, rfl⟩
    rw [← hA'] at hm3
    have HA' := Lib.hid hA'
    clear hA'
    obtain ⟨j3, ds3, hr3, hij3, he3, hd3, hn3, ho3⟩ := hm3
    clear h0 h1 h3
    obtain ⟨h0, h1, h3⟩ := hr3.cells
    obtain ⟨X, hX⟩ : ∃ X, (if c = i then A' else Option.map (fun x => x.add i) A') = X := ⟨_, rfl⟩
    obtain ⟨t, ht, hcv⟩ := text_piece hr3.bytes hr3.le hr3.cap hij3
    rw [hX] at hcv
    rw [← he3] at ht
    have hl3 := hr3.len
    have hj3 := hr3.le
    have hcap3 := hr3.cap
    have hj3c : j3 ≤ c := by omega
    have HSZ := Lib.hid (show t.size ≤ 2 ^ 40 by have e : t.size = t.data.toList.length := (by simp); rw [e, ht, he3]; simp; omega)
    have HP := Lib.hid (show Lib.parseUintB 64 t.data.toList = if ds3 = [] then noNum else if dv ds3 < big then .ok (dv ds3) else .range by rw [ht]; exact parseB_digits ds3 hd3)
    have HG3 := Lib.hid (HG.out.only ho3 (fun b hb e => by omega))
    have HLO := Lib.hid (show ∀ b o, A' = some ⟨b, o, none⟩ → l ≠ [] → b < w3.heap.size from fun b o e hl => hr3.bytes.low b o e hl)
    have HGL := Lib.hid hr3.blk.lt
    have HT := Lib.hid ht
    have HN3 := Lib.hid hn3
    have HO3 := Lib.hid ho3
    have HR3 := Lib.hid hr3
    clear ht hd3 hn3 ho3 hr3 he3 HS HK HD HE HO HR'
    by_cases hnil : ds3 = []
    ·have HQ := Lib.hid (show Lib.parseUintB 64 t.data.toList = noNum by rw [HP.out, if_pos hnil])
     have HNO := Lib.hid (show numOk ds3 = false by rw [hnil]; rfl)
     clear hnil HP
     go_quiet (fail)
     go_wp2_with (go_at_call 107; refine (parse64 (t := t) (HG3.out.drewN _) HSZ.out).mono ?_; rintro e w4 ⟨ho4, h4⟩; have HO4 := Lib.hid ho4; clear ho4; rw [HQ.out] at h4; obtain ⟨N, rfl⟩ := h4)
     go_quiet (fail)
     go_wp2
     go_ret2
     obtain rfl := HA'.out
     exact NumberAt.no ((HO3.out.drewN _).then (HO4.out.drewN _) (fun _ _ h => h.elim)) HN3.out HNO.out
    by_cases hbig : dv ds3 < big
    ·have HQ := Lib.hid (show Lib.parseUintB 64 t.data.toList = .ok (dv ds3) by rw [HP.out, if_neg hnil, if_pos hbig])
     obtain ⟨x, r, hxr⟩ : ∃ x r, ds3 = x :: r := by
      cases ds3 with
      | nil => exact absurd rfl hnil
      | cons x r => exact ⟨x, r, rfl⟩
     have hsz : 0 < t.size := by
      have e : t.size = t.data.toList.length := by simp
      rw [e, HT.out, hxr]; simp
     have HX := Lib.hid (num_first (HT.out.trans hxr) hsz)
     have HB := Lib.hid (show numOk ds3 = ((x :: r) == [48] || ((x.toNat : Int) != 48)) by rw [hxr]; exact numOk_cons (by rw [← hxr]; exact hbig))
     have HXR := Lib.hid hxr
     clear hxr hnil hbig HP
     by_cases h48 : ds3 = [48]
     ·have hts : (t.toList == [48]) = true := by rw [text_eq HT.out, h48]; rfl
      have HNO := Lib.hid (show numOk ds3 = true by rw [HB.out, ← HXR.out, h48]; rfl)
      clear h48
      go_quiet (fail)
      go_wp2_with (go_at_call 107; refine (parse64 (t := t) (HG3.out.drewN _) HSZ.out).mono ?_; rintro e w4 ⟨ho4, h4⟩; have HO4 := Lib.hid ho4; clear ho4; rw [HQ.out] at h4; obtain rfl := h4)
      go_quiet (fail)
      go_wp2
      go_ret2
      obtain rfl := HA'.out
      exact NumberAt.yes ((HO3.out.drewN _).then (HO4.out.drewN _) (fun _ _ h => h.elim)) HN3.out HNO.out ((HR3.out.drewN _).only (HO4.out.drewN _) id (fun _ _ _ _ => id))
     ·have hts : (t.toList == [48]) = false := by rw [text_eq HT.out]; simpa using h48
      have HNO := Lib.hid (show numOk ds3 = (((t[0].toNat : Nat) : Int) != 48) by rw [HB.out, ← HXR.out, HX.out, show (ds3 == [48]) = false by simpa using h48]; rfl)
      clear h48
      go_quiet (fail)
      go_wp2_with (go_at_call 107; refine (parse64 (t := t) (HG3.out.drewN _) HSZ.out).mono ?_; rintro e w4 ⟨ho4, h4⟩; have HO4 := Lib.hid ho4; clear ho4; rw [HQ.out] at h4; obtain rfl := h4)
      go_quiet (fail)
      go_wp2
      go_ret2
      obtain rfl := HA'.out
      exact NumberAt.yes ((HO3.out.drewN _).then (HO4.out.drewN _) (fun _ _ h => h.elim)) HN3.out HNO.out ((HR3.out.drewN _).only (HO4.out.drewN _) id (fun _ _ _ _ => id))
    ·have HQ := Lib.hid (show Lib.parseUintB 64 t.data.toList = .range by rw [HP.out, if_neg hnil, if_neg hbig])
     have HNO := Lib.hid (show numOk ds3 = false by unfold numOk; simp [show big ≤ dv ds3 by omega])
     clear hnil hbig HP
     go_quiet (fail)
     go_wp2_with (go_at_call 107; refine (parse64 (t := t) (HG3.out.drewN _) HSZ.out).mono ?_; rintro e w4 ⟨ho4, h4⟩; have HO4 := Lib.hid ho4; clear ho4; rw [HQ.out] at h4; obtain ⟨N, rfl⟩ := h4)
     go_quiet (fail)
     go_wp2
     go_ret2
     obtain rfl := HA'.out
     exact NumberAt.no ((HO3.out.drewN _).then (HO4.out.drewN _) (fun _ _ h => h.elim)) HN3.out HNO.out
  ·as_aux_lemma =>
   obtain rfl : j = l.length := by omega
   have hlt1 : decide (l.length < l.length) = false := by simp
   have HN : Hid (NumberEnd g A c l i w wr) := NumberEnd.of HR'.out hij HS.out HD.out HE.out HO.out (by intro x hx; rw [List.drop_length] at hx; cases hx)
   clear hr
   go_wp2
   go_quiet (fail)
   go_wp2
   have hm4 := HN.out.drewN nq
   refine wp_gen0 (NumberEnd g A c l i w) hm4 ?_
   clear hm4 HN
   intro w3 hm3
   obtain ⟨j3, ds3, hr3, hij3, he3, hd3, hn3, ho3⟩ := hm3
   clear h0 h1 h3
   obtain ⟨h0, h1, h3⟩ := hr3.cells
   obtain ⟨X, hX⟩ : ∃ X, (if c = i then A else Option.map (fun x => x.add i) A) = X := ⟨_, rfl⟩
   obtain ⟨t, ht, hcv⟩ := text_piece hr3.bytes hr3.le hr3.cap hij3
   rw [hX] at hcv
   rw [← he3] at ht
   have hl3 := hr3.len
   have hj3 := hr3.le
   have hcap3 := hr3.cap
   have hj3c : j3 ≤ c := by omega
   have HSZ := Lib.hid (show t.size ≤ 2 ^ 40 by have e : t.size = t.data.toList.length := (by simp); rw [e, ht, he3]; simp; omega)
   have HP := Lib.hid (show Lib.parseUintB 64 t.data.toList = if ds3 = [] then noNum else if dv ds3 < big then .ok (dv ds3) else .range by rw [ht]; exact parseB_digits ds3 hd3)
   have HG3 := Lib.hid (HG.out.only ho3 (fun b hb e => by omega))
   have HLO := Lib.hid (show ∀ b o, A = some ⟨b, o, none⟩ → l ≠ [] → b < w3.heap.size from fun b o e hl => hr3.bytes.low b o e hl)
   have HGL := Lib.hid hr3.blk.lt
   have HT := Lib.hid ht
   have HN3 := Lib.hid hn3
   have HO3 := Lib.hid ho3
   have HR3 := Lib.hid hr3
   clear ht hd3 hn3 ho3 hr3 he3 HS HK HD HE HO HR'
   by_cases hnil : ds3 = []
   ·have HQ := Lib.hid (show Lib.parseUintB 64 t.data.toList = noNum by rw [HP.out, if_pos hnil])
    have HNO := Lib.hid (show numOk ds3 = false by rw [hnil]; rfl)
    clear hnil HP
    go_quiet (fail)
    go_wp2_with (go_at_call 107; refine (parse64 (t := t) (HG3.out.drewN _) HSZ.out).mono ?_; rintro e w4 ⟨ho4, h4⟩; have HO4 := Lib.hid ho4; clear ho4; rw [HQ.out] at h4; obtain ⟨N, rfl⟩ := h4)
    go_quiet (fail)
    go_wp2
    go_ret2
    exact NumberAt.no ((HO3.out.drewN _).then (HO4.out.drewN _) (fun _ _ h => h.elim)) HN3.out HNO.out
   by_cases hbig : dv ds3 < big
   ·have HQ := Lib.hid (show Lib.parseUintB 64 t.data.toList = .ok (dv ds3) by rw [HP.out, if_neg hnil, if_pos hbig])
    obtain ⟨x, r, hxr⟩ : ∃ x r, ds3 = x :: r := by
     cases ds3 with
     | nil => exact absurd rfl hnil
     | cons x r => exact ⟨x, r, rfl⟩
    have hsz : 0 < t.size := by
     have e : t.size = t.data.toList.length := by simp
     rw [e, HT.out, hxr]; simp
    have HX := Lib.hid (num_first (HT.out.trans hxr) hsz)
    have HB := Lib.hid (show numOk ds3 = ((x :: r) == [48] || ((x.toNat : Int) != 48)) by rw [hxr]; exact numOk_cons (by rw [← hxr]; exact hbig))
    have HXR := Lib.hid hxr
    clear hxr hnil hbig HP
    by_cases h48 : ds3 = [48]
    ·have hts : (t.toList == [48]) = true := by rw [text_eq HT.out, h48]; rfl
     have HNO := Lib.hid (show numOk ds3 = true by rw [HB.out, ← HXR.out, h48]; rfl)
     clear h48
     go_quiet (fail)
     go_wp2_with (go_at_call 107; refine (parse64 (t := t) (HG3.out.drewN _) HSZ.out).mono ?_; rintro e w4 ⟨ho4, h4⟩; have HO4 := Lib.hid ho4; clear ho4; rw [HQ.out] at h4; obtain rfl := h4)
     go_quiet (fail)
     go_wp2
     go_ret2
     exact NumberAt.yes ((HO3.out.drewN _).then (HO4.out.drewN _) (fun _ _ h => h.elim)) HN3.out HNO.out ((HR3.out.drewN _).only (HO4.out.drewN _) id (fun _ _ _ _ => id))
    ·have hts : (t.toList == [48]) = false := by rw [text_eq HT.out]; simpa using h48
     have HNO := Lib.hid (show numOk ds3 = (((t[0].toNat : Nat) : Int) != 48) by rw [HB.out, ← HXR.out, HX.out, show (ds3 == [48]) = false by simpa using h48]; rfl)
     clear h48
     go_quiet (fail)
     go_wp2_with (go_at_call 107; refine (parse64 (t := t) (HG3.out.drewN _) HSZ.out).mono ?_; rintro e w4 ⟨ho4, h4⟩; have HO4 := Lib.hid ho4; clear ho4; rw [HQ.out] at h4; obtain rfl := h4)
     go_quiet (fail)
     go_wp2
     go_ret2
     exact NumberAt.yes ((HO3.out.drewN _).then (HO4.out.drewN _) (fun _ _ h => h.elim)) HN3.out HNO.out ((HR3.out.drewN _).only (HO4.out.drewN _) id (fun _ _ _ _ => id))
   ·have HQ := Lib.hid (show Lib.parseUintB 64 t.data.toList = .range by rw [HP.out, if_neg hnil, if_neg hbig])
    have HNO := Lib.hid (show numOk ds3 = false by unfold numOk; simp [show big ≤ dv ds3 by omega])
    clear hnil hbig HP
    go_quiet (fail)
    go_wp2_with (go_at_call 107; refine (parse64 (t := t) (HG3.out.drewN _) HSZ.out).mono ?_; rintro e w4 ⟨ho4, h4⟩; have HO4 := Lib.hid ho4; clear ho4; rw [HQ.out] at h4; obtain ⟨N, rfl⟩ := h4)
    go_quiet (fail)
    go_wp2
    go_ret2
    exact NumberAt.no ((HO3.out.drewN _).then (HO4.out.drewN _) (fun _ _ h => h.elim)) HN3.out HNO.out
theorem array_of_getD (t : Array Value) : t = ((List.range t.size).map fun i => t.getD i undef).toArray := by
 apply Array.ext
 ·simp
 ·intro i h1 h2
  simp [Array.getD, h1]
set_option maxRecDepth 100000 in
theorem frame182 (a : Act) (hd : a.defers = []) (hs : a.tmps.size = 182) : ∃ f : Nat → Value, (∀ i, f i = a.tmps.getD i undef) ∧ a = ⟨(f 0 :: f 1 :: f 2 :: f 3 :: f 4 :: f 5 :: f 6 :: f 7 :: f 8 :: f 9 :: f 10 :: f 11 :: f 12 :: f 13 :: f 14 :: f 15 :: f 16 :: f 17 :: f 18 :: f 19 :: f 20 :: f 21 :: f 22 :: f 23 :: f 24 :: f 25 :: f 26 :: f 27 :: f 28 :: f 29 :: f 30 :: f 31 :: f 32 :: f 33 :: f 34 :: f 35 :: f 36 :: f 37 :: f 38 :: f 39 :: f 40 :: f 41 :: f 42 :: f 43 :: f 44 :: f 45 :: f 46 :: f 47 :: f 48 :: f 49 :: f 50 :: f 51 :: f 52 :: f 53 :: f 54 :: f 55 :: f 56 :: f 57 :: f 58 :: f 59 :: f 60 :: f 61 :: f 62 :: f 63 :: f 64 :: f 65 :: f 66 :: f 67 :: f 68 :: f 69 :: f 70 :: f 71 :: f 72 :: f 73 :: f 74 :: f 75 :: f 76 :: f 77 :: f 78 :: f 79 :: f 80 :: f 81 :: f 82 :: f 83 :: f 84 :: f 85 :: f 86 :: f 87 :: f 88 :: f 89 :: f 90 :: f 91 :: f 92 :: f 93 :: f 94 :: f 95 :: f 96 :: f 97 :: f 98 :: f 99 :: f 100 :: f 101 :: f 102 :: f 103 :: f 104 :: f 105 :: f 106 :: f 107 :: f 108 :: f 109 :: f 110 :: f 111 :: f 112 :: f 113 :: f 114 :: f 115 :: f 116 :: f 117 :: f 118 :: f 119 :: f 120 :: f 121 :: f 122 :: f 123 :: f 124 :: f 125 :: f 126 :: f 127 :: f 128 :: f 129 :: f 130 :: f 131 :: f 132 :: f 133 :: f 134 :: f 135 :: f 136 :: f 137 :: f 138 :: f 139 :: f 140 :: f 141 :: f 142 :: f 143 :: f 144 :: f 145 :: f 146 :: f 147 :: f 148 :: f 149 :: f 150 :: f 151 :: f 152 :: f 153 :: f 154 :: f 155 :: f 156 :: f 157 :: f 158 :: f 159 :: f 160 :: f 161 :: f 162 :: f 163 :: f 164 :: f 165 :: f 166 :: f 167 :: f 168 :: f 169 :: f 170 :: f 171 :: f 172 :: f 173 :: f 174 :: f 175 :: f 176 :: f 177 :: f 178 :: f 179 :: f 180 :: f 181 :: []).toArray, []⟩ := by
 refine ⟨fun i => a.tmps.getD i undef, fun _ => rfl, ?_⟩
 obtain ⟨t, d⟩ := a
 have hd' : d = [] := hd
 subst hd'
 have hs' : t.size = 182 := hs
 have h := array_of_getD t
 rw [hs'] at h
 exact congrArg (fun t => Act.mk t []) (h.trans (by rfl))
def finB (p : Bytes × Bytes) : Option (Bytes × Bytes) := if Lib.validD p.1 then some p else none
def afterEsc (acc : Bytes) : Option (Bytes × Bytes) → Option (Bytes × Bytes)
 | none => none
 | some (u, q) => strB (q.length + 1) (acc ++ u) q
structure TMid (w0 : World) (g : Nat) (A : Option Addr) (c : Nat) (l : Bytes) (acc r : Bytes) (v : Value) (w : World) : Prop where
 rs : MR w g A c l r
 own : OwnB w w0.heap.size v acc
 only : Only (· = g) w0 w
 gb : g < w0.heap.size
 low : LowA A l w0.heap.size
 room : acc.length + r.length ≤ 1048576
def TLab (w0 : World) (g : Nat) (A : Option Addr) (c : Nat) (l : Bytes) (T : Option (Bytes × Bytes)) (n : Nat) (v4 v7 : Value) (w : World) : Nat → Prop
 | 0 => Only (· = g) w0 w ∧ T = none
 | 1 => ∃ acc r, TMid w0 g A c l acc r v4 w ∧ n = 10 * r.length + 9 ∧ (strB (r.length + 1) acc r).bind finB = T
 | 2 => ∃ acc r, TMid w0 g A c l acc r v4 w ∧ n = 1 ∧ finB (acc, r) = T
 | 3 => ∃ acc r, TMid w0 g A c l acc r v4 w ∧ n = 10 * r.length + 8 ∧ (afterEsc acc (escB r)).bind finB = T
 | 4 => ∃ acc r, TMid w0 g A c l acc r v4 w ∧ n = 10 * r.length + 7 ∧ (afterEsc acc (uniB r)).bind finB = T
 | 5 => ∃ acc r m, TMid w0 g A c l acc r v4 w ∧ n = 10 * r.length + 10 ∧ (strB (r.length + 1) (acc ++ runeB m) r).bind finB = T ∧ v7 = .int .u32 (m : Nat) ∧ m ≤ 1114111 ∧ acc.length + (runeB m).length + r.length ≤ 1048576
 | _ => False
def J81 (w0 : World) (g : Nat) (A : Option Addr) (c : Nat) (l : Bytes) (T : Option (Bytes × Bytes)) (k n : Nat) (a : Act) (w : World) : Prop :=
 a.defers = [] ∧ a.tmps.size = 182 ∧ a.tmps.getD 0 undef = .pointer (some ⟨g, 0, none⟩) ∧ TLab w0 g A c l T n (a.tmps.getD 4 undef) (a.tmps.getD 7 undef) w k
def TextAt (g : Nat) (A : Option Addr) (c : Nat) (l : Bytes) (T : Option (Bytes × Bytes)) (w : World) (e : Ending) (w' : World) : Prop :=
 Only (· = g) w w' ∧ match T with
 | some (s, q) => e = .returned (.tuple #[.string ⟨s.toArray⟩, .bool true]) ∧ MR w' g A c l q
 | none => e = .returned (.tuple #[.string ⟨#[]⟩, .bool false])
def Q81 (w0 : World) (g : Nat) (A : Option Addr) (c : Nat) (l : Bytes) (T : Option (Bytes × Bytes)) : Exit → Act → World → Prop := bodyPost Tryz.prog Tryz.f81 (TextAt g A c l T w0)
def Seg81 (w0 : World) (g : Nat) (A : Option Addr) (c : Nat) (l : Bytes) (T : Option (Bytes × Bytes)) (k : Nat) : Prop :=
 ∀ n a w, J81 w0 g A c l T k n a w → (∀ l' n' a' w', n' < n → J81 w0 g A c l T l' n' a' w' → Seg Tryz.prog (scopeOf Tryz.f81) (J81 w0 g A c l T) n (Q81 w0 g A c l T) l' a' w') →
  Seg Tryz.prog (scopeOf Tryz.f81) (J81 w0 g A c l T) n (Q81 w0 g A c l T) k a w
theorem TMid.drewN {w0 : World} {g : Nat} {A : Option Addr} {c : Nat} {l acc r : Bytes} {v : Value} {w : World} (h : TMid w0 g A c l acc r v w) (n : Nat) : TMid w0 g A c l acc r v (w.drewN n) :=
 ⟨h.rs.drewN n, h.own, h.only.drewN n, h.gb, h.low, h.room⟩
theorem TMid.next {w0 : World} {g : Nat} {A : Option Addr} {c : Nat} {l acc r : Bytes} {v : Value} {w : World} {i : Nat} {x : UInt8} (h : TMid w0 g A c l acc (x :: r) v w) (hs : MS w g A c l i) (hd : l.drop i = x :: r) :
  TMid w0 g A c l acc r v (w.setCell ⟨g, 1, none⟩ (.int .i64 ((i + 1 : Nat) : Int))) := by
 have hlt : i < l.length := by
  rcases Nat.lt_or_ge i l.length with h | h
  ·exact h
  ·rw [List.drop_eq_nil_of_le h] at hd; cases hd
 refine ⟨⟨i + 1, hs.setAt (i + 1) hlt, by rw [← List.tail_drop, hd]; rfl⟩, h.own.set h.gb _, h.only.setCell (fun _ => rfl) _, h.gb, h.low, ?_⟩
 have := h.room
 simp at this
 omega
theorem TMid.push {w0 : World} {g : Nat} {A : Option Addr} {c : Nat} {l acc r u : Bytes} {v v' : Value} {w w' : World} {o : Obj} (h : TMid w0 g A c l acc r v w) (ho : OwnB w' w0.heap.size v' (acc ++ u)) (hg : (w.alloc o).grownBy w' v.ownBlock)
  (hr : acc.length + u.length + r.length ≤ 1048576) : TMid w0 g A c l (acc ++ u) r v' w' := by
 have h1 : Only (fun k => v.ownBlock = some k) w w' := ((Only.refl (fun k => v.ownBlock = some k) w).alloc o).trans (Only.ofGrown hg)
 have hlt := h.own.lt
 have hgb := h.gb
 refine ⟨h.rs.only h1 (fun e => by have := (hlt _ e).1; omega) (fun b o ea hl e => by have := (hlt _ e).1; have := h.low b o ea hl; omega), ho, ?_, hgb, h.low, by simp; omega⟩
 exact h.only.then h1 (fun i hi e => by have := (hlt _ e).1; omega)
theorem TMid.base {w0 : World} {g : Nat} {A : Option Addr} {c : Nat} {l acc r : Bytes} {v : Value} {w : World} (h : TMid w0 g A c l acc r v w) : w0.heap.size ≤ w.heap.size := h.only.size
set_option maxRecDepth 100000 in
set_option maxHeartbeats 1600000 in
theorem text_bad {w0 : World} {g : Nat} {A : Option Addr} {c : Nat} {l : Bytes} {T : Option (Bytes × Bytes)} : Seg81 w0 g A c l T 0 := by
 rintro n a w ⟨hd, hs, h0, ho, hT⟩ fall
 obtain ⟨f, hf, rfl⟩ := frame182 a hd hs
 refine ⟨_, rfl, ?_⟩
 have HO := Lib.hid ho
 have HT := Lib.hid hT
 clear ho hT fall hd hs h0 hf
 go_wp2
 refine jumpsBelow_ret ?_
 unfold Q81
 go_ret2
 refine ⟨HO.out, ?_⟩
 rw [HT.out]
 rfl
set_option maxRecDepth 100000 in
set_option maxHeartbeats 1600000 in
theorem text_plain {w0 : World} {g : Nat} {A : Option Addr} {c : Nat} {l : Bytes} {T : Option (Bytes × Bytes)} : Seg81 w0 g A c l T 1 := by
 rintro n a w ⟨hd, hs, h0, acc, r, hm, hn, hT⟩ fall
 obtain ⟨f, hf, rfl⟩ := frame182 a hd hs
 refine ⟨_, rfl, ?_⟩
 rw [← hf] at h0
 rw [← hf] at hm
 rw [h0]
 obtain ⟨v, hv⟩ : ∃ v, v = f 4 := ⟨_, rfl⟩
 rw [← hv] at hm ⊢
 clear hf hd hs fall hv h0
 obtain ⟨i, hi, hdr⟩ := hm.rs
 obtain ⟨c0, c1, f1⟩ := hi.cells
 have hl := hi.len
 have hj := hi.le
 have HT := Lib.hid hT
 have HI := Lib.hid hi
 have HN := Lib.hid hn
 have HM := Lib.hid hm
 clear hT hi hn hm
 cases r with
 | nil =>
  have hii : i = l.length := by have := congrArg List.length hdr; simp at this; omega
  subst hii
  have HD := Lib.hid hdr
  clear hdr
  go_wp2
  go_quiet (fail)
  go_wp2
  go_step3
  refine ⟨0, by rw [HN.out]; omega, rfl, rfl, rfl, HM.out.only.drewN _, ?_⟩
  rw [← HT.out]; rfl
 | cons x r =>
  have hlt : i < l.length := by
   rcases Nat.lt_or_ge i l.length with h | h
   ·exact h
   ·rw [List.drop_eq_nil_of_le h] at hdr; cases hdr
  obtain ⟨y, b, o, rfl, hd2, hc⟩ := HI.out.at hlt
  obtain ⟨rfl, rfl⟩ : x = y ∧ r = l.drop (i + 1) := by rw [hdr] at hd2; cases hd2; exact ⟨rfl, rfl⟩
  have HNX := Lib.hid (fun n => (HM.out.drewN n).next (HI.out.drewN n) hdr)
  have HD := Lib.hid hdr
  have hne : ((i : Int) == (l.length : Int)) = false := by simp; omega
  have hlt1 : decide (i < l.length) = true := by simp; omega
  obtain ⟨z, hz⟩ : ∃ z : Nat, z = x.toNat := ⟨_, rfl⟩
  have HZ := Lib.hid hz
  rw [← hz] at hc
  clear hdr hd2 hz
  by_cases h34 : z = 34
  ·obtain rfl : x = 34 := UInt8.toNat_inj.1 (by rw [← HZ.out, h34]; rfl)
   subst h34
   go_wp2
   go_quiet (fail)
   go_wp2
   go_quiet (fail)
   go_wp2
   go_step3
   refine jumpsBelow_goto (Q := Q81 w0 g (some ⟨b, o, none⟩) c l T) 1 (by rw [HN.out]; omega) ⟨rfl, rfl, rfl, acc, _, HNX.out _, rfl, ?_⟩
   rw [← HT.out, strB_end]; rfl
  by_cases h92 : z = 92
  ·obtain rfl : x = 92 := UInt8.toNat_inj.1 (by rw [← HZ.out, h92]; rfl)
   subst h92
   go_wp2
   go_quiet (fail)
   go_wp2
   go_quiet (fail)
   go_wp2
   go_step3
   refine jumpsBelow_goto (Q := Q81 w0 g (some ⟨b, o, none⟩) c l T) (10 * (l.drop (i + 1)).length + 8) (by rw [HN.out]; simp; omega) ⟨rfl, rfl, rfl, acc, _, HNX.out _, rfl, ?_⟩
   rw [← HT.out]
   cases he : escB (l.drop (i + 1)) with
   | none => rw [strB_escNone _ _ he]; rfl
   | some p =>
    obtain ⟨u, q⟩ := p
    rw [← strB_esc _ _ _ _ he]; rfl
  have q34 : ((z : Int) == 34) = false := by simp; omega
  have q92 : ((z : Int) == 92) = false := by simp; omega
  have HX34 := Lib.hid (show x ≠ 34 by rintro rfl; exact h34 HZ.out)
  have HX92 := Lib.hid (show x ≠ 92 by rintro rfl; exact h92 HZ.out)
  clear h34 h92
  by_cases h32 : z < 32
  ·have q32 : decide ((z : Int) < 32) = true := by simp; omega
   go_wp2
   go_quiet (fail)
   go_wp2
   go_quiet (fail)
   go_wp2
   go_step3
   refine jumpsBelow_goto (Q := Q81 w0 g (some ⟨b, o, none⟩) c l T) 0 (by rw [HN.out]; omega) ⟨rfl, rfl, rfl, (HNX.out _).only, ?_⟩
   rw [← HT.out, strB_low _ _ _ (by rw [← HZ.out]; exact h32)]; rfl
  have q32 : decide ((z : Int) < 32) = false := by simp; omega
  have HX32 := Lib.hid (show ¬ x.toNat < 32 by rw [← HZ.out]; exact h32)
  clear h32
  go_wp2
  go_quiet (fail)
  go_wp2
  go_quiet (fail)
  go_upto_region 14 with (fail)
  refine wp_gen0 (TMid w0 g (some ⟨b, o, none⟩) c l acc (l.drop (i + 1)) v) (HNX.out _) ?_
  intro w3 hm3
  clear c0 c1 f1 hc
  have HM3 := Lib.hid hm3
  clear hm3
  go_wp2_with (at_builtin; go_must (refine wpList_append_byte (y := x) rfl _ _ rfl rfl (HM3.out.own.alloc _) rfl (by rw [HZ.out]) (cell_new_at _ _ _ _ rfl) (by have := HM3.out.room; omega) (by have := HM3.out.base; simp; omega) ?_); intro v' w4 hown hgr; have hm4 := HM3.out.push hown hgr (by have := HM.out.room; simp at this ⊢; omega); have HM4 := Lib.hid hm4; clear hown hgr hm4)
  go_step3
  refine jumpsBelow_goto (Q := Q81 w0 g (some ⟨b, o, none⟩) c l T) (10 * (l.drop (i + 1)).length + 9) (by rw [HN.out]; simp) ⟨rfl, rfl, rfl, _, _, HM4.out, rfl, ?_⟩
  rw [← HT.out, ← strB_next _ _ _ HX32.out HX34.out HX92.out]
theorem esc_none_tab : ∀ n : Fin 256, escOne (UInt8.ofNat n.val) = none → decide (Lib.indexByte [34, 92, 47, 98, 102, 110, 114, 116] (UInt8.ofNat n.val) < 0) = true := by decide +kernel
theorem esc_call (e : UInt8) (k : Int) (h : Lib.indexByte [34, 92, 47, 98, 102, 110, 114, 116] e = k) : ∀ w, Calls Tryz.prog 87 #[.string { data := #[34, 92, 47, 98, 102, 110, 114, 116] }, .int .u8 (e.toNat : Int)] w fun e w' => e = .returned (.int .i64 k) ∧ w' = w := by
 intro w
 have := Tryz.strings_IndexByte { data := #[34, 92, 47, 98, 102, 110, 114, 116] } (e.toNat : Int) w
 rw [← h]
 simpa using this
theorem esc_none {e : UInt8} (h : escOne e = none) : ∃ k : Int, decide (k < 0) = true ∧ ∀ w, Calls Tryz.prog 87 #[.string { data := #[34, 92, 47, 98, 102, 110, 114, 116] }, .int .u8 (e.toNat : Int)] w fun e w' => e = .returned (.int .i64 k) ∧ w' = w := by
 refine ⟨_, ?_, esc_call e _ rfl⟩
 have := esc_none_tab ⟨e.toNat, e.toNat_lt⟩
 simp only [UInt8.ofNat_toNat] at this
 exact this h
def EscSome (e y : UInt8) : Prop := ∃ k : Int, decide (k < 0) = false ∧ (∀ w, Calls Tryz.prog 87 #[.string { data := #[34, 92, 47, 98, 102, 110, 114, 116] }, .int .u8 (e.toNat : Int)] w fun e w' => e = .returned (.int .i64 k) ∧ w' = w) ∧
  ∀ w, (Instr.index 9 (.string { data := #[34, 92, 47, 8, 12, 10, 13, 9] }) (.int .i64 k)).run Tryz.prog w = .ok (.int .u8 (y.toNat : Int)) w
theorem esc_some {e y : UInt8} (h : escOne e = some y) : EscSome e y := by
 unfold escOne at h
 split at h
 ·cases h
  rename_i q
  rcases q with rfl | rfl | rfl
  ·exact ⟨0, rfl, esc_call 34 _ (by decide), fun w => by kernel_rfl⟩
  ·exact ⟨1, rfl, esc_call 92 _ (by decide), fun w => by kernel_rfl⟩
  ·exact ⟨2, rfl, esc_call 47 _ (by decide), fun w => by kernel_rfl⟩
 ·repeat' split at h
  all_goals cases h
  ·subst e; exact ⟨3, rfl, esc_call 98 _ (by decide), fun w => by kernel_rfl⟩
  ·subst e; exact ⟨4, rfl, esc_call 102 _ (by decide), fun w => by kernel_rfl⟩
  ·subst e; exact ⟨5, rfl, esc_call 110 _ (by decide), fun w => by kernel_rfl⟩
  ·subst e; exact ⟨6, rfl, esc_call 114 _ (by decide), fun w => by kernel_rfl⟩
  ·subst e; exact ⟨7, rfl, esc_call 116 _ (by decide), fun w => by kernel_rfl⟩
set_option maxRecDepth 100000 in
set_option maxHeartbeats 1600000 in
theorem text_escape {w0 : World} {g : Nat} {A : Option Addr} {c : Nat} {l : Bytes} {T : Option (Bytes × Bytes)} : Seg81 w0 g A c l T 3 := by
 rintro n a w ⟨hd, hs, h0, acc, r, hm, hn, hT⟩ fall
 obtain ⟨f, hf, rfl⟩ := frame182 a hd hs
 refine ⟨_, rfl, ?_⟩
 rw [← hf] at h0
 rw [← hf] at hm
 rw [h0]
 obtain ⟨v, hv⟩ : ∃ v, v = f 4 := ⟨_, rfl⟩
 rw [← hv] at hm ⊢
 clear hf hd hs hv h0
 obtain ⟨i, hi, hdr⟩ := hm.rs
 obtain ⟨c0, c1, f1⟩ := hi.cells
 have hl := hi.len
 have hj := hi.le
 have HT := Lib.hid hT
 have HI := Lib.hid hi
 have HN := Lib.hid hn
 have HM := Lib.hid hm
 clear hT hi hn hm fall
 cases r with
 | nil =>
  have hii : i = l.length := by have := congrArg List.length hdr; simp at this; omega
  subst hii
  have HD := Lib.hid hdr
  clear hdr
  go_wp2
  go_quiet (fail)
  go_wp2
  go_step3
  refine jumpsBelow_goto (Q := Q81 w0 g A c l T) 0 (by rw [HN.out]; omega) ⟨rfl, rfl, rfl, HM.out.only.drewN _, ?_⟩
  rw [← HT.out]; rfl
 | cons x r =>
  have hlt : i < l.length := by
   rcases Nat.lt_or_ge i l.length with h | h
   ·exact h
   ·rw [List.drop_eq_nil_of_le h] at hdr; cases hdr
  obtain ⟨y, b, o, rfl, hd2, hc⟩ := HI.out.at hlt
  obtain ⟨rfl, rfl⟩ : x = y ∧ r = l.drop (i + 1) := by rw [hdr] at hd2; cases hd2; exact ⟨rfl, rfl⟩
  have HNX := Lib.hid (fun n => (HM.out.drewN n).next (HI.out.drewN n) hdr)
  have HD := Lib.hid hdr
  have hne : ((i : Int) == (l.length : Int)) = false := by simp; omega
  have hlt1 : decide (i < l.length) = true := by simp; omega
  obtain ⟨z, hz⟩ : ∃ z : Nat, z = x.toNat := ⟨_, rfl⟩
  have HZ := Lib.hid hz
  rw [← hz] at hc
  clear hdr hd2 hz
  by_cases h117 : z = 117
  ·obtain rfl : x = 117 := UInt8.toNat_inj.1 (by rw [← HZ.out, h117]; rfl)
   subst h117
   go_wp2
   go_quiet (fail)
   go_wp2
   go_quiet (fail)
   go_wp2
   go_step3
   refine jumpsBelow_goto (Q := Q81 w0 g (some ⟨b, o, none⟩) c l T) (10 * (l.drop (i + 1)).length + 7) (by rw [HN.out]; simp; omega) ⟨rfl, rfl, rfl, acc, _, HNX.out _, rfl, ?_⟩
   rw [← HT.out]; rfl
  have q117 : ((z : Int) == 117) = false := by simp; omega
  have HX := Lib.hid (show x ≠ 117 by rintro rfl; exact h117 HZ.out)
  clear h117
  cases he : escOne x with
  | none =>
   obtain ⟨k, hk, hcall⟩ := esc_none he
   rw [← HZ.out] at hcall
   have HC := Lib.hid hcall
   have HE := Lib.hid he
   clear hcall he
   go_wp2
   go_quiet (fail)
   go_wp2
   go_quiet (fail)
   go_wp2_with (go_at_call 87; refine (HC.out _).mono ?_; rintro e w3 ⟨rfl, rfl⟩)
   go_step3
   refine jumpsBelow_goto (Q := Q81 w0 g (some ⟨b, o, none⟩) c l T) 0 (by rw [HN.out]; omega) ⟨rfl, rfl, rfl, (HNX.out _).only, ?_⟩
   rw [← HT.out]
   show (afterEsc acc (escB (x :: _))).bind finB = none
   simp only [escB, HE.out]
   rw [if_neg HX.out]; rfl
  | some y =>
   obtain ⟨k, hk, hcall, hidx⟩ := esc_some he
   rw [← HZ.out] at hcall
   have HC := Lib.hid hcall
   have HE := Lib.hid he
   obtain ⟨zy, hzy⟩ : ∃ zy : Int, zy = (y.toNat : Int) := ⟨_, rfl⟩
   rw [← hzy] at hidx
   have HZY := Lib.hid hzy
   clear hcall he hzy
   go_wp2
   go_quiet (fail)
   go_wp2
   go_quiet (fail)
   go_upto_region 19 with (fail)
   refine wp_gen0 (TMid w0 g (some ⟨b, o, none⟩) c l acc (l.drop (i + 1)) v) (HNX.out _) ?_
   intro w3 hm3
   clear c0 c1 f1 hc
   have HM3 := Lib.hid hm3
   clear hm3
   go_wp2_with (first | (go_at_call 87; refine (HC.out _).mono ?_; rintro e w3 ⟨rfl, rfl⟩) | (at_builtin; go_must (refine wpList_append_byte (y := y) rfl _ _ rfl rfl (HM3.out.own.alloc _) rfl HZY.out (cell_new_at _ _ _ _ rfl) (by have := HM3.out.room; omega) (by have := HM3.out.base; simp; omega) ?_); intro v' w4 hown hgr; have hm4 := HM3.out.push hown hgr (by have := HM.out.room; simp at this ⊢; omega); have HM4 := Lib.hid hm4; clear hown hgr hm4))
   go_step3
   refine jumpsBelow_goto (Q := Q81 w0 g (some ⟨b, o, none⟩) c l T) (10 * (l.drop (i + 1)).length + 9) (by rw [HN.out]; simp; omega) ⟨rfl, rfl, rfl, _, _, HM4.out, rfl, ?_⟩
   rw [← HT.out]
   show _ = (afterEsc acc (escB (x :: _))).bind finB
   simp only [escB, HE.out]
   rfl
theorem TMid.call {w0 : World} {g : Nat} {A : Option Addr} {c : Nat} {l acc r q : Bytes} {v : Value} {w w' : World} (h : TMid w0 g A c l acc r v w) (hr : MR w' g A c l q) (ho : Only (· = g) w w') (hq : q.length ≤ r.length) : TMid w0 g A c l acc q v w' :=
 ⟨hr, h.own.only ho (fun k hk e => by have := (h.own.lt k hk).1; have := h.gb; omega), h.only.trans ho, h.gb, h.low, by have := h.room; omega⟩
theorem uni_none {r : Bytes} (h : hexN 4 0 r = none) : uniB r = none := by unfold uniB; rw [h]
theorem uni_low {r q : Bytes} {m : Nat} (h : hexN 4 0 r = some (m, q)) (h1 : 56320 ≤ m) (h2 : m ≤ 57343) : uniB r = none := by
 unfold uniB; rw [h]; simp only []; rw [if_pos (by omega)]
theorem uni_one {r q : Bytes} {m : Nat} (h : hexN 4 0 r = some (m, q)) (h1 : m < 55296 ∨ 57343 < m) : uniB r = some (runeB m, q) := by
 unfold uniB; rw [h]; simp only []; rw [if_neg (by omega), if_pos (by omega)]
theorem uni_two0 {r q : Bytes} {m : Nat} (h : hexN 4 0 r = some (m, q)) (h1 : 55296 ≤ m) (h2 : m < 56320) (h3 : mustB [92, 117] q = none) : uniB r = none := by
 unfold uniB; rw [h]; simp only []; rw [if_neg (by omega), if_neg (by omega), h3]
theorem uni_two1 {r q q2 : Bytes} {m : Nat} (h : hexN 4 0 r = some (m, q)) (h1 : 55296 ≤ m) (h2 : m < 56320) (h3 : mustB [92, 117] q = some q2) (h4 : hexN 4 0 q2 = none) : uniB r = none := by
 unfold uniB; rw [h]; simp only []; rw [if_neg (by omega), if_neg (by omega), h3]; simp only []; rw [h4]
theorem uni_two2 {r q q2 q3 : Bytes} {m k : Nat} (h : hexN 4 0 r = some (m, q)) (h1 : 55296 ≤ m) (h2 : m < 56320) (h3 : mustB [92, 117] q = some q2) (h4 : hexN 4 0 q2 = some (k, q3)) :
  uniB r = if 56320 ≤ k ∧ k ≤ 57343 then some (runeB (65536 + 1024 * (m - 55296) + (k - 56320)), q3) else none := by
 unfold uniB; rw [h]; simp only []; rw [if_neg (by omega), if_neg (by omega), h3]; simp only []; rw [h4]
theorem must_prefix (p r : Bytes) : mustB p r = if p.isPrefixOf r then some (r.drop p.length) else none := by
 induction p generalizing r with
 | nil => simp [mustB]
 | cons a p ih =>
  cases r with
  | nil => simp [mustB]
  | cons b r =>
   by_cases h : b = a
   ·subst h
    simp only [mustB, if_pos, ih]
    simp [List.isPrefixOf]
   ·have : (a == b) = false := by simpa using fun e => h e.symm
    simp [mustB, h, List.isPrefixOf, this]
theorem TMid.skip {w0 : World} {g : Nat} {A : Option Addr} {c : Nat} {l acc r : Bytes} {v : Value} {w : World} {i k : Nat} (h : TMid w0 g A c l acc r v w) (hs : MS w g A c l i) (hd : l.drop i = r) (hk : i + k ≤ l.length) :
  TMid w0 g A c l acc (r.drop k) v (w.setCell ⟨g, 1, none⟩ (.int .i64 ((i + k : Nat) : Int))) := by
 refine ⟨⟨i + k, hs.setAt (i + k) hk, by rw [← hd]; simp⟩, h.own.set h.gb _, h.only.setCell (fun _ => rfl) _, h.gb, h.low, ?_⟩
 have := h.room
 simp at this ⊢
 omega
set_option maxRecDepth 100000 in
set_option maxHeartbeats 1600000 in
theorem text_unit {w0 : World} {g : Nat} {A : Option Addr} {c : Nat} {l : Bytes} {T : Option (Bytes × Bytes)} : Seg81 w0 g A c l T 4 := by
 rintro n a w ⟨hd, hs, h0, acc, r, hm, hn, hT⟩ fall
 obtain ⟨f, hf, rfl⟩ := frame182 a hd hs
 refine ⟨_, rfl, ?_⟩
 rw [← hf] at h0
 rw [← hf] at hm
 rw [h0]
 obtain ⟨v, hv⟩ : ∃ v, v = f 4 := ⟨_, rfl⟩
 rw [← hv] at hm ⊢
 clear hf hd hs hv h0
 have HT := Lib.hid hT
 have HN := Lib.hid hn
 have HM := Lib.hid hm
 clear hT hn hm
 cases hx : hexN 4 0 r with
 | none =>
  have HX := Lib.hid hx
  clear hx fall
  go_wp2_with (go_at_call 103; refine (hex_any HM.out.rs).mono ?_; rintro e w3 ⟨ho3, h3⟩; rw [HX.out] at h3; obtain rfl := h3; have HO3 := Lib.hid ho3; clear ho3)
  go_step3
  refine jumpsBelow_goto (Q := Q81 w0 g A c l T) 0 (by rw [HN.out]; omega) ⟨rfl, rfl, rfl, HM.out.only.trans HO3.out, ?_⟩
  rw [← HT.out, uni_none HX.out]; rfl
 | some p =>
  obtain ⟨m, q⟩ := p
  have HX := Lib.hid hx
  have HXL := Lib.hid (hexN_lt hx)
  have hm16 : m < 65536 := by have := (hexN_lt hx).1; omega
  clear hx
  by_cases h1 : 56320 ≤ m ∧ m ≤ 57343
  ·obtain ⟨h1, h2⟩ := h1
   have q1 : decide ((56320 : Int) ≤ (m : Int)) = true := by simp; omega
   have q2 : decide ((m : Int) ≤ (57343 : Int)) = true := by simp; omega
   clear fall
   go_wp2_with (go_at_call 103; refine (hex_any HM.out.rs).mono ?_; rintro e w3 ⟨ho3, h3⟩; rw [HX.out] at h3; obtain ⟨rfl, hr3, _⟩ := h3; have HO3 := Lib.hid ho3; clear ho3 hr3)
   go_step3
   refine jumpsBelow_goto (Q := Q81 w0 g A c l T) 0 (by rw [HN.out]; omega) ⟨rfl, rfl, rfl, HM.out.only.trans HO3.out, ?_⟩
   rw [← HT.out, uni_low HX.out h1 h2]; rfl
  by_cases h2 : m < 55296 ∨ 57343 < m
  ·have HU := Lib.hid (uni_one HX.out h2)
   have hcase : (decide ((56320 : Int) ≤ (m : Int)) = false ∧ decide ((m : Int) < (55296 : Int)) = true) ∨ (decide ((56320 : Int) ≤ (m : Int)) = true ∧ decide ((m : Int) ≤ (57343 : Int)) = false ∧ decide ((m : Int) < (55296 : Int)) = false ∧ decide ((57343 : Int) < (m : Int)) = true) := by
    simp only [decide_eq_true_eq, decide_eq_false_iff_not]; omega
   have HLU := Lib.hid (runeB_length3 m hm16)
   clear h1 h2 fall
   rcases hcase with ⟨q1, q2⟩ | ⟨q1, q2, q3, q4⟩
   all_goals
    go_wp2_with (go_at_call 103; refine (hex_any HM.out.rs).mono ?_; rintro e w3 ⟨ho3, h3⟩; rw [HX.out] at h3; obtain ⟨rfl, hr3, _⟩ := h3; have hm3 := HM.out.call hr3 ho3 (by have := HXL.out.2; omega); have HM3 := Lib.hid hm3; clear ho3 hr3 hm3)
    go_step3
    refine jumpsBelow_goto (Q := Q81 w0 g A c l T) (10 * q.length + 10) (by rw [HN.out]; have := HXL.out.2; omega) ⟨rfl, rfl, rfl, acc, q, m, HM3.out, rfl, ?_, rfl, by omega, ?_⟩
    ·rw [← HT.out, HU.out]; rfl
    ·have := HM.out.room; have := HXL.out.2; have := HLU.out; omega
  have h3 : 55296 ≤ m ∧ m < 56320 := by omega
  obtain ⟨h3, h4⟩ := h3
  have q1 : decide ((56320 : Int) ≤ (m : Int)) = false := by simp; omega
  have q2 : decide ((m : Int) < (55296 : Int)) = false := by simp; omega
  have q3 : decide ((57343 : Int) < (m : Int)) = false := by simp; omega
  clear h1 h2
  have FALL := Lib.hid fall
  clear fall
  go_upto_region 25 with (go_at_call 103; refine (hex_any HM.out.rs).mono ?_; rintro e w3 ⟨ho3, h3⟩; rw [HX.out] at h3; obtain ⟨rfl, hr3, _⟩ := h3; have hm3 := HM.out.call hr3 ho3 (by have := HXL.out.2; omega); have HM3 := Lib.hid hm3; clear ho3 hr3 hm3)
  obtain ⟨i, hi, hdr⟩ := HM3.out.rs
  obtain ⟨c0, c1, f1⟩ := hi.cells
  have hl := hi.len
  have hj := hi.le
  obtain ⟨X, hX⟩ : ∃ X, (if c = i then A else Option.map (fun x => x.add i) A) = X := ⟨_, rfl⟩
  obtain ⟨M, t, mm, ma, mb, cv, hp⟩ := ask_word hi hX 2 2 rfl (by decide)
  have hp2 := hp { data := #[92, 117] } rfl
  rw [hdr] at hp2
  have HI := Lib.hid hi
  have HDR := Lib.hid hdr
  clear hi hdr hp
  cases hpre : ([92, 117] : Bytes).isPrefixOf q with
  | false =>
   have HC := Lib.hid (pre_call (hp2.trans hpre))
   have HP := Lib.hid hpre
   clear hp2 hpre
   go_quiet ((go_at_call 104; exact Calls.quiet_of_same (HC.out _)))
   go_wp2
   go_step3
   refine jumpsBelow_goto (Q := Q81 w0 g A c l T) 0 (by rw [HN.out]; omega) ⟨rfl, rfl, rfl, HM3.out.only.drewN _, ?_⟩
   rw [← HT.out, uni_two0 HX.out h3 h4 (by rw [must_prefix, HP.out]; rfl)]; rfl
  | true =>
   have HC := Lib.hid (pre_call (hp2.trans hpre))
   have HMU := Lib.hid (show mustB [92, 117] q = some (q.drop 2) by rw [must_prefix, hpre]; rfl)
   have hql := prefix_le hpre
   have HSK := Lib.hid (fun n => (HM3.out.drewN n).skip (k := 2) (HI.out.drewN n) HDR.out (by have := congrArg List.length HDR.out; simp at this hql; omega))
   clear hp2 hpre hql
   go_quiet ((go_at_call 104; exact Calls.quiet_of_same (HC.out _)))
   go_upto_region 27 with (fail)
   refine wp_gen0 (TMid w0 g A c l acc (q.drop 2) v) (HSK.out _) ?_
   intro w4 hm4
   clear c0 c1 f1 cv
   have HM4 := Lib.hid hm4
   clear hm4
   cases hx2 : hexN 4 0 (q.drop 2) with
   | none =>
    have HX2 := Lib.hid hx2
    clear hx2
    go_wp2_with (go_at_call 103; refine (hex_any HM4.out.rs).mono ?_; rintro e w5 ⟨ho3, h3⟩; rw [HX2.out] at h3; obtain rfl := h3; have HO3 := Lib.hid ho3; clear ho3)
    go_step3
    refine jumpsBelow_goto (Q := Q81 w0 g A c l T) 0 (by rw [HN.out]; omega) ⟨rfl, rfl, rfl, HM4.out.only.trans HO3.out, ?_⟩
    rw [← HT.out, uni_two1 HX.out h3 h4 HMU.out HX2.out]; rfl
   | some p =>
    obtain ⟨k, q3⟩ := p
    have HX2 := Lib.hid hx2
    have HXL2 := Lib.hid (hexN_lt hx2)
    have hk16 : k < 65536 := by have := (hexN_lt hx2).1; omega
    have HU := Lib.hid (uni_two2 HX.out h3 h4 HMU.out hx2)
    clear hx2
    by_cases h5 : k < 56320
    ·have q5 : decide ((k : Int) < (56320 : Int)) = true := by simp; omega
     go_wp2_with (go_at_call 103; refine (hex_any HM4.out.rs).mono ?_; rintro e w5 ⟨ho3, h3⟩; rw [HX2.out] at h3; obtain ⟨rfl, hr3, _⟩ := h3; have HO3 := Lib.hid ho3; clear ho3 hr3)
     go_step3
     refine jumpsBelow_goto (Q := Q81 w0 g A c l T) 0 (by rw [HN.out]; omega) ⟨rfl, rfl, rfl, HM4.out.only.trans HO3.out, ?_⟩
     rw [← HT.out, HU.out, if_neg (by omega)]; rfl
    have q5 : decide ((k : Int) < (56320 : Int)) = false := by simp; omega
    have h5' : 56320 ≤ k := by omega
    clear h5
    by_cases h6 : 57343 < k
    ·have q6 : decide ((57343 : Int) < (k : Int)) = true := by simp; omega
     go_wp2_with (go_at_call 103; refine (hex_any HM4.out.rs).mono ?_; rintro e w5 ⟨ho3, h3⟩; rw [HX2.out] at h3; obtain ⟨rfl, hr3, _⟩ := h3; have HO3 := Lib.hid ho3; clear ho3 hr3)
     go_step3
     refine jumpsBelow_goto (Q := Q81 w0 g A c l T) 0 (by rw [HN.out]; omega) ⟨rfl, rfl, rfl, HM4.out.only.trans HO3.out, ?_⟩
     rw [← HT.out, HU.out, if_neg (by omega)]; rfl
    have q6 : decide ((57343 : Int) < (k : Int)) = false := by simp; omega
    have h6' : k ≤ 57343 := by omega
    clear h6
    go_wp2_with (go_at_call 103; refine (hex_any HM4.out.rs).mono ?_; rintro e w5 ⟨ho3, h3⟩; rw [HX2.out] at h3; obtain ⟨rfl, hr3, _⟩ := h3; have hm5 := HM4.out.call hr3 ho3 (by have := HXL2.out.2; omega); have HM5 := Lib.hid hm5; clear ho3 hr3 hm5)
    go_step3
    have HQL := Lib.hid (show q3.length + 10 ≤ r.length by have h1 := HXL2.out.2; have h2 := HXL.out.2; have h3 := mustB_length HMU.out; simp at h3 h1; omega)
    rename_i hK
    refine hK _ _ ?_
    refine Seg.code (FALL.out 5 (10 * q3.length + 10) _ _ (by rw [HN.out]; have := HQL.out; omega) ?_) rfl
    refine ⟨rfl, rfl, rfl, acc, q3, 65536 + 1024 * (m - 55296) + (k - 56320), HM5.out, rfl, ?_, ?_, by omega, ?_⟩
    ·rw [← HT.out, HU.out, if_pos ⟨h5', h6'⟩]; rfl
    ·show Value.int IntKind.u32 (65536 + ((m : Int) - 55296) * 1024 + (k : Int) - 56320) = _
     exact int_eq (by omega)
    ·have := HM.out.room; have := HQL.out; have := runeB_length (65536 + 1024 * (m - 55296) + (k - 56320)); omega
theorem u8_of {x : Int} {n : Nat} (h : x = (n : Int)) : x.toNat.toUInt8 = UInt8.ofNat n := by subst h; rfl
theorem encC_bad : (encC 65533).data.toList = [239, 191, 189] := by
 unfold encC
 rw [if_neg (by omega), if_neg (by omega), if_pos (by omega)]
 rfl
theorem valid_nat (n : Nat) : Utf8.valid (n : Int) = decide (n < 55296 ∨ (57344 ≤ n ∧ n ≤ 1114111)) := by
 unfold Utf8.valid
 rw [Bool.eq_iff_iff]
 simp
 omega
theorem runeI_good {n : Nat} (h : n < 55296 ∨ (57344 ≤ n ∧ n ≤ 1114111)) : runeI (n : Int) = n := by
 unfold runeI
 rw [valid_nat, if_pos (decide_eq_true h)]
 exact Int.toNat_natCast n
theorem runeI_bad {n : Nat} (h : ¬ (n < 55296 ∨ (57344 ≤ n ∧ n ≤ 1114111))) : runeI (n : Int) = 65533 := by
 unfold runeI
 rw [valid_nat, if_neg (by rw [decide_eq_false h]; exact Bool.false_ne_true)]
 rfl
theorem enc_case1 {n : Nat} (h1 : n ≤ 127) : Lib.encodeRune (n : Int) = (encC n).data.toList := by
 unfold Lib.encodeRune
 rw [Lib.encodeRuneZ_one (by omega) (by omega)]
 unfold encC; rw [if_pos (by omega)]
 simp only [List.map_cons, List.map_nil, u8_of rfl]
theorem enc_case2 {n : Nat} (h1 : 128 ≤ n) (h2 : n ≤ 2047) : Lib.encodeRune (n : Int) = (encC n).data.toList := by
 unfold Lib.encodeRune
 rw [Lib.encodeRuneZ_two (by omega) (by omega)]
 unfold encC; rw [if_neg (by omega), if_pos (by omega)]
 simp only [List.map_cons, List.map_nil]
 rw [u8_of (n := 192 + n / 64) (by omega), u8_of (n := 128 + n % 64) (by omega)]
theorem enc_case3 {n : Nat} (h0 : 2048 ≤ n) (h3 : n < 55296 ∨ (57343 < n ∧ n ≤ 65535)) : Lib.encodeRune (n : Int) = (encC n).data.toList := by
 unfold Lib.encodeRune
 rw [Lib.encodeRuneZ_three (by omega)]
 unfold encC; rw [if_neg (by omega), if_neg (by omega), if_pos (by omega)]
 simp only [List.map_cons, List.map_nil]
 rw [u8_of (n := 224 + n / 4096) (by omega), u8_of (n := 128 + n / 64 % 64) (by omega), u8_of (n := 128 + n % 64) (by omega)]
theorem enc_case4 {n : Nat} (h0 : 65536 ≤ n) (h3 : n ≤ 1114111) : Lib.encodeRune (n : Int) = (encC n).data.toList := by
 unfold Lib.encodeRune
 rw [Lib.encodeRuneZ_four (by omega) (by omega)]
 unfold encC; rw [if_neg (by omega), if_neg (by omega), if_neg (by omega)]
 simp only [List.map_cons, List.map_nil]
 rw [u8_of (n := 240 + n / 262144) (by omega), u8_of (n := 128 + n / 4096 % 64) (by omega), u8_of (n := 128 + n / 64 % 64) (by omega), u8_of (n := 128 + n % 64) (by omega)]
theorem enc_case5 {n : Nat} (h : ¬ (n < 55296 ∨ (57344 ≤ n ∧ n ≤ 1114111))) : Lib.encodeRune (n : Int) = (encC 65533).data.toList := by
 unfold Lib.encodeRune
 rw [Lib.encodeRuneZ_bad (by omega), encC_bad]
 rfl
theorem encodeRune_runeB (n : Nat) : Lib.encodeRune (n : Int) = runeB n := by
 by_cases h : n < 55296 ∨ (57344 ≤ n ∧ n ≤ 1114111)
 ·rw [runeB, runeI_good h]
  by_cases h1 : n ≤ 127
  ·exact enc_case1 h1
  by_cases h2 : n ≤ 2047
  ·exact enc_case2 (by omega) h2
  by_cases h3 : n ≤ 65535
  ·exact enc_case3 (by omega) (by omega)
  ·exact enc_case4 (by omega) (by omega)
 ·rw [runeB, runeI_bad h]
  exact enc_case5 h
theorem runeCells_cellsB (n : Nat) : Lib.runeCells (n : Int) = cellsB (runeB n) := by
 rw [← Lib.byteCells_encodeRune, encodeRune_runeB]; rfl
theorem append_rune {w : World} {base : Nat} {v : Value} {acc : Bytes} {m : Nat} (hown : OwnB w base v acc) (hm : m ≤ 1114111) (hl : acc.length ≤ 2 ^ 40) (hb : base ≤ w.heap.size) :
  Calls Tryz.prog 105 #[v, .int .i32 (m : Int)] w fun e w' => ∃ v', e = .returned v' ∧ OwnB w' base v' (acc ++ runeB m) ∧ ∃ o, (w.alloc o).grownBy w' v.ownBlock := by
 refine (Tryz.utf8_AppendRune_plain base v acc.length (cellsB acc) m (by omega) (by omega) w hown (by omega) hb).mono ?_
 rintro e w' ⟨v', he, ho, hg⟩
 refine ⟨v', he, ?_, hg⟩
 unfold OwnB
 rw [runeCells_cellsB] at ho
 have e1 : (cellsB (runeB m)).length = (runeB m).length := by unfold cellsB; simp
 rw [e1] at ho
 rw [List.length_append]
 have e2 : cellsB (acc ++ runeB m) = cellsB acc ++ cellsB (runeB m) := by unfold cellsB; simp
 rw [e2]
 exact ho
set_option maxRecDepth 100000 in
set_option maxHeartbeats 1600000 in
theorem text_write {w0 : World} {g : Nat} {A : Option Addr} {c : Nat} {l : Bytes} {T : Option (Bytes × Bytes)} : Seg81 w0 g A c l T 5 := by
 rintro n a w ⟨hd, hs, h0, acc, r, m, hm, hn, hT, h7, hm2, hroom⟩ fall
 obtain ⟨f, hf, rfl⟩ := frame182 a hd hs
 refine ⟨_, rfl, ?_⟩
 rw [← hf] at h0
 rw [← hf] at hm
 rw [h0]
 rw [← hf] at h7
 rw [h7]
 obtain ⟨v, hv⟩ : ∃ v, v = f 4 := ⟨_, rfl⟩
 rw [← hv] at hm ⊢
 clear hf hd hs hv h0 h7
 have HT := Lib.hid hT
 have HN := Lib.hid hn
 have HM := Lib.hid hm
 have HRM := Lib.hid hroom
 clear hT hn hm fall hroom
 go_wp2_with (go_at_call 105; refine (append_rune HM.out.own hm2 (by have := HM.out.room; omega) HM.out.base).mono ?_; rintro e w3 ⟨v', rfl, hown, o, hgr⟩; have hm3 := HM.out.push hown hgr HRM.out; have HM3 := Lib.hid hm3; clear hown hgr hm3)
 go_step3
 refine jumpsBelow_goto (Q := Q81 w0 g A c l T) (10 * r.length + 9) (by rw [HN.out]; omega) ⟨rfl, rfl, rfl, _, _, HM3.out, rfl, HT.out⟩
def ValidSaid : Prop := ∀ (A : Option Addr) (n c : Nat) (l : Bytes) (w : World), BytesAt w A l → n = l.length → n ≤ c → l.length ≤ 2 ^ 40 → Gl w →
 Calls Tryz.prog 106 #[.slice A n c] w fun e w' => e = .returned (.bool (Lib.validD l)) ∧ Only (fun _ => False) w w'
theorem OwnB.cap {w : World} {base : Nat} {A : Option Addr} {n c : Nat} {l : Bytes} (h : OwnB w base (.slice A n c) l) : n ≤ c := by
 rcases h.2 with ⟨e, _⟩ | ⟨g, cap, cur, e, _, _, hc, _⟩
 ·cases e; exact Nat.le_refl _
 ·cases e; exact hc
theorem TMid.still {w0 : World} {g : Nat} {A : Option Addr} {c : Nat} {l acc r : Bytes} {v : Value} {w w' : World} (h : TMid w0 g A c l acc r v w) (ho : Only (fun _ => False) w w') : TMid w0 g A c l acc r v w' :=
 ⟨h.rs.only ho id (fun _ _ _ _ => id), h.own.only ho (fun _ _ => id), h.only.then ho (fun _ _ h => h.elim), h.gb, h.low, h.room⟩
set_option maxRecDepth 100000 in
set_option maxHeartbeats 1600000 in
theorem text_done {w0 : World} {g : Nat} {A : Option Addr} {c : Nat} {l : Bytes} {T : Option (Bytes × Bytes)} (hV : ValidSaid) (hG : Gl w0) (hg8 : 8 ≤ g) : Seg81 w0 g A c l T 2 := by
 rintro n a w ⟨hd, hs, h0, acc, r, hm, hn, hT⟩ fall
 obtain ⟨f, hf, rfl⟩ := frame182 a hd hs
 refine ⟨_, rfl, ?_⟩
 rw [← hf] at h0
 rw [← hf] at hm
 rw [h0]
 obtain ⟨v, hv⟩ : ∃ v, v = f 4 := ⟨_, rfl⟩
 rw [← hv] at hm ⊢
 clear hf hd hs hv h0
 have HT := Lib.hid hT
 have HN := Lib.hid hn
 have HM := Lib.hid hm
 have HV := Lib.hid hV
 have HG := Lib.hid (hG.only hm.only (fun b hb e => by omega))
 have FALL := Lib.hid fall
 obtain ⟨A', c', rfl⟩ := hm.own.form
 have HB := Lib.hid hm.own.bytes
 have HCAP := Lib.hid hm.own.cap
 have HL := Lib.hid hm.room
 clear hT hn hm fall hV hG
 cases hv : Lib.validD acc with
 | true =>
  have HVD := Lib.hid hv
  clear hv
  go_wp2_with (first | (go_at_call 106; refine (HV.out A' _ c' acc _ HB.out.2 rfl HCAP.out (by have := HL.out; omega) HG.out).mono ?_; rintro e w3 ⟨he, ho3⟩; rw [HVD.out] at he; obtain rfl := he; have hm3 := HM.out.still ho3; have HM3 := Lib.hid hm3; clear ho3 hm3) | (refine wpList_text_of rfl (.tmp 180) rfl (l := acc) rfl rfl HM3.out.own.bytes.2 ?_))
  refine jumpsBelow_ret ?_
  unfold Q81
  go_ret2
  refine ⟨HM3.out.only, ?_⟩
  rw [← HT.out, finB, if_pos HVD.out]
  exact ⟨rfl, HM3.out.rs⟩
 | false =>
  have HVD := Lib.hid hv
  clear hv
  go_wp2_with (go_at_call 106; refine (HV.out A' _ c' acc _ HB.out.2 rfl HCAP.out (by have := HL.out; omega) HG.out).mono ?_; rintro e w3 ⟨he, ho3⟩; rw [HVD.out] at he; obtain rfl := he; have hm3 := HM.out.still ho3; have HM3 := Lib.hid hm3; clear ho3 hm3)
  go_step3
  rename_i hK
  refine hK _ _ ?_
  refine Seg.code (FALL.out 0 0 _ _ (by rw [HN.out]; decide) ?_) rfl
  refine ⟨rfl, rfl, rfl, HM3.out.only, ?_⟩
  rw [← HT.out, finB, if_neg (by rw [HVD.out]; decide)]
set_option maxRecDepth 100000 in
set_option maxHeartbeats 1600000 in
theorem text_any (hV : ValidSaid) {g : Nat} {A : Option Addr} {c : Nat} {l r : Bytes} {w : World} (hR : MR w g A c l r) (hG : Gl w) (hg8 : 8 ≤ g) :
  Calls Tryz.prog 81 #[.pointer (some ⟨g, 0, none⟩)] w (TextAt g A c l (strOf (skipB r)) w) := by
 have HR := Lib.hid hR
 have HG := Lib.hid hG
 have hgb : g < w.heap.size := by obtain ⟨i, h, _⟩ := hR; exact h.blk.lt
 have HLOW := Lib.hid (show LowA A l w.heap.size by obtain ⟨i, h, _⟩ := hR; exact h.bytes.low)
 have HV := Lib.hid hV
 clear hR hG hV
 go_enter Tryz.func81, Tryz.ntmps81
 go_wp2
 refine wp_scope_segs (J81 w g A c l (strOf (skipB r))) (10 * (skipB r).length + 100) ?_ ?_
 ·intro fall
  have FALL := Lib.hid fall
  clear fall
  obtain ⟨y, hs⟩ : ∃ y, skipB r = y := ⟨_, rfl⟩
  cases y with
  | nil =>
   have HS := Lib.hid hs
   clear hs
   go_wp2_with (go_at_call 80; refine (next_any HR.out).mono ?_; rintro e w1 ⟨he, hr1, ho1⟩; rw [HS.out] at he hr1; obtain rfl := he; have HO1 := Lib.hid ho1; clear ho1 hr1)
   go_step3
   refine jumpsBelow_goto (Q := Q81 w g A c l (strOf (skipB r))) 0 (by omega) ⟨rfl, rfl, rfl, HO1.out, ?_⟩
   rw [HS.out]; rfl
  | cons x q =>
   by_cases h34 : x = 34
   ·subst h34
    have HS := Lib.hid hs
    clear hs
    go_wp2_with (go_at_call 80; refine (next_any HR.out).mono ?_; rintro e w1 ⟨he, hr1, ho1⟩; rw [HS.out] at he hr1; obtain rfl := he; obtain ⟨i, hi, hdr⟩ := hr1; obtain ⟨c0, c1, f1⟩ := hi.cells; have hl := hi.len; have hj := hi.le; have HI := Lib.hid hi; have HDR := Lib.hid hdr; have HO1 := Lib.hid ho1; clear ho1 hi hdr)
    go_step3
    rename_i hK
    refine hK _ _ ?_
    have hlt : i + 1 ≤ l.length := by have := congrArg List.length HDR.out; simp at this; omega
    have hq : l.drop (i + 1) = q := by rw [← List.tail_drop, HDR.out]; rfl
    have hql : q.length ≤ 1048576 := by rw [← hq]; simp; omega
    refine Seg.code (FALL.out 1 (10 * q.length + 9) _ _ (by rw [HS.out]; simp; omega) ?_) rfl
    refine ⟨rfl, rfl, rfl, [], q, ⟨⟨i + 1, HI.out.setAt (i + 1) hlt, hq⟩, OwnB.nil _ _, HO1.out.setCell (fun _ => rfl) _, hgb, HLOW.out, by simpa using hql⟩, rfl, ?_⟩
    rw [HS.out]
    show _ = strOf (34 :: q)
    unfold strOf
    rw [show mustB [34] (34 :: q) = some q from rfl]
    simp only []
    cases strB (q.length + 1) [] q with
    | none => rfl
    | some p => rfl
   ·have HS := Lib.hid hs
    have hx : (((x.toNat : Nat) : Int) == 34) = false := by
     rw [beq_eq_false_iff_ne]; intro h
     have h' : x.toNat = 34 := by omega
     exact h34 (UInt8.toNat_inj.1 (h'.trans rfl))
    have hx' : (((x.toNat : Nat) : Int) != 34) = true := by rw [bne, hx]; rfl
    have H34 := Lib.hid h34
    clear hs h34
    obtain ⟨z, hz⟩ : ∃ z : Int, z = ((x.toNat : Nat) : Int) := ⟨_, rfl⟩
    rw [← hz] at hx hx'
    have HZ := Lib.hid hz
    clear hz
    go_wp2_with (go_at_call 80; refine (next_any HR.out).mono ?_; rintro e w1 ⟨he, hr1, ho1⟩; rw [HS.out] at he hr1; rw [show headI (x :: q) = z from HZ.out.symm] at he; obtain rfl := he; have HO1 := Lib.hid ho1; clear ho1 hr1)
    go_step3
    refine jumpsBelow_goto (Q := Q81 w g A c l (strOf (skipB r))) 0 (by omega) ⟨rfl, rfl, rfl, HO1.out, ?_⟩
    rw [HS.out]
    show strOf (x :: q) = none
    unfold strOf
    rw [show mustB [34] (x :: q) = none by simp [mustB, H34.out]]
 ·intro n k a w' hJ fall
  match k, hJ with
  | 0, hJ => exact text_bad n a w' hJ fall
  | 1, hJ => exact text_plain n a w' hJ fall
  | 2, hJ => exact text_done HV.out HG.out hg8 n a w' hJ fall
  | 3, hJ => exact text_escape n a w' hJ fall
  | 4, hJ => exact text_unit n a w' hJ fall
  | 5, hJ => exact text_write n a w' hJ fall
  | k + 6, hJ => exact hJ.2.2.2.elim
end Go.Proofs.YtjehnejgojgahaaGreatDoor
