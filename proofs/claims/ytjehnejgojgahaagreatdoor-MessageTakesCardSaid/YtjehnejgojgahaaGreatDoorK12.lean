/-
  A part of the proof of MessageTakes: the texts P6 P8 P9 M10 P10 P7.
-/
import Derived.Test.YtjehnejgojgahaaGreatDoorK11
import Derived.Deep.AppendLies
import Derived.Maps.Own
import Derived.Deep.RegionLaw
namespace Go.Proofs.YtjehnejgojgahaaGreatDoor
open Go.RowKit
set_option linter.unusedVariables false
set_option linter.unusedSimpArgs false
theorem PStk.capOf {B : Nat} {w : World} {fs : List FM} {g : Option Addr} {n cap : Nat} (h : PStk B w fs (.slice g n cap)) : n ≤ cap ∧ n = fs.length := by
 rcases h.own.2 with ⟨e, h2⟩ | ⟨_, _, _, e, _, _, hc, _⟩
 ·cases e; exact ⟨Nat.le_refl _, h2.symm⟩
 ·cases e; exact ⟨hc, rfl⟩
theorem Blk.five5 {w : World} {g : Nat} {a b c d e : Value} {T : TypeId} (h : Blk w g [a, b, c, d, e] T) :
  (w.cell? ⟨g, 0, none⟩ = some a ∧ w.cell? ⟨g, 1, none⟩ = some b ∧ w.cell? ⟨g, 2, none⟩ = some c ∧ w.cell? ⟨g, 3, none⟩ = some d ∧ w.cell? ⟨g, 4, none⟩ = some e) ∧
  (w.frozen? ⟨g, 0, none⟩ = false ∧ w.frozen? ⟨g, 1, none⟩ = false ∧ w.frozen? ⟨g, 2, none⟩ = false ∧ w.frozen? ⟨g, 3, none⟩ = false ∧ w.frozen? ⟨g, 4, none⟩ = false) :=
 ⟨⟨h.cell 0 rfl, h.cell 1 rfl, h.cell 2 rfl, h.cell 3 rfl, h.cell 4 rfl⟩, h.frozen 0, h.frozen 1, h.frozen 2, h.frozen 3, h.frozen 4⟩
theorem plainB_length {r q : Bytes} {k : Nat} (h : plainB r = some (k, q)) : q.length < r.length := by
 unfold plainB at h
 split at h
 ·have := prefix_le ‹_›; simp at this; cases h; simp; omega
 ·split at h
  ·have := prefix_le ‹_›; simp at this; cases h; simp; omega
  ·split at h
   ·have := prefix_le ‹_›; simp at this; cases h; simp; omega
   ·cases h
theorem info79 : (Tryz.prog.info? 79).map (fun i => (i.zero, i.size, i.bytes)) = some (some (.agg #[.int .i64 0, .string ⟨#[]⟩, .int .u64 0, .slice none 0 0, .slice none 0 0]), 5, 80) := by kernel_rfl
theorem info9 : (Tryz.prog.info? 9).map (fun i => (i.zero, i.size, i.bytes)) = some (some (.string ⟨#[]⟩), 1, 16) := by kernel_rfl
theorem under76 : Tryz.prog.underlying 76 = some (.slice 79) := by kernel_rfl
theorem under77 : Tryz.prog.underlying 77 = some (.slice 9) := by kernel_rfl
theorem news_of {w : World} {g : Nat} {cs : List Value} {T : TypeId} (hB : Blk w g cs T) : ∀ j u, cs[j]? = some u → w.cell? ((⟨g, 0, none⟩ : Addr).add j) = some u := by
 intro j u hj
 rw [Addr.add_mid, Nat.zero_add]
 exact hB.cell j hj
section
variable {ops : Array Oper} {rest : List Oper} {o : Oper} {a : Act} {w : World} {Q : Exit → Act → World → Prop}
theorem wpList_append79 (hgd : o.guard = none) (s x : Operand) (ho : o.op = .call { callee := .builtin .append, args := #[s, x], argTypes := #[76, 76] }) {base : Nat} {v : Value} {n : Nat} {xs : List Value} (hs : a.eval s = v) (hown : w.ownsRow base 79 5 v n xs)
  {g0 c : Nat} (hx : a.eval x = .slice (some ⟨g0, 0, none⟩) 1 c) {news : List Value} {T : TypeId} (hB : Blk w g0 news T) (h5 : news.length = 5) (h1 : news.all (·.oneCell') = true) (hn : n ≤ 3000000) (hbase : base ≤ w.heap.size)
  (h : ∀ gg cap w', w'.ownsRow base 79 5 (.slice (some ⟨gg, 0, none⟩) (n + 1) cap) (n + 1) (xs ++ news) → w.grownBy w' v.ownBlock → (v.ownBlock = some gg ∨ gg = w.heap.size) → wpList Tryz.prog ops Q rest (a.put o.dst (.slice (some ⟨gg, 0, none⟩) (n + 1) cap)) w') :
  wpList Tryz.prog ops Q (o :: rest) a w := by
 obtain ⟨i0, hi, hz0, hz1, hz2⟩ := info_parts info79
 exact wpList_append_lies w hgd s x 76 ho base 79 i0 _ 5 80 under76 hi hz0 hz1 hz2 rfl (by decide) v n xs hs hown ⟨g0, 0, none⟩ 1 c news hx (by simpa using h5) (news_of hB) (by simpa using h1) (by decide) (by unfold maxLen; omega) (by omega) hbase _ rfl (fun g cap w' h1 h2 h3 _ => h g cap w' h1 h2 h3)
theorem wpList_append9 (hgd : o.guard = none) (s x : Operand) (ho : o.op = .call { callee := .builtin .append, args := #[s, x], argTypes := #[77, 77] }) {base : Nat} {v : Value} {n : Nat} {xs : List Value} (hs : a.eval s = v) (hown : w.ownsRow base 9 1 v n xs)
  {g0 c : Nat} (hx : a.eval x = .slice (some ⟨g0, 0, none⟩) 1 c) {t : ByteArray} {T : TypeId} (hB : Blk w g0 [.string t] T) (hn : n ≤ 3000000) (hbase : base ≤ w.heap.size)
  (h : ∀ gg cap w', w'.ownsRow base 9 1 (.slice (some ⟨gg, 0, none⟩) (n + 1) cap) (n + 1) (xs ++ [.string t]) → w.grownBy w' v.ownBlock → (v.ownBlock = some gg ∨ gg = w.heap.size) → wpList Tryz.prog ops Q rest (a.put o.dst (.slice (some ⟨gg, 0, none⟩) (n + 1) cap)) w') :
  wpList Tryz.prog ops Q (o :: rest) a w := by
 obtain ⟨i0, hi, hz0, hz1, hz2⟩ := info_parts info9
 exact wpList_append_lies w hgd s x 77 ho base 9 i0 _ 1 16 under77 hi hz0 hz1 hz2 rfl (by decide) v n xs hs hown ⟨g0, 0, none⟩ 1 c [.string t] hx rfl (news_of hB) (by intro u hu; simp at hu; subst hu; rfl) (by decide) (by unfold maxLen; omega) (by omega) hbase _ rfl (fun g cap w' h1 h2 h3 _ => h g cap w' h1 h2 h3)
end
theorem under166 : Tryz.prog.underlying 166 = some (.map 5 3) := by kernel_rfl
theorem under3 : Tryz.prog.underlying 3 = some (.int .i64) := by kernel_rfl
theorem zero3 (w : World) : (zeroValue 3).run Tryz.prog w = .ok (.int .i64 0) w := by kernel_rfl
theorem kinds_map (w : World) (x k : Int) (h : (x = 91 ∧ k = 5) ∨ (x = 123 ∧ k = 6)) : ∃ w1 w2,
  (Instr.mapUpdate 166 (.map (some w.heap.size)) (.int .u8 91) (.int .i64 5)).run Tryz.prog (w.alloc (.map #[] 0)) = .ok () w1 ∧
  (Instr.mapUpdate 166 (.map (some w.heap.size)) (.int .u8 123) (.int .i64 6)).run Tryz.prog w1 = .ok () w2 ∧
  (Instr.lookup 166 (.map (some w.heap.size)) (.int .u8 x) false).run Tryz.prog w2 = .ok (.int .i64 k) w2 ∧ Only (fun _ => False) w w2 := by
 have K : Maps.Keyed Tryz.prog 5 := Maps.int_keyed under5
 have h0 := World.ownsMap_made (H := Unit) w Tryz.prog 5 (plainElem Tryz.prog 3)
 obtain ⟨w1, r1, o1, g1⟩ := h0.update (key := .int .u8 91) (val := .int .i64 5) K under166 (by unfold maxLen; omega) (Maps.keyOf_int_mk under5 (by decide)) (plainElem_int under3 (by decide))
 obtain ⟨w2, r2, o2, g2⟩ := o1.update (key := .int .u8 123) (val := .int .i64 6) K under166 (by unfold maxLen; omega) (Maps.keyOf_int_mk under5 (by decide)) (plainElem_int under3 (by decide))
 refine ⟨w1, w2, r1, r2, ?_, ?_⟩
 ·rcases h with ⟨rfl, rfl⟩ | ⟨rfl, rfl⟩
  ·obtain ⟨c, hr, hat, _⟩ := o2.lookup_int (key := .int .u8 91) K under166 under3 (zero3 _) (Maps.keyOf_int_mk under5 (by decide))
   have e : ((((DataW.map [] : DataW Unit).put (.int .u8 91) (.lit (.int .i64 5))).put (.int .u8 123) (.lit (.int .i64 6))).atKey (.int .u8 91) (.lit (.int .i64 0))) = .lit (.int .i64 5) := by rfl
   rw [e] at hat
   have : c = 5 := by cases hat; rfl
   rw [this] at hr
   exact hr
  ·obtain ⟨c, hr, hat, _⟩ := o2.lookup_int (key := .int .u8 123) K under166 under3 (zero3 _) (Maps.keyOf_int_mk under5 (by decide))
   have e : ((((DataW.map [] : DataW Unit).put (.int .u8 91) (.lit (.int .i64 5))).put (.int .u8 123) (.lit (.int .i64 6))).atKey (.int .u8 123) (.lit (.int .i64 0))) = .lit (.int .i64 6) := by rfl
   rw [e] at hat
   have : c = 6 := by cases hat; rfl
   rw [this] at hr
   exact hr
 ·have a1 : Only (fun b => b = w.heap.size) w (w.alloc (.map #[] 0)) := (Only.refl _ _).alloc _
  have a2 : Only (fun b => b = w.heap.size) w w1 := a1.grown g1 (fun k hk _ => by cases hk; rfl)
  have a3 : Only (fun b => b = w.heap.size) w w2 := a2.grown g2 (fun k hk _ => by cases hk; rfl)
  exact a3.mono (fun i hi e => by omega)
theorem own_form {w : World} {base : Nat} {e : TypeId} {st n : Nat} {v : Value} {xs : List Value} (h : w.ownsRow base e st v n xs) : ∃ A c, v = .slice A n c := by
 rcases h.2 with ⟨rfl, hn⟩ | ⟨g, cap, cur, rfl, _⟩
 ·exact ⟨none, 0, by rw [hn]⟩
 ·exact ⟨_, _, rfl⟩
theorem PStk.one {B : Nat} {w : World} {fs : List FM} {vs : Value} (h : PStk B w fs vs) : ∀ t ∈ fs, t.cells.all (·.oneCell') = true := by
 intro t ht
 obtain ⟨A, c, h1⟩ := own_form (h.list t ht)
 obtain ⟨A', c', h2⟩ := own_form (h.keys t ht)
 unfold FM.cells
 rw [h1, h2]; rfl
theorem PMid.pop {w0 : World} {A : Option Addr} {c : Nat} {l r : Bytes} {s sb cap : Nat} {fs : List FM} {t : FM} {vc : List Value} {w : World} (h : PMid w0 A c l s r (fs ++ [t]) (.slice (some ⟨sb, 0, none⟩) (fs.length + 1) cap) vc w) :
  PMid w0 A c l s r fs (.slice (some ⟨sb, 0, none⟩) fs.length cap) vc w :=
 ⟨h.rs, h.res, h.vblk, h.vlen, h.stk.pop.1, h.only, h.low, by have := h.few; simp at this; omega, fun t0 h0 => h.room t0 (List.mem_append.2 (.inl h0))⟩
theorem under79 : (Tryz.prog.underlying 79).map (·.isRow) = some true := by kernel_rfl
theorem load79 {ops : Array Oper} {rest : List Oper} {op : Oper} {a : Act} {w : World} {Q : Exit → Act → World → Prop} (hgd : op.guard = none) (x : Operand) (ho : op.op = .load 79 x)
  {b o : Nat} (hx : a.eval x = .pointer (some ⟨b, o, none⟩)) {cs : List Value} (hc : w.rangeAt b o cs) (hl : cs.length = 5)
  (h : wpList Tryz.prog ops Q rest (a.put op.dst (.agg cs.toArray)) w) : wpList Tryz.prog ops Q (op :: rest) a w := by
 cases hd : Tryz.prog.underlying 79 with
 | none => have := under79; rw [hd] at this; cases this
 | some d =>
  have h2 := under79
  rw [hd] at h2
  exact wpList_load_mid hgd 79 x ho b o hx cs d hc hd (by simpa using h2) (by rw [hl]; exact info79s) h
set_option maxRecDepth 100000 in
set_option maxHeartbeats 1600000 in
theorem parse_shut {w0 : World} {A : Option Addr} {c : Nat} {l : Bytes} {T : Option JV} : Seg61 w0 A c l T 4 := by
 rintro n a w ⟨hd, hs, h0, h2, h4, h7, x, r, fs, t, vc, sb, cap, hm, e5, e6, hn, hT⟩ fall
 obtain ⟨f, hf, rfl⟩ := frame220 a hd hs
 refine ⟨_, rfl, ?_⟩
 rw [← hf] at h0 h2 h4 h7
 rw [h0, h2, h4, h7]
 rw [← hf] at hm e5 e6
 rw [e5] at hm
 rw [e5, e6]
 clear e5 e6 hf fall hd hs h0 h2 h4 h7
 obtain ⟨i, hi, hdr, c0, c1, f1, hj, hl⟩ := hm.at
 have HNX := Lib.hid (hm.next hi hdr (s' := 1) (by omega))
 have HT := Lib.hid hT
 have HN := Lib.hid hn
 have hcap := (hm.stk.capOf).1
 have hfew : fs.length + 1 ≤ 8 := by have := hm.few; simp at this; omega
 clear hT hn hm hi hdr
 go_upto_region 42 with (fail)
 refine wp_gen0 (PMid w0 A c l 1 r (fs ++ [t]) (.slice (some ⟨sb, 0, none⟩) (fs.length + 1) cap) vc) HNX.out ?_
 intro w3 hm3
 clear c0 c1 f1
 have HM3 := Lib.hid hm3
 have HC3 := Lib.hid hm3.stk.topCells.1
 clear hm3
 go_wp2_with (first | (refine load79 rfl (.tmp 213) rfl rfl HC3.out rfl ?_) | (refine wpList_store_blk (cs := t.cells) rfl 79 (.tmp 7) (.tmp 214) rfl rfl rfl rfl HM3.out.vblk HM3.out.vlen info79s (HM3.out.stk.one t (by simp)) ?_; intro w4 hb4 ho4; have hm4 := HM3.out.setV hb4 rfl ho4; have HM4 := Lib.hid hm4; clear hb4 ho4 hm4))
 go_step3
 refine jumpsBelow_goto (Q := Q61 w0 T) (10 * r.length + 5) (by rw [HN.out]; omega) ⟨rfl, rfl, rfl, rfl, rfl, rfl, r, fs, _, _, HM4.out.pop, HM4.out.stk.pop.2, rfl, HT.out⟩
theorem PMid.still {w0 : World} {A : Option Addr} {c : Nat} {l r : Bytes} {s : Nat} {fs : List FM} {vs : Value} {vc : List Value} {w w' : World} (h : PMid w0 A c l s r fs vs vc w) (ho : Only (fun _ => False) w w') : PMid w0 A c l s r fs vs vc w' :=
 ⟨h.rs.only ho id (fun _ _ _ _ => id), h.res.only ho id, h.vblk.only ho id, h.vlen, h.stk.keep ho (fun _ _ h => h.elim), h.only.trans ho, h.low, h.few, h.room⟩
theorem PMid.push {w0 : World} {A : Option Addr} {c : Nat} {l r : Bytes} {fs : List FM} {vs : Value} {vc : List Value} {w w2 : World} {k g cap : Nat} {o : Obj} (h : PMid w0 A c l 0 r fs vs vc w) (hk : k = 5 ∨ k = 6)
  (ho : w2.ownsRow (w0.heap.size + 3) 79 5 (.slice (some ⟨g, 0, none⟩) (fs.length + 1) cap) (fs.length + 1) (fs.flatMap FM.cells ++ [.int .i64 k, .string ⟨#[]⟩, .int .u64 0, .slice none 0 0, .slice none 0 0]))
  (hg : (w.alloc o).grownBy w2 vs.ownBlock) (hat : vs.ownBlock = some g ∨ w.heap.size ≤ g) (h8 : fs.length + 1 ≤ 8) :
  PMid w0 A c l 0 r (fs ++ [⟨⟨k, [], []⟩, .slice none 0 0, .slice none 0 0, []⟩]) (.slice (some ⟨g, 0, none⟩) (fs.length + 1) cap) vc w2 := by
 have ho1 : Only (fun b => vs.ownBlock = some b) w w2 := ((Only.refl (fun b => vs.ownBlock = some b) w).alloc o).trans (Only.ofGrown hg)
 have ne : ∀ b, vs.ownBlock = some b → w0.heap.size + 3 ≤ b := fun b hb => (World.ownsRow.lt h.stk.own b hb).1
 have hl : r.length ≤ 1048576 := by
  obtain ⟨i, hi, hd⟩ := h.rs
  have := hi.len
  have h2 : (l.drop i).length ≤ l.length := by simp
  rw [hd] at h2; omega
 refine ⟨h.rs.only ho1 (fun e => by have := ne _ e; omega) (fun b o e hl e2 => by have := h.low b o e hl; have := ne _ e2; omega), h.res.only ho1 (fun e => by have := ne _ e; omega), h.vblk.only ho1 (fun e => by have := ne _ e; omega), h.vlen,
  h.stk.push hk ho hg hat, h.only.then ho1 (fun i hi e => by have := ne _ e; omega), h.low, by simpa using h8, ?_⟩
 intro t ht
 rcases List.mem_append.1 ht with ht | ht
 ·exact h.room t ht
 ·rw [List.mem_singleton.1 ht]; simp; omega
theorem ans_open5 {fs : List Fr} {q : Bytes} : (LD (8 - (fs.length + 1)) 5 93 [] [] q).bind (behind fs) = (VD (8 - (fs.length + 1)) q).bind (behind (fs ++ [⟨5, [], []⟩])) := by
 rw [LD_list, Option.bind_assoc]
 congr 1
 funext p
 rw [behind_snoc]
 rfl
set_option maxRecDepth 100000 in
set_option maxHeartbeats 1600000 in
theorem parse_open {w0 : World} {A : Option Addr} {c : Nat} {l : Bytes} {T : Option JV} : Seg61 w0 A c l T 1 := by
 rintro n a w ⟨hd, hs, h0, h2, h4, h7, x, r, fs, vc, hm, e9, hx, hn, hT⟩ fall
 obtain ⟨f, hf, rfl⟩ := frame220 a hd hs
 refine ⟨_, rfl, ?_⟩
 rw [← hf] at h0 h2 h4 h7
 rw [h0, h2, h4, h7]
 rw [← hf] at hm e9
 rw [e9]
 obtain ⟨vs, hvs⟩ : ∃ vs, vs = f 5 := ⟨_, rfl⟩
 rw [← hvs] at hm ⊢
 clear hf hd hs h0 h2 h4 h7 hvs e9
 have HT := Lib.hid hT
 have HN := Lib.hid hn
 have HM := Lib.hid hm
 have FALL := Lib.hid fall
 obtain ⟨i, hi, hdr, c0, c1, f1, hj, hl⟩ := hm.at
 have HNX := Lib.hid (hm.next hi hdr (s' := 0) (by omega))
 obtain ⟨A5, c5, rfl⟩ := own_form hm.stk.own
 have hfew := hm.few
 clear hT hn hm fall hi hdr
 by_cases h8 : fs.length = 8
 ·have q8 : ((fs.length : Int) == 8) = true := by simp; omega
  have H8 := Lib.hid h8
  clear h8
  go_wp2
  go_step3
  refine jumpsBelow_goto (Q := Q61 w0 T) 0 (by rw [HN.out]; omega) ⟨rfl, rfl, rfl, rfl, rfl, rfl, HM.out.res, HM.out.only, ?_⟩
  rw [← HT.out, H8.out]
  rcases hx with rfl | rfl
  ·rw [VD_open (show skipB (91 :: r) = 91 :: r by rw [skipB]; rfl) (.inl ⟨rfl, rfl, rfl⟩)]; rfl
  ·rw [VD_open (show skipB (123 :: r) = 123 :: r by rw [skipB]; rfl) (.inr ⟨rfl, rfl, rfl⟩)]; rfl
 have q8 : ((fs.length : Int) == 8) = false := by simp; omega
 have hmm := @run_makeMap Tryz.prog
 rcases hx with hxx | hxx
 ·obtain rfl := hxx
  go_upto_region 19 with (fail)
  refine wp_gen0 (PMid w0 A c l 0 r fs (.slice A5 fs.length c5) vc) HNX.out ?_
  intro w3 hm3
  clear c0 c1 f1
  obtain ⟨m1, m2, r1, r2, r3, hmo⟩ := kinds_map w3 91 5 (by decide)
  have HM4 := Lib.hid (hm3.still hmo)
  clear hm3 hmo
  go_upto_region 20 with (refine wpList_append79 rfl (.tmp 70) (.tmp 76) rfl rfl (HM4.out.stk.own.alloc _) rfl (Blk.new m2 [.int .i64 5, .string ⟨#[]⟩, .int .u64 0, .slice none 0 0, .slice none 0 0] _) rfl rfl (by omega) (by have := HM4.out.only.size; have := HM4.out.vblk.lt; simp; omega) ?_; intro gg cap w5 o5 g5 a5; have hm5 := HM4.out.push (k := 5) (by decide) o5 g5 (by rcases a5 with e | e; exact .inl e; exact .inr (by simp at e; omega)) (by omega); have HM5 := Lib.hid hm5; clear o5 g5 a5 hm5)
  clear r1 r2 r3 hmm
  obtain ⟨y, hs⟩ : ∃ y, skipB r = y := ⟨_, rfl⟩
  have HS := Lib.hid hs
  have HSL := Lib.hid (show y.length ≤ r.length by rw [← hs]; exact skipB_length r)
  clear hs
  obtain ⟨z, hz⟩ : ∃ z : Int, z = headI y := ⟨_, rfl⟩
  have HZ := Lib.hid hz
  clear hz
  have HT2 := Lib.hid (show ((match 8 - fs.length with
   | 0 => none
   | k + 1 => if y.head? = some 93 then some (JV.plain 5, y.tail) else LD k 5 93 [] [] y).bind (behind (frs fs))) = T by
    rw [← HT.out, VD_open (show skipB (91 :: r) = 91 :: r by rw [skipB]; rfl) (.inl ⟨rfl, rfl, rfl⟩), HS.out]; rfl)
  have HK := Lib.hid (show 8 - fs.length = (8 - (fs.length + 1)) + 1 by omega)
  by_cases hz93 : z = 93
  ·have q93 : (z == 93) = true := by simp [hz93]
   obtain ⟨q, rfl⟩ : ∃ q, y = 93 :: q := by
    have hz := HZ.out
    cases y with
    | nil => simp only [headI] at hz; omega
    | cons x t =>
     simp only [headI] at hz
     obtain rfl : x = 93 := UInt8.toNat_inj.1 (show x.toNat = 93 by omega)
     exact ⟨t, rfl⟩
   clear hz93
   go_wp2_with (go_at_call 80; refine (next_any HM5.out.rs).mono ?_; rintro e w6 ⟨he, hr1, ho1⟩; rw [HS.out, ← HZ.out] at he; rw [HS.out] at hr1; obtain rfl := he; have hm6 := HM5.out.call (s' := 0) hr1 ho1 (by have := HSL.out; omega); have HM6 := Lib.hid hm6; clear ho1 hr1 hm6)
   go_step3
   refine jumpsBelow_goto (Q := Q61 w0 T) (10 * q.length + 14) (by rw [HN.out]; have := HSL.out; simp at this; omega) ⟨rfl, rfl, rfl, rfl, rfl, rfl, _, q, fs, _, _, gg, cap, HM6.out, rfl, ?_, rfl, ?_⟩
   ·simp [Nat.mul_comm]
   ·rw [← HT2.out, HK.out]; rfl
  ·have q93 : (z == 93) = false := by rw [beq_eq_false_iff_ne]; exact hz93
   have HNE := Lib.hid (show ¬ y.head? = some 93 by
    have hz := HZ.out
    cases y with
    | nil => simp
    | cons x t =>
     simp only [headI] at hz
     simp only [List.head?_cons, Option.some.injEq]
     rintro rfl
     exact hz93 hz)
   clear hz93
   go_wp2_with (go_at_call 80; refine (next_any HM5.out.rs).mono ?_; rintro e w6 ⟨he, hr1, ho1⟩; rw [HS.out, ← HZ.out] at he; rw [HS.out] at hr1; obtain rfl := he; have hm6 := HM5.out.call (s' := 0) hr1 ho1 (by have := HSL.out; omega); have HM6 := Lib.hid hm6; clear ho1 hr1 hm6)
   go_step3
   refine jumpsBelow_goto (Q := Q61 w0 T) (10 * y.length + 9) (by rw [HN.out]; have := HSL.out; omega) ⟨rfl, rfl, rfl, rfl, rfl, rfl, y, _, _, HM6.out, rfl, ?_⟩
   rw [← HT2.out, HK.out]
   simp only []
   rw [if_neg HNE.out, frs_snoc, ← frs_length fs, ans_open5, List.length_append, List.length_singleton, frs_length]
 ·obtain rfl := hxx
  go_upto_region 19 with (fail)
  refine wp_gen0 (PMid w0 A c l 0 r fs (.slice A5 fs.length c5) vc) HNX.out ?_
  intro w3 hm3
  clear c0 c1 f1
  obtain ⟨m1, m2, r1, r2, r3, hmo⟩ := kinds_map w3 123 6 (by decide)
  have HM4 := Lib.hid (hm3.still hmo)
  clear hm3 hmo
  go_upto_region 20 with (refine wpList_append79 rfl (.tmp 70) (.tmp 76) rfl rfl (HM4.out.stk.own.alloc _) rfl (Blk.new m2 [.int .i64 6, .string ⟨#[]⟩, .int .u64 0, .slice none 0 0, .slice none 0 0] _) rfl rfl (by omega) (by have := HM4.out.only.size; have := HM4.out.vblk.lt; simp; omega) ?_; intro gg cap w5 o5 g5 a5; have hm5 := HM4.out.push (k := 6) (by decide) o5 g5 (by rcases a5 with e | e; exact .inl e; exact .inr (by simp at e; omega)) (by omega); have HM5 := Lib.hid hm5; clear o5 g5 a5 hm5)
  clear r1 r2 r3 hmm
  obtain ⟨y, hs⟩ : ∃ y, skipB r = y := ⟨_, rfl⟩
  have HS := Lib.hid hs
  have HSL := Lib.hid (show y.length ≤ r.length by rw [← hs]; exact skipB_length r)
  clear hs
  obtain ⟨z, hz⟩ : ∃ z : Int, z = headI y := ⟨_, rfl⟩
  have HZ := Lib.hid hz
  clear hz
  have HT2 := Lib.hid (show ((match 8 - fs.length with
   | 0 => none
   | k + 1 => if y.head? = some 125 then some (JV.plain 6, y.tail) else LD k 6 125 [] [] y).bind (behind (frs fs))) = T by
    rw [← HT.out, VD_open (show skipB (123 :: r) = 123 :: r by rw [skipB]; rfl) (.inr ⟨rfl, rfl, rfl⟩), HS.out]; rfl)
  have HK := Lib.hid (show 8 - fs.length = (8 - (fs.length + 1)) + 1 by omega)
  by_cases hz93 : z = 125
  ·have q93 : (z == 125) = true := by simp [hz93]
   obtain ⟨q, rfl⟩ : ∃ q, y = 125 :: q := by
    have hz := HZ.out
    cases y with
    | nil => simp only [headI] at hz; omega
    | cons x t =>
     simp only [headI] at hz
     obtain rfl : x = 125 := UInt8.toNat_inj.1 (show x.toNat = 125 by omega)
     exact ⟨t, rfl⟩
   clear hz93
   go_wp2_with (go_at_call 80; refine (next_any HM5.out.rs).mono ?_; rintro e w6 ⟨he, hr1, ho1⟩; rw [HS.out, ← HZ.out] at he; rw [HS.out] at hr1; obtain rfl := he; have hm6 := HM5.out.call (s' := 0) hr1 ho1 (by have := HSL.out; omega); have HM6 := Lib.hid hm6; clear ho1 hr1 hm6)
   go_step3
   refine jumpsBelow_goto (Q := Q61 w0 T) (10 * q.length + 14) (by rw [HN.out]; have := HSL.out; simp at this; omega) ⟨rfl, rfl, rfl, rfl, rfl, rfl, _, q, fs, _, _, gg, cap, HM6.out, rfl, ?_, rfl, ?_⟩
   ·simp [Nat.mul_comm]
   ·rw [← HT2.out, HK.out]; rfl
  ·have q93 : (z == 125) = false := by rw [beq_eq_false_iff_ne]; exact hz93
   have HNE := Lib.hid (show ¬ y.head? = some 125 by
    have hz := HZ.out
    cases y with
    | nil => simp
    | cons x t =>
     simp only [headI] at hz
     simp only [List.head?_cons, Option.some.injEq]
     rintro rfl
     exact hz93 hz)
   clear hz93
   go_wp2_with (go_at_call 80; refine (next_any HM5.out.rs).mono ?_; rintro e w6 ⟨he, hr1, ho1⟩; rw [HS.out, ← HZ.out] at he; rw [HS.out] at hr1; obtain rfl := he; have hm6 := HM5.out.call (s' := 0) hr1 ho1 (by have := HSL.out; omega); have HM6 := Lib.hid hm6; clear ho1 hr1 hm6)
   go_step3
   rename_i hK
   refine hK _ _ ?_
   refine Seg.code (FALL.out 5 (10 * y.length + 7) _ _ (by rw [HN.out]; have := HSL.out; omega) ?_) rfl
   refine ⟨rfl, rfl, rfl, rfl, rfl, rfl, y, fs, _, _, gg, cap, HM6.out, rfl, ?_, rfl, rfl, ?_⟩
   ·simp [Nat.mul_comm]
   ·rw [← HT2.out, HK.out]
    simp only []
    rw [if_neg HNE.out]
theorem contains_at {w : World} {B : Option Addr} {d : Nat} {ks : List Bytes} (k : Bytes) (hk : ∀ i t, ks[i]? = some t → ∃ b o, B = some ⟨b, o, none⟩ ∧ w.cell? ⟨b, o + i, none⟩ = some (txt t)) (hl : ks.length ≤ 3000000) :
  Calls Tryz.prog 84 #[.slice B ks.length d, .string ⟨k.toArray⟩] w fun e w' => e = .returned (.bool (decide (k ∈ ks))) ∧ w' = w := by
 cases ks with
 | nil =>
  have := Tryz.slices_Contains_string_empty B d ⟨k.toArray⟩ w
  simpa using this
 | cons t0 ks =>
  obtain ⟨b, o, rfl, _⟩ := hk 0 t0 rfl
  have h := Tryz.slices_Contains_string b o (t0 :: ks).length d ((t0 :: ks).map fun t => (⟨t.toArray⟩ : ByteArray)) ⟨k.toArray⟩ w (by simp) (by simp at hl ⊢; omega) (by
   intro j hj
   rw [List.length_map] at hj
   obtain ⟨b', o', e, hc⟩ := hk j _ (List.getElem?_eq_getElem hj)
   cases e
   rw [hc]
   simp only [txt, List.getD_eq_getElem?_getD, List.getElem?_map, List.getElem?_eq_getElem hj, Option.map_some, Option.getD_some])
  have e : Lib.containsS (((t0 :: ks).map fun t => (⟨t.toArray⟩ : ByteArray)).take (t0 :: ks).length) ⟨k.toArray⟩ = decide (k ∈ t0 :: ks) := by
   rw [List.take_of_length_le (by simp), Bool.eq_iff_iff, Lib.containsS_iff, decide_eq_true_eq, List.mem_map]
   constructor
   ·rintro ⟨x, hx, he⟩
    have : x = k := by
     have h2 : x.toArray = k.toArray := by cases he; rfl
     simpa using h2
    exact this ▸ hx
   ·intro h; exact ⟨k, h, rfl⟩
  rw [e] at h
  exact h
theorem own_at {w : World} {base : Nat} {e : TypeId} {ks : List Bytes} {B : Option Addr} {d : Nat} (h : w.ownsRow base e 1 (.slice B ks.length d) ks.length (cellsK ks)) : ∀ i t, ks[i]? = some t → ∃ b o, B = some ⟨b, o, none⟩ ∧ w.cell? ⟨b, o + i, none⟩ = some (txt t) := by
 intro i t hi
 rcases h.2 with ⟨he, hn⟩ | ⟨g, cap, cur, he, _⟩
 ·have := (List.getElem?_eq_some_iff.1 hi).1; omega
 ·cases he
  refine ⟨g, 0, rfl, ?_⟩
  have := World.ownsRow.cells h (g := g) rfl i (txt t) (by unfold cellsK; rw [List.getElem?_map, hi]; rfl)
  rw [Addr.add_mid] at this
  exact this
theorem PStk.topAfter {B sb n cap : Nat} {w w2 : World} {fs : List FM} {t : FM} {D : Nat → Prop} (h : PStk B w (fs ++ [t]) (.slice (some ⟨sb, 0, none⟩) n cap)) (ho : Only D w w2) (hD : ∀ b, D b → b ∈ blocks1 t ∨ w.heap.size ≤ b ∨ b < B) :
  w2.rangeAt sb (5 * fs.length) t.cells ∧ w2.there sb (5 * fs.length) 5 := by
 have nd := h.nodup
 rw [blocksOf_snoc, List.nodup_append] at nd
 have hlt := h.lt (b := sb) (mem_blocks.2 (.inl rfl))
 have nD : ¬ D sb := fun hd => by
  rcases hD sb hd with h1 | h1 | h1
  ·exact nd.2.2 sb (mem_blocks.2 (.inl rfl)) sb h1 rfl
  ·omega
  ·omega
 obtain ⟨h1, h2⟩ := h.topCells
 have hb := ho.block sb hlt.2 nD
 refine ⟨fun j v hv => ?_, fun j hj => ?_⟩
 ·rw [World.cell?_of_block (w := w) hb]; exact h1 j v hv
 ·rw [World.cell?_of_block (w := w) hb, World.frozen?_of_block (w := w) hb]; exact h2 j hj
theorem keyD_noStr {K : List Bytes} {r : Bytes} (h : strOf (skipB r) = none) : keyD K r = none := by
 apply keyD_none; unfold keyB; rw [h]
theorem keyD_dup {K : List Bytes} {r k q : Bytes} (h : strOf (skipB r) = some (k, q)) (hk : k ∈ K) : keyD K r = none := by
 unfold keyD keyB
 rw [h]
 simp only []
 cases mustB [58] (skipB q) with
 | none => rfl
 | some q2 => simp [hk]
theorem keyD_noColon {K : List Bytes} {r k q : Bytes} (h : strOf (skipB r) = some (k, q)) (hk : ¬ (skipB q).head? = some 58) : keyD K r = none := by
 apply keyD_none
 unfold keyB
 rw [h]
 simp only []
 cases hs : skipB q with
 | nil => rfl
 | cons x t =>
  rw [hs] at hk
  have : ¬ x = 58 := by rintro rfl; exact hk rfl
  simp [mustB, this]
theorem keyD_yes {K : List Bytes} {r k q q2 : Bytes} (h : strOf (skipB r) = some (k, q)) (hk : k ∉ K) (hs : skipB q = 58 :: q2) : keyD K r = some (k, q2) := by
 rw [keyD_some (k := k) (q := q2) (by unfold keyB; rw [h]; simp only []; rw [hs]; simp [mustB]), if_neg hk]
theorem PMid.addKey {w0 : World} {A : Option Addr} {c : Nat} {l r : Bytes} {fs : List FM} {t : FM} {vc : List Value} {w w2 : World} {sb n cap gg cap' : Nat} {o : Obj} {k : Bytes} (h : PMid w0 A c l 0 r (fs ++ [t]) (.slice (some ⟨sb, 0, none⟩) n cap) vc w)
  (hown : w2.ownsRow (w0.heap.size + 3) 9 1 (.slice (some ⟨gg, 0, none⟩) (t.fr.keys.length + 1) cap') (t.fr.keys.length + 1) (cellsK t.fr.keys ++ [txt k])) (hg : (w.alloc o).grownBy w2 t.vk.ownBlock) (hat : t.vk.ownBlock = some gg ∨ w.heap.size ≤ gg)
  (hr : t.fr.keys.length + 1 + r.length ≤ 1048576) :
  PMid w0 A c l 0 r (fs ++ [{ t with fr := { t.fr with keys := t.fr.keys ++ [k] }, vk := .slice (some ⟨gg, 0, none⟩) (t.fr.keys.length + 1) cap' }]) (.slice (some ⟨sb, 0, none⟩) n cap) vc
   (w2.setCell ⟨sb, 5 * fs.length + 4, none⟩ (.slice (some ⟨gg, 0, none⟩) (t.fr.keys.length + 1) cap')) := by
 have hmem : t ∈ fs ++ [t] := by simp
 have hsb := (h.stk.lt (b := sb) (mem_blocks.2 (.inl rfl))).1
 have ho : Only (fun b => w0.heap.size + 3 ≤ b) w (w2.setCell ⟨sb, 5 * fs.length + 4, none⟩ (.slice (some ⟨gg, 0, none⟩) (t.fr.keys.length + 1) cap')) := by
  refine (((Only.refl (fun b => w0.heap.size + 3 ≤ b) w).alloc o).grown hg (fun k hk _ => ?_)).setCell (fun _ => hsb) _
  exact (World.ownsRow.lt (h.stk.keys t hmem) k hk).1
 refine ⟨h.rs.only ho (by omega) (fun b o e hl e2 => by have := h.low b o e hl; omega), h.res.only ho (by omega), h.vblk.only ho (by omega), h.vlen, h.stk.addKey hown hg hat, h.only.then ho (fun i hi e => by omega), h.low, by have := h.few; simpa using this, ?_⟩
 intro t0 h0
 rcases List.mem_append.1 h0 with h0 | h0
 ·exact h.room t0 (List.mem_append.2 (.inl h0))
 ·rw [List.mem_singleton.1 h0]
  have := h.room t hmem
  simp; omega
set_option maxRecDepth 100000 in
set_option maxHeartbeats 1600000 in
theorem parse_member {w0 : World} {A : Option Addr} {c : Nat} {l : Bytes} {T : Option JV} (hV : ValidSaid) (hG : Gl w0) : Seg61 w0 A c l T 5 := by
 rintro n a w ⟨hd, hs, h0, h2, h4, h7, r, fs, t, vc, sb, cap, hm, e5, e6, hk6, hn, hT⟩ fall
 obtain ⟨f, hf, rfl⟩ := frame220 a hd hs
 refine ⟨_, rfl, ?_⟩
 rw [← hf] at h0 h2 h4 h7
 rw [h0, h2, h4, h7]
 rw [← hf] at hm e5 e6
 rw [e5] at hm
 rw [e5, e6]
 clear e5 e6 hf fall hd hs h0 h2 h4 h7
 obtain ⟨⟨kd, L, K⟩, vl, vk, xs⟩ := t
 simp only at hk6
 subst hk6
 obtain ⟨Ak, dk, rfl⟩ : ∃ Ak dk, vk = .slice Ak K.length dk := own_form (hm.stk.keys _ (List.mem_append.2 (.inr (List.mem_singleton.2 rfl))))
 have HT := Lib.hid hT
 have HN := Lib.hid hn
 have HM := Lib.hid hm
 have HG1 := Lib.hid (hm.gl hG)
 have HV := Lib.hid hV
 have HRM := Lib.hid (hm.room _ (List.mem_append.2 (.inr (List.mem_singleton.2 rfl))))
 have hl8 : fs.length + 1 ≤ 8 := by have := hm.few; simp at this; omega
 clear hT hn hm hV hG
 cases hso : strOf (skipB r) with
 | none =>
  have HSO := Lib.hid hso
  clear hso
  go_wp2_with (go_at_call 81; refine (text_any HV.out HM.out.rs HG1.out.1 HG1.out.2).mono ?_; rintro e w3 ⟨ho3, h3⟩; rw [HSO.out] at h3; obtain rfl := h3; have hr3 := HM.out.res.only ho3 (by omega); have hoo := HM.out.only.then ho3 (fun i hi e => by omega); have HR3 := Lib.hid hr3; have HO3 := Lib.hid hoo; clear ho3 hr3 hoo)
  go_step3
  refine jumpsBelow_goto (Q := Q61 w0 T) 0 (by rw [HN.out]; omega) ⟨rfl, rfl, rfl, rfl, rfl, rfl, HR3.out, HO3.out, ?_⟩
  rw [← HT.out, ← frs_length fs, ans_member_none (keyD_noStr HSO.out)]
 | some p =>
  obtain ⟨k, q⟩ := p
  have HSO := Lib.hid hso
  have HSQ := Lib.hid (strOf_length hso)
  have HSR := Lib.hid (skipB_length r)
  clear hso
  go_upto_region 24 with (go_at_call 81; refine (text_any HV.out HM.out.rs HG1.out.1 HG1.out.2).mono ?_; rintro e w3 ⟨ho3, h3⟩; rw [HSO.out] at h3; obtain ⟨rfl, hr3⟩ := h3; have hm3 := HM.out.call (s' := 0) hr3 ho3 (by have := HSQ.out.1; have := HSR.out; omega); have HM3 := Lib.hid hm3; clear ho3 hr3 hm3)
  have hck := HM3.out.stk.topCells.1 4 (.slice Ak K.length dk) rfl
  have HCT := Lib.hid (contains_at (w := w3) (d := dk) k (own_at (HM3.out.stk.keys _ (List.mem_append.2 (.inr (List.mem_singleton.2 rfl))))) (by have := HRM.out.2; omega))
  by_cases hin : k ∈ K
  ·have hct := HCT.out
   rw [decide_eq_true hin] at hct
   have HC := Lib.hid hct
   have HIN := Lib.hid hin
   clear hct hin
   go_wp2_with (go_at_call 84; refine HC.out.mono ?_; rintro e w4 ⟨rfl, rfl⟩)
   go_step3
   refine jumpsBelow_goto (Q := Q61 w0 T) 0 (by rw [HN.out]; omega) ⟨rfl, rfl, rfl, rfl, rfl, rfl, HM3.out.res, HM3.out.only, ?_⟩
   rw [← HT.out, ← frs_length fs, ans_member_none (keyD_dup HSO.out HIN.out)]
  ·have hct := HCT.out
   rw [decide_eq_false hin] at hct
   have HC := Lib.hid hct
   have HIN := Lib.hid hin
   clear hct hin
   obtain ⟨y, hs⟩ : ∃ y, skipB q = y := ⟨_, rfl⟩
   have HS := Lib.hid hs
   have HSL := Lib.hid (show y.length ≤ q.length by rw [← hs]; exact skipB_length q)
   clear hs
   obtain ⟨z, hz⟩ : ∃ z : Int, z = headI y := ⟨_, rfl⟩
   have HZ := Lib.hid hz
   clear hz
   by_cases h58 : z = 58
   ·obtain ⟨q2, rfl⟩ : ∃ q2, y = 58 :: q2 := by
     have hz := HZ.out
     cases y with
     | nil => simp only [headI] at hz; omega
     | cons x t =>
      simp only [headI] at hz
      obtain rfl : x = 58 := UInt8.toNat_inj.1 (show x.toNat = 58 by omega)
      exact ⟨t, rfl⟩
    have q58 : (z != 58) = false := by simp [h58]
    clear h58
    go_upto_region 25 with (first | (go_at_call 84; refine HC.out.mono ?_; rintro e w4 ⟨rfl, rfl⟩) | (go_at_call 80; refine (next_any HM3.out.rs).mono ?_; rintro e w5 ⟨he, hr1, ho1⟩; rw [HS.out, ← HZ.out] at he; rw [HS.out] at hr1; obtain rfl := he; have hm5 := HM3.out.call (s' := 0) hr1 ho1 (by have := HSL.out; omega); have HM5 := Lib.hid hm5; clear ho1 hr1 hm5))
    clear hck
    obtain ⟨i, hi, hdr, c0, c1, f1, hj, hl⟩ := HM5.out.at
    have HNX := Lib.hid (HM5.out.next hi hdr (s' := 0) (by omega))
    clear hi hdr
    go_upto_region 26 with (fail)
    refine wp_gen0 (PMid w0 A c l 0 q2 (fs ++ [⟨⟨6, L, K⟩, vl, .slice Ak K.length dk, xs⟩]) (.slice (some ⟨sb, 0, none⟩) (fs.length + 1) cap) vc) HNX.out ?_
    intro w6 hm6
    clear c0 c1 f1
    have hck := hm6.stk.topCells.1 4 (.slice Ak K.length dk) rfl
    have HM6 := Lib.hid hm6
    clear hm6
    go_wp2_with (refine wpList_append9 rfl (.tmp 121) (.tmp 123) rfl rfl ((HM6.out.stk.keys _ (List.mem_append.2 (.inr (List.mem_singleton.2 rfl)))).alloc _) rfl (Blk.new w6 [.string ⟨k.toArray⟩] _) (by have := HRM.out.2; simp only at this ⊢; omega) (by have := HM6.out.only.size; have := HM6.out.vblk.lt; simp; omega) ?_; intro gg cap' w7 o7 g7 a7; have htp := HM6.out.stk.topAfter (((Only.refl (fun b => (Value.slice Ak K.length dk).ownBlock = some b) w6).alloc _).trans (Only.ofGrown g7)) (fun b hb => .inl (mem_blocks1.2 (.inr hb))); have k4 := htp.1 4 _ rfl; have f4 := (htp.2 4 (by decide)).2; have hm7 := HM6.out.addKey (k := k) o7 g7 (by rcases a7 with e | e; exact .inl e; exact .inr (by simp at e; omega)) (by have h1 := HRM.out.2; have h2 := HSQ.out.1; have h3 := HSR.out; have h4 := HSL.out; simp at h1 h2 h3 h4 ⊢; omega); have HM7 := Lib.hid hm7; clear o7 g7 a7 htp hm7)
    go_step3
    refine jumpsBelow_goto (Q := Q61 w0 T) (10 * q2.length + 9) (by rw [HN.out]; have h2 := HSQ.out.1; have h3 := HSR.out; have h4 := HSL.out; simp at h4; omega) ⟨rfl, rfl, rfl, rfl, rfl, rfl, q2, _, _, HM7.out, rfl, ?_⟩
    rw [← HT.out, ← frs_length fs, ans_member (keyD_yes HSO.out HIN.out HS.out), frs_snoc, List.length_append, List.length_singleton, frs_length]
   ·have q58 : (z != 58) = true := by simp [h58]
    have HNE := Lib.hid (show ¬ (skipB q).head? = some 58 by
     rw [HS.out]
     have hz := HZ.out
     cases y with
     | nil => simp
     | cons x t =>
      simp only [headI] at hz
      simp only [List.head?_cons, Option.some.injEq]
      rintro rfl
      exact h58 hz)
    clear h58
    go_wp2_with (first | (go_at_call 84; refine HC.out.mono ?_; rintro e w4 ⟨rfl, rfl⟩) | (go_at_call 80; refine (next_any HM3.out.rs).mono ?_; rintro e w5 ⟨he, hr1, ho1⟩; rw [HS.out, ← HZ.out] at he; rw [HS.out] at hr1; obtain rfl := he; have hm5 := HM3.out.call (s' := 0) hr1 ho1 (by have := HSL.out; omega); have HM5 := Lib.hid hm5; clear ho1 hr1 hm5))
    go_step3
    refine jumpsBelow_goto (Q := Q61 w0 T) 0 (by rw [HN.out]; omega) ⟨rfl, rfl, rfl, rfl, rfl, rfl, HM5.out.res, HM5.out.only, ?_⟩
    rw [← HT.out, ← frs_length fs, ans_member_none (keyD_noColon HSO.out HNE.out)]
def ZV : List Value := [.int .i64 0, .string ⟨#[]⟩, .int .u64 0, .slice none 0 0, .slice none 0 0]
def idxK : List Bytes → Bytes → Option Nat
 | [], _ => none
 | k0 :: ks, k => if k0 = k then some 0 else (idxK ks k).map (· + 1)
def idxI (ks : List Bytes) (k : Bytes) : Int := match idxK ks k with | some i => (i : Nat) | none => -1
def getB (v : JV) (k : Bytes) : Option JV := if v.kind = 6 ∧ v.keys.length = v.list.length then (idxK v.keys k).bind fun i => v.list[i]? else none
theorem idxK_lt {ks : List Bytes} {k : Bytes} {i : Nat} (h : idxK ks k = some i) : i < ks.length := by
 induction ks generalizing i with
 | nil => cases h
 | cons a ks ih =>
  unfold idxK at h
  split at h
  ·cases h; simp
  ·obtain ⟨j, hj, rfl⟩ := Option.map_eq_some_iff.1 h
   have := ih hj; simp; omega
theorem idxI_eq (ks : List Bytes) (k : Bytes) : Lib.idxOfS (ks.map fun t => (⟨t.toArray⟩ : ByteArray)) ⟨k.toArray⟩ = idxI ks k := by
 have gen : ∀ (ks : List Bytes) (i : Nat), Lib.idxFromS (ks.map fun t => (⟨t.toArray⟩ : ByteArray)) ⟨k.toArray⟩ i = match idxK ks k with | some j => ((i + j : Nat) : Int) | none => -1 := by
  intro ks
  induction ks with
  | nil => intro i; rfl
  | cons a ks ih =>
   intro i
   simp only [List.map_cons, Lib.idxFromS, idxK]
   by_cases h : a = k
   ·subst h; simp
   ·have h2 : ¬ ((⟨a.toArray⟩ : ByteArray) = ⟨k.toArray⟩) := by
     intro e
     have : a.toArray = k.toArray := by injection e
     exact h (by simpa using this)
    rw [if_neg h]
    simp only [h2, if_false, beq_iff_eq]
    rw [ih]
    cases idxK ks k with
    | none => rfl
    | some j =>
     show (((i + 1) + j : Nat) : Int) = ((i + (j + 1) : Nat) : Int)
     rw [show (i + 1) + j = i + (j + 1) by omega]
 have := gen ks 0
 unfold Lib.idxOfS idxI
 rw [this]
 cases idxK ks k with
 | none => rfl
 | some j => simp
theorem index_at {w : World} {B : Option Addr} {d : Nat} {ks : List Bytes} (k : Bytes) (hk : ∀ i t, ks[i]? = some t → ∃ b o, B = some ⟨b, o, none⟩ ∧ w.cell? ⟨b, o + i, none⟩ = some (txt t)) (hl : ks.length ≤ 3000000) :
  Calls Tryz.prog 108 #[.slice B ks.length d, .string ⟨k.toArray⟩] w fun e w' => e = .returned (.int .i64 (idxI ks k)) ∧ w' = w := by
 cases ks with
 | nil =>
  have := Tryz.slices_Index_string_empty B d ⟨k.toArray⟩ w
  rw [show Lib.idxOfS [] ⟨k.toArray⟩ = idxI [] k from idxI_eq [] k] at this
  exact this
 | cons t0 ks =>
  obtain ⟨b, o, rfl, _⟩ := hk 0 t0 rfl
  have h := Tryz.slices_Index_string b o (t0 :: ks).length d ((t0 :: ks).map fun t => (⟨t.toArray⟩ : ByteArray)) ⟨k.toArray⟩ w (by simp) (by simp at hl ⊢; omega) (by
   intro j hj
   rw [List.length_map] at hj
   obtain ⟨b', o', e, hc⟩ := hk j _ (List.getElem?_eq_getElem hj)
   cases e
   rw [hc]
   simp only [txt, List.getD_eq_getElem?_getD, List.getElem?_map, List.getElem?_eq_getElem hj, Option.map_some, Option.getD_some])
  rw [List.take_of_length_le (by simp), idxI_eq] at h
  exact h
def GetAt (X : Nat → Prop) (T : Option JV) (w : World) (e : Ending) (w' : World) : Prop :=
 Only (fun _ => False) w w' ∧ match T with
 | some u => ∃ cs, e = .returned (.tuple #[.agg cs.toArray, .bool true]) ∧ JIs X w' u cs
 | none => e = .returned (.tuple #[.agg #[.int .i64 0, .string ⟨#[]⟩, .int .u64 0, .slice none 0 0, .slice none 0 0], .bool false])
set_option maxRecDepth 100000 in
set_option maxHeartbeats 1600000 in
theorem get_any {X : Nat → Prop} {v : JV} {cs : List Value} {w : World} (k : Bytes) (hj : JIs X w v cs) (hX : ∀ b, X b → b < w.heap.size) (hl : v.keys.length ≤ 3000000) (hl2 : v.list.length ≤ 3000000) :
  Calls Tryz.prog 85 #[.agg cs.toArray, .string ⟨k.toArray⟩] w (GetAt X (getB v k) w) := by
 have HJ := Lib.hid hj
 cases hj with
 | @mk kd s n l ks A B c d cs hjl h5 hc hk =>
  simp only [JV.keys, JV.list] at hl hl2
  have hz : w.heap.size + 1 < w.heap.size + 2 := by omega
  have HI := Lib.hid (fun (w' : World) (ho : Only (fun _ => False) w w') => index_at (w := w') (B := B) (d := d) k (fun i t ht => by
   obtain ⟨b, o, e, _, hcc⟩ := hk i t ht
   refine ⟨b, o, e, ?_⟩
   have := ho.cell (hcc 0 _ rfl) id
   simpa using this) hl)
  obtain ⟨x, hx⟩ : ∃ x : Int, x = idxI ks k := ⟨_, rfl⟩
  have HX := Lib.hid hx
  clear hx
  unfold cells5
  go_enter Tryz.func85, Tryz.ntmps85
  go_upto_region 2 with (go_at_call 108; refine (HI.out _ (((Only.refl _ _).alloc _).alloc _)).mono ?_; rintro e w1 ⟨he, rfl⟩; rw [← HX.out] at he; obtain rfl := he)
  have HZ := Lib.hid (show Blk ((w.alloc (.cells #[.int .i64 kd, txt s, .int .u64 n, .slice A l.length c, .slice B ks.length d] 79)).alloc (.cells #[.int .i64 0, .string ⟨#[]⟩, .int .u64 0, .slice none 0 0, .slice none 0 0] 79)) (w.heap.size + 1) ZV 79 by
   have := Blk.new (w.alloc (.cells #[.int .i64 kd, txt s, .int .u64 n, .slice A l.length c, .slice B ks.length d] 79)) ZV 79
   rw [show (w.alloc (.cells #[.int .i64 kd, txt s, .int .u64 n, .slice A l.length c, .slice B ks.length d] 79)).heap.size = w.heap.size + 1 by simp] at this
   exact this)
  by_cases h6 : kd = 6
  ·by_cases hlen : ks.length = l.length
   ·cases hi : idxK ks k with
    | none =>
     obtain rfl : x = -1 := by rw [HX.out, idxI, hi]
     have HNO := Lib.hid (show getB (.mk kd s n l ks) k = none by simp [getB, JV.kind, JV.keys, JV.list, h6, hlen, hi])
     have q6 : ((kd : Int) != 6) = false := by simp [h6]
     have ql : ((ks.length : Int) != (l.length : Int)) = false := by simp [hlen]
     have qx : decide ((-1 : Int) < 0) = true := by decide
     clear h6 hi hlen hjl h5 hc hk
     go_wp2_with (refine wpList_store_blk rfl 79 (.tmp 4) (.tmp 27) rfl rfl rfl rfl HZ.out rfl info79s rfl ?_; intro w2 hb2 ho2; have HB2 := Lib.hid hb2; have HO2 := Lib.hid ho2; clear hb2 ho2)
     refine bodyPost_ret (ret_cell_tmp rfl rfl HB2.out agg79 info79s) rfl ⟨?_, ?_⟩
     ·exact (((Only.refl (fun _ => False) w).alloc _).alloc _).then HO2.out (fun i hi e => by omega)
     ·rw [HNO.out]; rfl
    | some i =>
     have hil := idxK_lt hi
     obtain rfl : x = (i : Nat) := by rw [HX.out, idxI, hi]
     obtain ⟨u, hu⟩ : ∃ u, l[i]? = some u := ⟨l[i]'(by omega), List.getElem?_eq_getElem (by omega)⟩
     obtain ⟨b, o, rfl, hXb, hcell⟩ := hc i u hu
     have HNO := Lib.hid (show getB (.mk kd s n l ks) k = some u by simp [getB, JV.kind, JV.keys, JV.list, h6, hlen, hi, hu])
     have q6 : ((kd : Int) != 6) = false := by simp [h6]
     have ql : ((ks.length : Int) != (l.length : Int)) = false := by simp [hlen]
     have qx : decide (((i : Nat) : Int) < 0) = false := by simp
     have hil2 : i < l.length := by omega
     have H5 := Lib.hid (h5 i u hu)
     have HU := Lib.hid (hjl i u hu)
     have HRG := Lib.hid (show ∀ w' : World, Only (fun _ => False) w w' → w'.rangeAt b (o + i * 5) (cs i) from fun w' ho j v hv => by
      have := ho.cell (hcell j v hv) id
      rw [show o + i * 5 + j = o + (5 * i + j) by omega]
      exact this)
     have H1 := Lib.hid (show (cs i).all (·.oneCell') = true by obtain ⟨A1, c1, B1, d1, e⟩ := (hjl i u hu).form; rw [e]; rfl)
     clear h6 hi hlen hjl h5 hc hk hcell hu hXb
     go_wp2_with (first | (refine load79 rfl (.tmp 31) rfl rfl (HRG.out _ (((Only.refl (fun _ => False) w).alloc _).alloc _)) H5.out ?_) | (refine wpList_store_blk (cs := cs i) rfl 79 (.tmp 4) (.tmp 32) rfl rfl rfl rfl HZ.out H5.out.symm (by rw [List.size_toArray, H5.out]; exact info79s) H1.out ?_; intro w2 hb2 ho2; have HB2 := Lib.hid hb2; have HO2 := Lib.hid ho2; clear hb2 ho2))
     refine bodyPost_ret (ret_cell_tmp rfl rfl HB2.out agg79 (by rw [List.size_toArray, H5.out]; exact info79s)) rfl ⟨?_, ?_⟩
     ·exact (((Only.refl (fun _ => False) w).alloc _).alloc _).then HO2.out (fun i hi e => by omega)
     ·rw [HNO.out]
      refine ⟨_, rfl, ?_⟩
      have o2 : Only (fun _ => False) w w2 := (((Only.refl (fun _ => False) w).alloc _).alloc _).then HO2.out (fun i hi e => by omega)
      exact HU.out.keep o2
   ·have HNO := Lib.hid (show getB (.mk kd s n l ks) k = none by simp [getB, JV.kind, JV.keys, JV.list, hlen])
    have q6 : ((kd : Int) != 6) = false := by simp [h6]
    have ql : ((ks.length : Int) != (l.length : Int)) = true := by simp; omega
    clear h6 hlen hjl h5 hc hk
    go_wp2_with (refine wpList_store_blk rfl 79 (.tmp 4) (.tmp 27) rfl rfl rfl rfl HZ.out rfl info79s rfl ?_; intro w2 hb2 ho2; have HB2 := Lib.hid hb2; have HO2 := Lib.hid ho2; clear hb2 ho2)
    refine bodyPost_ret (ret_cell_tmp rfl rfl HB2.out agg79 info79s) rfl ⟨?_, ?_⟩
    ·exact (((Only.refl (fun _ => False) w).alloc _).alloc _).then HO2.out (fun i hi e => by omega)
    ·rw [HNO.out]; rfl
  ·have HNO := Lib.hid (show getB (.mk kd s n l ks) k = none by simp [getB, JV.kind, JV.keys, JV.list, h6])
   have q6 : ((kd : Int) != 6) = true := by simp; omega
   clear h6 hjl h5 hc hk
   go_wp2_with (refine wpList_store_blk rfl 79 (.tmp 4) (.tmp 27) rfl rfl rfl rfl HZ.out rfl info79s rfl ?_; intro w2 hb2 ho2; have HB2 := Lib.hid hb2; have HO2 := Lib.hid ho2; clear hb2 ho2)
   refine bodyPost_ret (ret_cell_tmp rfl rfl HB2.out agg79 info79s) rfl ⟨?_, ?_⟩
   ·exact (((Only.refl (fun _ => False) w).alloc _).alloc _).then HO2.out (fun i hi e => by omega)
   ·rw [HNO.out]; rfl
theorem step_append79 {ops : Array Oper} {o : Oper} {a : Act} {w : World} {K : Act → World → Prop} {Q : Exit → Act → World → Prop} {E : Prop} (hgd : o.guard = none) (s x : Operand)
  (ho : o.op = .call { callee := .builtin .append, args := #[s, x], argTypes := #[76, 76] }) {base : Nat} {v : Value} {n : Nat} {xs : List Value} (hs : a.eval s = v) (hown : w.ownsRow base 79 5 v n xs)
  {g0 c : Nat} (hx : a.eval x = .slice (some ⟨g0, 0, none⟩) 1 c) {news : List Value} {T : TypeId} (hB : Blk w g0 news T) (h5 : news.length = 5) (h1 : news.all (·.oneCell') = true) (hn : n ≤ 3000000) (hbase : base ≤ w.heap.size)
  (h : ∀ gg cap w', w'.ownsRow base 79 5 (.slice (some ⟨gg, 0, none⟩) (n + 1) cap) (n + 1) (xs ++ news) → w.grownBy w' v.ownBlock → (v.ownBlock = some gg ∨ gg = w.heap.size) → K (a.put o.dst (.slice (some ⟨gg, 0, none⟩) (n + 1) cap)) w') :
  if Region.wanted o (yielded ops a.tmps) = true then Oper.wp Tryz.prog o a w K Q else E := by
 obtain ⟨i0, hi, hz0, hz1, hz2⟩ := info_parts info79
 exact step_append_lies w hgd s x 76 ho base 79 i0 _ 5 80 under76 hi hz0 hz1 hz2 rfl (by decide) v n xs hs hown ⟨g0, 0, none⟩ 1 c news hx (by simpa using h5) (news_of hB) (by simpa using h1) (by decide) (by unfold maxLen; omega) (by omega) hbase _ rfl (fun g cap w' h1 h2 h3 _ => h g cap w' h1 h2 h3)
theorem PStk.fresh_ne {B sb n cap gg : Nat} {w : World} {fs : List FM} {t : FM} {o : Obj} (h : PStk B w (fs ++ [t]) (.slice (some ⟨sb, 0, none⟩) n cap)) (ha : t.vl.ownBlock = some gg ∨ gg = (w.alloc o).heap.size) : ¬ gg = sb := by
 rintro rfl
 have hs : gg ∈ blocksOf (.slice (some ⟨gg, 0, none⟩) n cap) (fs ++ [t]) := mem_blocks.2 (.inl rfl)
 rcases ha with e | e
 ·have nd := h.nodup
  rw [blocksOf_snoc, List.nodup_append] at nd
  exact nd.2.2 gg (mem_blocks.2 (.inl rfl)) gg (mem_blocks1.2 (.inl e)) rfl
 ·have := (h.lt hs).2
  simp at e
  omega
theorem setCell_comm (w : World) {a b : Addr} (h : a.block ≠ b.block) (u v : Value) : (w.setCell a u).setCell b v = (w.setCell b v).setCell a u := by
 unfold World.setCell
 simp only [World.mk.injEq, true_and, and_true]
 apply Array.ext'
 simp only [Array.toList_modify]
 apply List.ext_getElem?
 intro i
 simp only [List.getElem?_modify]
 by_cases h1 : a.block = i
 ·have : ¬ b.block = i := fun e => h (h1.trans e.symm)
  simp [h1, this]
 ·simp [h1]
theorem setCells_comm (vs : List Value) : ∀ (w : World) {a : Addr} {g : Nat} (h : a.block ≠ g) (u : Value) (o : Nat), (w.setCell a u).setCells g o vs = (w.setCells g o vs).setCell a u := by
 induction vs with
 | nil => intro w a g h u o; rfl
 | cons v r ih =>
  intro w a g h u o
  show ((w.setCell a u).setCell ⟨g, o, none⟩ v).setCells g (o + 1) r = ((w.setCell ⟨g, o, none⟩ v).setCells g (o + 1) r).setCell a u
  rw [setCell_comm w (b := ⟨g, o, none⟩) h u v, ih _ h]
theorem PMid.drew {w0 : World} {A : Option Addr} {c : Nat} {l r : Bytes} {s : Nat} {fs : List FM} {vs : Value} {vc : List Value} {w : World} (h : PMid w0 A c l s r fs vs vc w) : PMid w0 A c l s r fs vs vc w.drew :=
 ⟨h.rs.only (Only.refl (fun _ => False) w).drew id (fun _ _ _ _ => id), h.res, h.vblk, h.vlen, h.stk.keep (Only.refl (fun _ => False) w).drew (fun _ _ h => h.elim), h.only.drew, h.low, h.few, h.room⟩
theorem PMid.addVal {w0 : World} {A : Option Addr} {c : Nat} {l r : Bytes} {fs : List FM} {t : FM} {vc : List Value} {w w5 : World} {sb n cap gg cap' : Nat} {o : Obj} {v : JV} (h : PMid w0 A c l 1 r (fs ++ [t]) (.slice (some ⟨sb, 0, none⟩) n cap) vc w)
  (hj : JIs (XV w0 (fs ++ [t]) (.slice (some ⟨sb, 0, none⟩) n cap)) w v vc)
  (o5 : w5.ownsRow (w0.heap.size + 3) 79 5 (.slice (some ⟨gg, 0, none⟩) (t.fr.list.length + 1) cap') (t.fr.list.length + 1) (t.xs ++ [.int .i64 0, .string ⟨#[]⟩, .int .u64 0, .slice none 0 0, .slice none 0 0])) (g5 : (w.alloc o).grownBy w5 t.vl.ownBlock) (hat : t.vl.ownBlock = some gg ∨ w.heap.size ≤ gg) :
  PMid w0 A c l 0 r (fs ++ [{ t with fr := { t.fr with list := t.fr.list ++ [v] }, vl := .slice (some ⟨gg, 0, none⟩) (t.fr.list.length + 1) cap', xs := t.xs ++ vc }]) (.slice (some ⟨sb, 0, none⟩) n cap) vc
   ((w5.setCells gg (t.fr.list.length * 5) vc).setCell ⟨sb, 5 * fs.length + 3, none⟩ (.slice (some ⟨gg, 0, none⟩) (t.fr.list.length + 1) cap')) := by
 have hmem : t ∈ fs ++ [t] := by simp
 have hsb := (h.stk.lt (b := sb) (mem_blocks.2 (.inl rfl))).1
 have hlt : ∀ b, t.vl.ownBlock = some b → w0.heap.size + 3 ≤ b := fun b hb => (World.ownsRow.lt (h.stk.list t hmem) b hb).1
 have h1 : Only (fun b => t.vl.ownBlock = some b) w w5 := ((Only.refl (fun b => t.vl.ownBlock = some b) w).alloc o).trans (Only.ofGrown g5)
 have h2 : Only (fun b => t.vl.ownBlock = some b) w (w5.setCells gg (t.fr.list.length * 5) vc) := Only.setCells vc h1 (fun hg => by rcases hat with e | e; exact e; omega) _
 have hx := (h.stk.list t hmem).1
 have hvl := h.vlen
 have h3 := own_setCells vc o5 (t.fr.list.length * 5) (by rw [List.length_append, hx]; simp [hvl])
 rw [← hx, setList_append vc t.xs _ (by rw [hvl]; rfl), hx] at h3
 have h4 : Only (fun b => w0.heap.size + 3 ≤ b) w ((w5.setCells gg (t.fr.list.length * 5) vc).setCell ⟨sb, 5 * fs.length + 3, none⟩ (.slice (some ⟨gg, 0, none⟩) (t.fr.list.length + 1) cap')) :=
  (h2.mono (fun b _ hb => hlt b hb)).setCell (fun _ => hsb) _
 refine ⟨h.rs.only h4 (by omega) (fun b o e hl e2 => by have := h.low b o e hl; omega), h.res.only h4 (by omega), h.vblk.only h4 (by omega), h.vlen, h.stk.addVal hj h3 h2 hat, h.only.then h4 (fun i hi e => by omega), h.low, by have := h.few; simpa using this, ?_⟩
 intro t0 h0
 rcases List.mem_append.1 h0 with h0 | h0
 ·have := h.room t0 (List.mem_append.2 (.inl h0)); omega
 ·rw [List.mem_singleton.1 h0]
  have := h.room t hmem
  simp; omega
theorem PMid.addVal5 {w0 : World} {A : Option Addr} {c : Nat} {l r : Bytes} {fs : List FM} {t : FM} {a0 a1 a2 a3 a4 : Value} {w w5 w' : World} {sb n cap gg cap' : Nat} {o : Obj} {v : JV} (h : PMid w0 A c l 1 r (fs ++ [t]) (.slice (some ⟨sb, 0, none⟩) n cap) [a0, a1, a2, a3, a4] w)
  (hj : JIs (XV w0 (fs ++ [t]) (.slice (some ⟨sb, 0, none⟩) n cap)) w v [a0, a1, a2, a3, a4])
  (o5 : w5.ownsRow (w0.heap.size + 3) 79 5 (.slice (some ⟨gg, 0, none⟩) (t.fr.list.length + 1) cap') (t.fr.list.length + 1) (t.xs ++ [.int .i64 0, .string ⟨#[]⟩, .int .u64 0, .slice none 0 0, .slice none 0 0])) (g5 : (w.drew.alloc o).grownBy w5 t.vl.ownBlock) (hat : t.vl.ownBlock = some gg ∨ w.heap.size ≤ gg) (hgs : ¬ gg = sb)
  (hw : w' = (((((w5.setCell ⟨gg, t.fr.list.length * 5, none⟩ a0).setCell ⟨gg, t.fr.list.length * 5 + 1, none⟩ a1).setCell ⟨gg, t.fr.list.length * 5 + 2, none⟩ a2).setCell ⟨gg, t.fr.list.length * 5 + 3, none⟩ a3).setCell ⟨gg, t.fr.list.length * 5 + 4, none⟩ a4).setCell ⟨sb, fs.length * 5 + 3, none⟩ (.slice (some ⟨gg, 0, none⟩) (t.fr.list.length + 1) cap') ∨
   w' = (((((w5.setCell ⟨sb, fs.length * 5 + 3, none⟩ (.slice (some ⟨gg, 0, none⟩) (t.fr.list.length + 1) cap')).setCell ⟨gg, t.fr.list.length * 5, none⟩ a0).setCell ⟨gg, t.fr.list.length * 5 + 1, none⟩ a1).setCell ⟨gg, t.fr.list.length * 5 + 2, none⟩ a2).setCell ⟨gg, t.fr.list.length * 5 + 3, none⟩ a3).setCell ⟨gg, t.fr.list.length * 5 + 4, none⟩ a4) :
  PMid w0 A c l 0 r (fs ++ [{ t with fr := { t.fr with list := t.fr.list ++ [v] }, vl := .slice (some ⟨gg, 0, none⟩) (t.fr.list.length + 1) cap', xs := t.xs ++ [a0, a1, a2, a3, a4] }]) (.slice (some ⟨sb, 0, none⟩) n cap) [a0, a1, a2, a3, a4] w' := by
 have hfin := h.drew.addVal (hj.only (Only.refl (fun _ => False) w).drew (fun b _ hx => ⟨id, hx⟩)) o5 g5 hat
 rw [Nat.mul_comm 5 fs.length] at hfin
 have hcomm := setCells_comm [a0, a1, a2, a3, a4] w5 (a := ⟨sb, fs.length * 5 + 3, none⟩) (g := gg) (fun e => hgs e.symm) (.slice (some ⟨gg, 0, none⟩) (t.fr.list.length + 1) cap') (t.fr.list.length * 5)
 have hfin2 := hfin
 rw [← hcomm] at hfin2
 rcases hw with rfl | rfl
 ·exact hfin
 ·exact hfin2
set_option maxRecDepth 100000 in
set_option maxHeartbeats 12800000 in
theorem parse_behind {w0 : World} {A : Option Addr} {c : Nat} {l : Bytes} {T : Option JV} : Seg61 w0 A c l T 3 := by
 rintro n a w ⟨hd, hs, h0, h2, h4, h7, r, fs, v, vc, hm, hj, hn, hT⟩ fall
 obtain ⟨f, hf, rfl⟩ := frame220 a hd hs
 refine ⟨_, rfl, ?_⟩
 rw [← hf] at h0 h2 h4 h7
 rw [h0, h2, h4, h7]
 rw [← hf] at hm hj
 obtain ⟨vs, hvs⟩ : ∃ vs, vs = f 5 := ⟨_, rfl⟩
 rw [← hvs] at hm hj ⊢
 clear hf hd hs h0 h2 h4 h7 hvs
 have HT := Lib.hid hT
 have HN := Lib.hid hn
 have HM := Lib.hid hm
 have HJ := Lib.hid hj
 have FALL := Lib.hid fall
 clear hT hn hj fall
 have hl8 := hm.few
 have hown := hm.stk.own
 clear hm
 obtain ⟨A1, c1, B1, d1, rfl⟩ := HJ.out.form
 rcases List.eq_nil_or_concat fs with rfl | ⟨fs, t, rfl⟩
 ·obtain ⟨A5, c5, rfl⟩ := own_form hown
  clear hown hl8
  obtain ⟨y, hs⟩ : ∃ y, skipB r = y := ⟨_, rfl⟩
  have HS := Lib.hid hs
  have HSL := Lib.hid (show y.length ≤ r.length by rw [← hs]; exact skipB_length r)
  clear hs
  have HT2 := Lib.hid (show (if y = [] then some v else none) = T by rw [← HT.out, ← HS.out]; rfl)
  cases y with
  | nil =>
   go_upto_region 30 with (go_at_call 80; refine (next_any HM.out.rs).mono ?_; rintro e w6 ⟨he, hr1, ho1⟩; rw [HS.out] at he hr1; obtain rfl := he; have hm6 := HM.out.call (s' := 0) hr1 ho1 (by have := HSL.out; omega); obtain ⟨i, hi, hdr, c0, c1', f1, hj, hl⟩ := hm6.at; have hil : l.length ≤ i := List.drop_eq_nil_iff.1 hdr; have hdec : decide (i < l.length) = false := (by simp; omega); have HM6 := Lib.hid hm6; have hj6 := HJ.out.far ho1 (fun b hx e => by have := hx.1; omega); have HJ6 := Lib.hid hj6; clear ho1 hr1 hm6 hi hdr hj6)
   go_wp2_with (first | (refine wpList_load_blk (cs := cells5 v.kind v.str v.num (.slice A1 v.list.length c1) (.slice B1 v.keys.length d1)) rfl 79 (.tmp 7) rfl rfl HM6.out.vblk agg79 info79s ?_) | (refine wpList_store_blk (cs := cells5 v.kind v.str v.num (.slice A1 v.list.length c1) (.slice B1 v.keys.length d1)) rfl 79 (.tmp 2) (.tmp 139) rfl rfl rfl rfl HM6.out.res rfl info79s rfl ?_; intro w7 hb7 ho7; have HB7 := Lib.hid hb7; have HO7 := Lib.hid ho7; clear hb7 ho7))
   refine jumpsBelow_ret ?_
   unfold Q61
   refine bodyPost_ret (ret_cell_tmp rfl rfl HB7.out agg79 info79s) rfl ⟨?_, ?_⟩
   ·exact HM6.out.only.then HO7.out (fun i hi e => by omega)
   ·rw [← HT2.out]
    refine ⟨_, rfl, HJ6.out.only HO7.out (fun b _ hx => ⟨fun e => by have := hx.1; omega, by have := hx.1; omega⟩)⟩
  | cons x q =>
   go_wp2_with (go_at_call 80; refine (next_any HM.out.rs).mono ?_; rintro e w6 ⟨he, hr1, ho1⟩; rw [HS.out] at he hr1; obtain rfl := he; have hm6 := HM.out.call (s' := 0) hr1 ho1 (by have := HSL.out; omega); obtain ⟨i, hi, hdr, c0, c1', f1, hj, hl⟩ := hm6.at; have hil : i < l.length := (by have := congrArg List.length hdr; simp at this; omega); have hdec : decide (i < l.length) = true := (by simp; omega); have HM6 := Lib.hid hm6; clear ho1 hr1 hm6 hi hdr)
   go_step3
   refine jumpsBelow_goto (Q := Q61 w0 T) 0 (by rw [HN.out]; omega) ⟨rfl, rfl, rfl, rfl, rfl, rfl, HM6.out.res, HM6.out.only, ?_⟩
   rw [← HT2.out]; rfl
 ·rw [List.concat_eq_append] at *
  clear hown
  obtain ⟨sb, cap, rfl, hsb⟩ := HM.out.stk.top
  have hl8' : fs.length + 1 ≤ 8 := by simpa using hl8
  obtain ⟨⟨kd, L, K⟩, vl, vk, xs⟩ := t
  obtain ⟨Al, cl, rfl⟩ : ∃ Al cl, vl = .slice Al L.length cl := own_form (HM.out.stk.list _ (List.mem_append.2 (.inr (List.mem_singleton.2 rfl))))
  have hcl := HM.out.stk.topCells.1 3 (.slice Al L.length cl) rfl
  rw [Nat.mul_comm 5 fs.length] at hcl
  obtain ⟨⟨b0, b1, b2, b3, b4⟩, _⟩ := (show Blk w (w0.heap.size + 2) [.int .i64 v.kind, txt v.str, .int .u64 v.num, .slice A1 v.list.length c1, .slice B1 v.keys.length d1] 79 from HM.out.vblk).five5
  clear hl8
  unfold txt at b1
  go_upto_region 32 with (fail)
  have hlL : L.length ≤ 3000000 := by have := (HM.out.room _ (List.mem_append.2 (.inr (List.mem_singleton.2 rfl)))).1; simp only at this; omega
  have hv1 : ¬ w0.heap.size + 2 = w.heap.size := by have := HM.out.vblk.lt; omega
  have hv2 : ¬ w.heap.size = w0.heap.size + 2 := by omega
  have hv3 : w0.heap.size + 2 < w.heap.size := HM.out.vblk.lt
  have hs3 : sb < w.heap.size := (HM.out.stk.lt (mem_blocks.2 (.inl rfl))).2
  have hs1 : ¬ sb = w.heap.size := by omega
  have hs2 : ¬ w.heap.size = sb := by omega
  have hlt1 : (L.length : Int) < (L.length : Int) + 1 := by omega
  have hbb : w0.heap.size + 3 ≤ w.heap.size := by have := HM.out.vblk.lt; omega
  obtain ⟨R, hR⟩ : ∃ R : Act → World → Prop, R = (fun a' w' => a'.defers = [] ∧ a'.tmps.size = 220 ∧ a'.tmps.getD 0 undef = .slice A l.length c ∧ a'.tmps.getD 2 undef = .pointer (some ⟨w0.heap.size, 0, none⟩) ∧ a'.tmps.getD 4 undef = .pointer (some ⟨w0.heap.size + 1, 0, none⟩) ∧
   a'.tmps.getD 7 undef = .pointer (some ⟨w0.heap.size + 2, 0, none⟩) ∧ a'.tmps.getD 5 undef = .slice (some ⟨sb, 0, none⟩) (fs.length + 1) cap ∧ a'.tmps.getD 6 undef = .pointer (some ⟨sb, fs.length * 5, none⟩) ∧
   ∃ gg cap5 w5, w5.ownsRow (w0.heap.size + 3) 79 5 (.slice (some ⟨gg, 0, none⟩) (L.length + 1) cap5) (L.length + 1) (xs ++ [.int .i64 0, .string ⟨#[]⟩, .int .u64 0, .slice none 0 0, .slice none 0 0]) ∧ (∃ o, (w.drew.alloc o).grownBy w5 (Value.slice Al L.length cl).ownBlock) ∧
    ((Value.slice Al L.length cl).ownBlock = some gg ∨ w.heap.size ≤ gg) ∧ (w' = (((((w5.setCell ⟨gg, L.length * 5, none⟩ (.int .i64 v.kind)).setCell ⟨gg, L.length * 5 + 1, none⟩ (.string ⟨v.str.toArray⟩)).setCell ⟨gg, L.length * 5 + 2, none⟩ (.int .u64 v.num)).setCell ⟨gg, L.length * 5 + 3, none⟩ (.slice A1 v.list.length c1)).setCell ⟨gg, L.length * 5 + 4, none⟩ (.slice B1 v.keys.length d1)).setCell ⟨sb, fs.length * 5 + 3, none⟩ (.slice (some ⟨gg, 0, none⟩) (L.length + 1) cap5) ∨
     w' = (((((w5.setCell ⟨sb, fs.length * 5 + 3, none⟩ (.slice (some ⟨gg, 0, none⟩) (L.length + 1) cap5)).setCell ⟨gg, L.length * 5, none⟩ (.int .i64 v.kind)).setCell ⟨gg, L.length * 5 + 1, none⟩ (.string ⟨v.str.toArray⟩)).setCell ⟨gg, L.length * 5 + 2, none⟩ (.int .u64 v.num)).setCell ⟨gg, L.length * 5 + 3, none⟩ (.slice A1 v.list.length c1)).setCell ⟨gg, L.length * 5 + 4, none⟩ (.slice B1 v.keys.length d1))) := ⟨_, rfl⟩
  have HR := Lib.hid hR
  clear hR
  rename_i KK hK
  have REST : Hid (∀ a' w', R a' w' → KK a' w') := by
   show ∀ a' w', R a' w' → KK a' w'
   intro a' w' hR
   rw [HR.out] at hR
   obtain ⟨hd', hs', h0', h2', h4', h7', h5', h6', gg, cap5, w5, o5, ⟨o, g5⟩, a5, hw⟩ := hR
   obtain ⟨f', hf', rfl⟩ := frame220 a' hd' hs'
   rw [← hf'] at h0' h2' h4' h7' h5' h6'
   have hm2 := HM.out.addVal5 HJ.out o5 g5 a5 (by rintro rfl; have nd := HM.out.stk.nodup; rcases a5 with e | e; (rw [blocksOf_snoc, List.nodup_append] at nd; exact nd.2.2 gg (mem_blocks.2 (.inl rfl)) gg (mem_blocks1.2 (.inl e)) rfl); exact absurd e (by omega)) hw
   have HM2 := Lib.hid hm2
   refine hK _ _ ?_
   rw [h0', h2', h4', h7', h5', h6']
   clear hK HM HJ hm2 hw o5 g5 a5 hd' hs' h0' h2' h4' h7' h5' h6' hf' hcl b0 b1 b2 b3 b4 HR hv1 hv2 hv3 hs1 hs2 hs3
   obtain ⟨y, hs⟩ : ∃ y, skipB r = y := ⟨_, rfl⟩
   have HS := Lib.hid hs
   have HSL := Lib.hid (show y.length ≤ r.length by rw [← hs]; exact skipB_length r)
   clear hs
   obtain ⟨z, hz⟩ : ∃ z : Int, z = headI y := ⟨_, rfl⟩
   have HZ := Lib.hid hz
   have HY := Lib.hid (show ∀ x : UInt8, z = (x.toNat : Nat) → z ≠ 0 → ∃ q, y = x :: q by
    intro x hx h0
    rw [hz] at hx h0
    cases y with
    | nil => exact absurd rfl h0
    | cons x' q =>
     simp only [headI] at hx
     exact ⟨q, by rw [UInt8.toNat_inj.1 (show x'.toNat = x.toNat by omega)]⟩)
   have HNH := Lib.hid (show ∀ x : UInt8, z ≠ (x.toNat : Nat) → (skipB r).head? ≠ some x by
    intro x hx e
    rw [HS.out] at e
    rw [hz] at hx
    cases y with
    | nil => cases e
    | cons x' q => cases e; exact hx rfl)
   clear hz
   have hok := HM2.out.stk.kind _ (List.mem_append.2 (.inr (List.mem_singleton.2 rfl)))
   have hok' : kd = 5 ∨ kd = 6 := hok
   clear hok
   by_cases z44 : z = 44
   ·have q44 : (z == 44) = true := by simp [z44]
    obtain ⟨q, rfl⟩ := HY.out 44 z44 (by omega)
    clear z44
    rcases hok' with rfl | rfl
    ·go_wp2_with (go_at_call 80; refine (next_any HM2.out.rs).mono ?_; rintro e w6 ⟨he, hr1, ho1⟩; rw [HS.out, ← HZ.out] at he; rw [HS.out] at hr1; obtain rfl := he; have hm6 := HM2.out.call (s' := 0) hr1 ho1 (by have := HSL.out; omega); have kk := hm6.stk.topCells.1 0 _ rfl; rw [Nat.add_zero, Nat.mul_comm 5 fs.length] at kk; obtain ⟨i, hi, hdr, c0, c1', f1, hj, hl⟩ := hm6.at; have HDR := Lib.hid hdr; have HI := Lib.hid hi; have HM6 := Lib.hid hm6; clear ho1 hr1 hm6 hi hdr)
     have HNX := Lib.hid (HM6.out.next HI.out HDR.out (s' := 0) (by omega))
     go_step3
     refine jumpsBelow_goto (Q := Q61 w0 T) (10 * q.length + 9) (by rw [HN.out]; have := HSL.out; simp at this; omega) ⟨rfl, rfl, rfl, rfl, rfl, rfl, q, _, _, HNX.out, rfl, ?_⟩
     rw [← HT.out, frs_snoc, frs_snoc, ans_comma5 rfl HS.out, List.length_append, List.length_singleton, frs_length]
    ·go_wp2_with (go_at_call 80; refine (next_any HM2.out.rs).mono ?_; rintro e w6 ⟨he, hr1, ho1⟩; rw [HS.out, ← HZ.out] at he; rw [HS.out] at hr1; obtain rfl := he; have hm6 := HM2.out.call (s' := 0) hr1 ho1 (by have := HSL.out; omega); have kk := hm6.stk.topCells.1 0 _ rfl; rw [Nat.add_zero, Nat.mul_comm 5 fs.length] at kk; obtain ⟨i, hi, hdr, c0, c1', f1, hj, hl⟩ := hm6.at; have HDR := Lib.hid hdr; have HI := Lib.hid hi; have HM6 := Lib.hid hm6; clear ho1 hr1 hm6 hi hdr)
     have HNX := Lib.hid (HM6.out.next HI.out HDR.out (s' := 0) (by omega))
     go_step3
     refine jumpsBelow_goto (Q := Q61 w0 T) (10 * q.length + 7) (by rw [HN.out]; have := HSL.out; simp at this; omega) ⟨rfl, rfl, rfl, rfl, rfl, rfl, q, fs, _, _, sb, cap, HNX.out, rfl, ?_, rfl, rfl, ?_⟩
     ·simp [Nat.mul_comm]
     ·rw [← HT.out, frs_snoc, ans_comma6 rfl HS.out, frs_length]
   have q44 : (z == 44) = false := by rw [beq_eq_false_iff_ne]; exact z44
   have H44 := Lib.hid z44
   clear z44
   by_cases hsh : (z = 93 ∧ kd = 5) ∨ (z = 125 ∧ kd = 6)
   ·have hq : (∃ q, y = (Fr.mk kd (L ++ [v]) K).shut :: q) := by
     rcases hsh with ⟨e, rfl⟩ | ⟨e, rfl⟩
     ·exact HY.out 93 e (by omega)
     ·exact HY.out 125 e (by omega)
    obtain ⟨q, hq⟩ := hq
    have HQ := Lib.hid hq
    clear hq hok'
    rcases hsh with ⟨e, rfl⟩ | ⟨e, rfl⟩
    ·have q93 : (z == 93) = true := by simp [e]
     clear e
     go_wp2_with (go_at_call 80; refine (next_any HM2.out.rs).mono ?_; rintro e w6 ⟨he, hr1, ho1⟩; rw [HS.out, ← HZ.out] at he; rw [HS.out] at hr1; obtain rfl := he; have hm6 := HM2.out.call (s' := 0) hr1 ho1 (by have := HSL.out; omega); have kk := hm6.stk.topCells.1 0 _ rfl; rw [Nat.add_zero, Nat.mul_comm 5 fs.length] at kk; obtain ⟨i, hi, hdr, c0, c1', f1, hj, hl⟩ := hm6.at; have HDR := Lib.hid hdr; have HI := Lib.hid hi; have HM6 := Lib.hid hm6; clear ho1 hr1 hm6 hi hdr)
     go_step3
     have hm7 := HM6.out
     rw [HQ.out] at hm7
     refine jumpsBelow_goto (Q := Q61 w0 T) (10 * q.length + 14) (by rw [HN.out]; have := HSL.out; have h2 := congrArg List.length HQ.out; simp at h2; omega) ⟨rfl, rfl, rfl, rfl, rfl, rfl, _, q, fs, _, _, sb, cap, hm7, rfl, ?_, rfl, ?_⟩
     ·simp [Nat.mul_comm]
     ·rw [← HT.out, frs_snoc]; exact (ans_end (t := ⟨5, L, K⟩) (HS.out.trans HQ.out)).symm
    ·have q125 : (z == 125) = true := by simp [e]
     have q93 : (z == 93) = false := by simp [e]
     clear e
     go_wp2_with (go_at_call 80; refine (next_any HM2.out.rs).mono ?_; rintro e w6 ⟨he, hr1, ho1⟩; rw [HS.out, ← HZ.out] at he; rw [HS.out] at hr1; obtain rfl := he; have hm6 := HM2.out.call (s' := 0) hr1 ho1 (by have := HSL.out; omega); have kk := hm6.stk.topCells.1 0 _ rfl; rw [Nat.add_zero, Nat.mul_comm 5 fs.length] at kk; obtain ⟨i, hi, hdr, c0, c1', f1, hj, hl⟩ := hm6.at; have HDR := Lib.hid hdr; have HI := Lib.hid hi; have HM6 := Lib.hid hm6; clear ho1 hr1 hm6 hi hdr)
     go_step3
     have hm7 := HM6.out
     rw [HQ.out] at hm7
     refine jumpsBelow_goto (Q := Q61 w0 T) (10 * q.length + 14) (by rw [HN.out]; have := HSL.out; have h2 := congrArg List.length HQ.out; simp at h2; omega) ⟨rfl, rfl, rfl, rfl, rfl, rfl, _, q, fs, _, _, sb, cap, hm7, rfl, ?_, rfl, ?_⟩
     ·simp [Nat.mul_comm]
     ·rw [← HT.out, frs_snoc]; exact (ans_end (t := ⟨6, L, K⟩) (HS.out.trans HQ.out)).symm
   have HANS := Lib.hid (show T = none by
    rw [← HT.out, frs_snoc]
    refine ans_none ?_ (HNH.out 44 H44.out)
    rcases hok' with rfl | rfl
    ·exact HNH.out 93 (fun e => hsh (.inl ⟨e, rfl⟩))
    ·exact HNH.out 125 (fun e => hsh (.inr ⟨e, rfl⟩)))
   have hcase : (kd = 5 ∧ (z == 93) = false ∧ (z == 125) = true) ∨ (kd = 5 ∧ (z == 93) = false ∧ (z == 125) = false) ∨ (kd = 6 ∧ (z == 93) = true ∧ (z == 125) = false) ∨ (kd = 6 ∧ (z == 93) = false ∧ (z == 125) = false) := by
    by_cases e1 : z = 93
    ·have e2 : ¬ z = 125 := by omega
     rcases hok' with rfl | rfl
     ·exact absurd (.inl ⟨e1, rfl⟩) hsh
     ·right; right; left; exact ⟨rfl, by simp [e1], by simp [e1]⟩
    ·by_cases e2 : z = 125
     ·rcases hok' with rfl | rfl
      ·left; exact ⟨rfl, by simp [e2], by simp [e2]⟩
      ·exact absurd (.inr ⟨e2, rfl⟩) hsh
     ·rcases hok' with rfl | rfl
      ·right; left; exact ⟨rfl, by rw [beq_eq_false_iff_ne]; exact e1, by rw [beq_eq_false_iff_ne]; exact e2⟩
      ·right; right; right; exact ⟨rfl, by rw [beq_eq_false_iff_ne]; exact e1, by rw [beq_eq_false_iff_ne]; exact e2⟩
   clear hsh hok'
   rcases hcase with ⟨rfl, q93, q125⟩ | ⟨rfl, q93, q125⟩ | ⟨rfl, q93, q125⟩ | ⟨rfl, q93, q125⟩
   all_goals
    go_wp2_with (go_at_call 80; refine (next_any HM2.out.rs).mono ?_; rintro e w6 ⟨he, hr1, ho1⟩; rw [HS.out, ← HZ.out] at he; rw [HS.out] at hr1; obtain rfl := he; have hm6 := HM2.out.call (s' := 0) hr1 ho1 (by have := HSL.out; omega); have kk := hm6.stk.topCells.1 0 _ rfl; rw [Nat.add_zero, Nat.mul_comm 5 fs.length] at kk; obtain ⟨i, hi, hdr, c0, c1', f1, hj, hl⟩ := hm6.at; have HDR := Lib.hid hdr; have HI := Lib.hid hi; have HM6 := Lib.hid hm6; clear ho1 hr1 hm6 hi hdr)
    go_step3
    rename_i hK2
    refine hK2 _ _ ?_
    refine Seg.code (FALL.out 2 0 _ _ (by rw [HN.out]; omega) ?_) rfl
    exact ⟨rfl, rfl, rfl, rfl, rfl, rfl, HM6.out.res, HM6.out.only, HANS.out⟩
  clear HN HT HJ
  go_region_law (first | (refine step_append79 (by rfl) _ _ (by rfl) (by rfl) ((HM.out.stk.list _ (List.mem_append.2 (.inr (List.mem_singleton.2 rfl)))).alloc _) (by rfl) (Blk.new _ [.int .i64 0, .string ⟨#[]⟩, .int .u64 0, .slice none 0 0, .slice none 0 0] _) (by rfl) (by rfl) hlL (by simp; omega) ?_; intro gg cap5 w5 o5 g5 a5; have htp := HM.out.stk.topAfter (((Only.refl (fun b => (Value.slice Al L.length cl).ownBlock = some b) w).alloc (.cells #[.int .i64 0, .string ⟨#[]⟩, .int .u64 0, .slice none 0 0, .slice none 0 0] 79)).trans (Only.ofGrown (show (w.alloc _).grownBy w5 _ from ⟨g5.os, g5.tape, g5.output, g5.size, g5.block⟩))) (fun b hb => .inl (mem_blocks1.2 (.inl hb))); have k3 := htp.1 3 _ rfl; have f3 := (htp.2 3 (by decide)).2; rw [Nat.mul_comm 5 fs.length] at k3 f3; have hth := own_there o5 (L.length * 5) 5 (by rw [List.length_append, (HM.out.stk.list _ (List.mem_append.2 (.inr (List.mem_singleton.2 rfl)))).1]; exact Nat.le_refl _); have hrg := own_range o5 (L.length * 5) 5; have hgs : ¬ gg = sb := HM.out.stk.fresh_ne a5; have hgs' : ¬ sb = gg := fun e => hgs e.symm; obtain ⟨e0, e1⟩ := hth 0 (by decide); obtain ⟨e2, e3⟩ := hth 1 (by decide); obtain ⟨e4, e5⟩ := hth 2 (by decide); obtain ⟨e6, e7⟩ := hth 3 (by decide); obtain ⟨e8, e9⟩ := hth 4 (by decide); rw [Option.isSome_iff_exists] at e0 e2 e4 e6 e8; obtain ⟨x0, e0⟩ := e0; obtain ⟨x2, e2⟩ := e2; obtain ⟨x4, e4⟩ := e4; obtain ⟨x6, e6⟩ := e6; obtain ⟨x8, e8⟩ := e8; rw [Nat.add_zero] at e0 e1; have HO5 := Lib.hid o5; have HG5 := Lib.hid g5; have HA5 := Lib.hid a5; clear o5 g5 a5 htp hth hrg))
  ·refine REST.out _ _ ?_
   rw [HR.out]
   refine ⟨rfl, rfl, rfl, rfl, rfl, rfl, rfl, rfl, gg, cap5, w5, ?_, ?_, ?_, Or.inl rfl⟩
   ·exact HO5.out
   ·exact ⟨_, HG5.out⟩
   ·have h5 := HA5.out
    clear hK REST
    rcases h5 with e | e
    ·exact .inl e
    ·right
     simp at e
     omega
  ·refine REST.out _ _ ?_
   rw [HR.out]
   refine ⟨rfl, rfl, rfl, rfl, rfl, rfl, rfl, rfl, gg, cap5, w5, ?_, ?_, ?_, Or.inr rfl⟩
   ·exact HO5.out
   ·exact ⟨_, HG5.out⟩
   ·have h5 := HA5.out
    clear hK REST
    rcases h5 with e | e
    ·exact .inl e
    ·right
     simp at e
     omega
  ·refine REST.out _ _ ?_
   rw [HR.out]
   refine ⟨rfl, rfl, rfl, rfl, rfl, rfl, rfl, rfl, gg, cap5, w5, ?_, ?_, ?_, Or.inl rfl⟩
   ·exact HO5.out
   ·exact ⟨_, HG5.out⟩
   ·have h5 := HA5.out
    clear hK REST
    rcases h5 with e | e
    ·exact .inl e
    ·right
     simp at e
     omega
  ·refine REST.out _ _ ?_
   rw [HR.out]
   refine ⟨rfl, rfl, rfl, rfl, rfl, rfl, rfl, rfl, gg, cap5, w5, ?_, ?_, ?_, Or.inr rfl⟩
   ·exact HO5.out
   ·exact ⟨_, HG5.out⟩
   ·have h5 := HA5.out
    clear hK REST
    rcases h5 with e | e
    ·exact .inl e
    ·right
     simp at e
     omega
  ·refine REST.out _ _ ?_
   rw [HR.out]
   refine ⟨rfl, rfl, rfl, rfl, rfl, rfl, rfl, rfl, gg, cap5, w5, ?_, ?_, ?_, Or.inl rfl⟩
   ·exact HO5.out
   ·exact ⟨_, HG5.out⟩
   ·have h5 := HA5.out
    clear hK REST
    rcases h5 with e | e
    ·exact .inl e
    ·right
     simp at e
     omega
  ·refine REST.out _ _ ?_
   rw [HR.out]
   refine ⟨rfl, rfl, rfl, rfl, rfl, rfl, rfl, rfl, gg, cap5, w5, ?_, ?_, ?_, Or.inr rfl⟩
   ·exact HO5.out
   ·exact ⟨_, HG5.out⟩
   ·have h5 := HA5.out
    clear hK REST
    rcases h5 with e | e
    ·exact .inl e
    ·right
     simp at e
     omega
  ·refine REST.out _ _ ?_
   rw [HR.out]
   refine ⟨rfl, rfl, rfl, rfl, rfl, rfl, rfl, rfl, gg, cap5, w5, ?_, ?_, ?_, Or.inl rfl⟩
   ·exact HO5.out
   ·exact ⟨_, HG5.out⟩
   ·have h5 := HA5.out
    clear hK REST
    rcases h5 with e | e
    ·exact .inl e
    ·right
     simp at e
     omega
  ·refine REST.out _ _ ?_
   rw [HR.out]
   refine ⟨rfl, rfl, rfl, rfl, rfl, rfl, rfl, rfl, gg, cap5, w5, ?_, ?_, ?_, Or.inr rfl⟩
   ·exact HO5.out
   ·exact ⟨_, HG5.out⟩
   ·have h5 := HA5.out
    clear hK REST
    rcases h5 with e | e
    ·exact .inl e
    ·right
     simp at e
     omega
  ·refine REST.out _ _ ?_
   rw [HR.out]
   refine ⟨rfl, rfl, rfl, rfl, rfl, rfl, rfl, rfl, gg, cap5, w5, ?_, ?_, ?_, Or.inl rfl⟩
   ·exact HO5.out
   ·exact ⟨_, HG5.out⟩
   ·have h5 := HA5.out
    clear hK REST
    rcases h5 with e | e
    ·exact .inl e
    ·right
     simp at e
     omega
  ·refine REST.out _ _ ?_
   rw [HR.out]
   refine ⟨rfl, rfl, rfl, rfl, rfl, rfl, rfl, rfl, gg, cap5, w5, ?_, ?_, ?_, Or.inr rfl⟩
   ·exact HO5.out
   ·exact ⟨_, HG5.out⟩
   ·have h5 := HA5.out
    clear hK REST
    rcases h5 with e | e
    ·exact .inl e
    ·right
     simp at e
     omega
  ·refine REST.out _ _ ?_
   rw [HR.out]
   refine ⟨rfl, rfl, rfl, rfl, rfl, rfl, rfl, rfl, gg, cap5, w5, ?_, ?_, ?_, Or.inl rfl⟩
   ·exact HO5.out
   ·exact ⟨_, HG5.out⟩
   ·have h5 := HA5.out
    clear hK REST
    rcases h5 with e | e
    ·exact .inl e
    ·right
     simp at e
     omega
  ·refine REST.out _ _ ?_
   rw [HR.out]
   refine ⟨rfl, rfl, rfl, rfl, rfl, rfl, rfl, rfl, gg, cap5, w5, ?_, ?_, ?_, Or.inr rfl⟩
   ·exact HO5.out
   ·exact ⟨_, HG5.out⟩
   ·have h5 := HA5.out
    clear hK REST
    rcases h5 with e | e
    ·exact .inl e
    ·right
     simp at e
     omega
set_option maxRecDepth 100000 in
set_option maxHeartbeats 1600000 in
theorem parse_value {w0 : World} {A : Option Addr} {c : Nat} {l : Bytes} {T : Option JV} (hV : ValidSaid) (hG : Gl w0) : Seg61 w0 A c l T 0 := by
 rintro n a w ⟨hd, hs, h0, h2, h4, h7, r, fs, vc, hm, hn, hT⟩ fall
 obtain ⟨f, hf, rfl⟩ := frame220 a hd hs
 refine ⟨_, rfl, ?_⟩
 rw [← hf] at h0 h2 h4 h7
 rw [h0, h2, h4, h7]
 rw [← hf] at hm
 obtain ⟨vs, hvs⟩ : ∃ vs, vs = f 5 := ⟨_, rfl⟩
 rw [← hvs] at hm ⊢
 clear hf fall hd hs h0 h2 h4 h7 hvs
 have HT := Lib.hid hT
 have HN := Lib.hid hn
 have HM := Lib.hid hm
 have HV := Lib.hid hV
 have HG := Lib.hid hG
 clear hT hn hm hV hG
 obtain ⟨y, hs⟩ : ∃ y, skipB r = y := ⟨_, rfl⟩
 have HS := Lib.hid hs
 have HSL := Lib.hid (show y.length ≤ r.length by rw [← hs]; exact skipB_length r)
 clear hs
 obtain ⟨z, hz⟩ : ∃ z : Int, z = headI y := ⟨_, rfl⟩
 have HZ := Lib.hid hz
 clear hz
 have hz0 : 0 ≤ z ∧ z < 256 := by
  rw [HZ.out]
  cases y with
  | nil => exact ⟨by decide, by decide⟩
  | cons x t => have := x.toNat_lt; simp only [headI]; omega
 obtain ⟨hz0, hz1⟩ := hz0
 go_upto_region 9 with (first | (go_at_call 80; refine (next_any HM.out.rs).mono ?_; rintro e w1 ⟨he, hr1, ho1⟩; rw [HS.out, ← HZ.out] at he; rw [HS.out] at hr1; obtain rfl := he; have hm1 := HM.out.call (s' := 0) hr1 ho1 (by have := HSL.out; omega); have HM1 := Lib.hid hm1; clear ho1 hr1 hm1) | (refine wpList_store_blk (cs := [.int .i64 0, .string ⟨#[]⟩, .int .u64 0, .slice none 0 0, .slice none 0 0]) rfl 79 (.tmp 7) (.tmp 19) rfl rfl rfl rfl HM1.out.vblk HM1.out.vlen info79s rfl ?_; intro w2 hb2 ho2; have hm2 := HM1.out.setV hb2 rfl ho2; have HM2 := Lib.hid hm2; clear hb2 ho2 hm2))
 by_cases h91 : z = 91 ∨ z = 123
 ·have hx : ∃ x t, y = x :: t ∧ z = (x.toNat : Nat) ∧ (x = 91 ∨ x = 123) := by
   have hz := HZ.out
   cases y with
   | nil => simp only [headI] at hz; omega
   | cons x t =>
    simp only [headI] at hz
    refine ⟨x, t, rfl, hz, ?_⟩
    rcases h91 with e | e
    ·exact .inl (UInt8.toNat_inj.1 (show x.toNat = 91 by omega))
    ·exact .inr (UInt8.toNat_inj.1 (show x.toNat = 123 by omega))
  obtain ⟨x, t, rfl, hzx, hx⟩ := hx
  have HX := Lib.hid hx
  have HZX := Lib.hid hzx
  have hq : (z == 91) = true ∨ ((z == 91) = false ∧ (z == 123) = true) := by
   rcases h91 with e | e
   ·left; simp [e]
   ·right; simp [e]
  clear h91 hx hzx
  rcases hq with q1 | ⟨q1, q2⟩
  all_goals
   go_wp2
   go_step3
   refine jumpsBelow_goto (Q := Q61 w0 T) (10 * t.length + 18) (by rw [HN.out]; have := HSL.out; simp at this; omega) ⟨rfl, rfl, rfl, rfl, rfl, rfl, x, t, fs, _, HM2.out, ?_, HX.out, rfl, ?_⟩
   ·exact congrArg (Value.int .u8) HZX.out
   ·rw [← HT.out, ← HS.out, skipB_skip]
 have q91 : (z == 91) = false := by rw [beq_eq_false_iff_ne]; exact fun e => h91 (.inl e)
 have q123 : (z == 123) = false := by rw [beq_eq_false_iff_ne]; exact fun e => h91 (.inr e)
 have HNO := Lib.hid h91
 clear h91
 by_cases h34 : z = 34
 ·obtain ⟨t, rfl⟩ : ∃ t, y = 34 :: t := by
   have hz := HZ.out
   cases y with
   | nil => simp only [headI] at hz; omega
   | cons x t =>
    simp only [headI] at hz
    obtain rfl : x = 34 := UInt8.toNat_inj.1 (show x.toNat = 34 by omega)
    exact ⟨t, rfl⟩
  subst h34
  have hGl := HM2.out.gl HG.out
  have hm3 := HM2.out.setV1 0 (.int .i64 4) rfl
  have HM3 := Lib.hid hm3
  have HG3 := Lib.hid (hm3.gl HG.out)
  obtain ⟨⟨b0, b1, b2, b3, b4⟩, f0, f1, f2, f3, f4⟩ := HM2.out.vblk.five5
  clear hGl hm3
  have HSK := Lib.hid (show skipB (34 :: t) = 34 :: t by rw [skipB]; rfl)
  cases hso : strOf (34 :: t) with
  | none =>
   have HSO := Lib.hid hso
   clear hso
   go_wp2_with (go_at_call 81; refine (text_any HV.out HM3.out.rs HG3.out.1 HG3.out.2).mono ?_; rintro e w4 ⟨ho4, h4⟩; rw [HSK.out, HSO.out] at h4; obtain rfl := h4; obtain ⟨⟨b0, b1, b2, b3, b4⟩, f0, f1, f2, f3, f4⟩ := (HM3.out.vblk.only ho4 (by omega)).five5; have hr4 := HM3.out.res.only ho4 (by omega); have hoo := HM3.out.only.then ho4 (fun i hi e => by omega); have HR4 := Lib.hid hr4; have HO4 := Lib.hid hoo; clear ho4 hr4 hoo)
   go_step3
   refine jumpsBelow_goto (Q := Q61 w0 T) 0 (by rw [HN.out]; omega) ⟨rfl, rfl, rfl, rfl, rfl, rfl, HR4.out.far (by simp) _, HO4.out.setCell (fun h => by have h' : w0.heap.size + 2 < w0.heap.size := h; omega) _, ?_⟩
   rw [← HT.out, VD_str HS.out, HSO.out]; rfl
  | some p =>
   obtain ⟨s, q⟩ := p
   have HSO := Lib.hid hso
   have HSQ := Lib.hid (strOf_length hso)
   clear hso
   go_wp2_with (go_at_call 81; refine (text_any HV.out HM3.out.rs HG3.out.1 HG3.out.2).mono ?_; rintro e w4 ⟨ho4, h4⟩; rw [HSK.out, HSO.out] at h4; obtain ⟨rfl, hr4⟩ := h4; have hm4 := HM3.out.call (s' := 1) hr4 ho4 (by have := HSQ.out.1; omega); have hm5 := hm4.setV1 1 (txt s) rfl; obtain ⟨⟨b0, b1, b2, b3, b4⟩, f0, f1, f2, f3, f4⟩ := hm4.vblk.five5; have HM5 := Lib.hid hm5; clear ho4 hr4 hm4 hm5)
   go_step3
   refine jumpsBelow_goto (Q := Q61 w0 T) (10 * q.length + 5) (by rw [HN.out]; have := HSQ.out.1; have := HSL.out; omega) ⟨rfl, rfl, rfl, rfl, rfl, rfl, q, fs, .mk 4 s 0 [] [], _, HM5.out, JIs.plain _ _ 4 s 0 none none 0 0, rfl, ?_⟩
   rw [← HT.out, VD_str HS.out, HSO.out]; rfl
 have q34 : (z == 34) = false := by rw [beq_eq_false_iff_ne]; exact h34
 have HN34 := Lib.hid h34
 clear h34
 by_cases hdg : 48 ≤ z ∧ z ≤ 57
 ·obtain ⟨hd1, hd2⟩ := hdg
  have q48 : decide (48 ≤ z) = true := by simp; omega
  have q57 : decide (z ≤ 57) = true := by simp; omega
  obtain ⟨x, t, rfl, hdig⟩ : ∃ x t, y = x :: t ∧ isDig x = true := by
   have hz := HZ.out
   cases y with
   | nil => simp only [headI] at hz; omega
   | cons x t =>
    simp only [headI] at hz
    exact ⟨x, t, rfl, by unfold isDig; simp; omega⟩
  have HDG := Lib.hid hdig
  have hm3 := HM2.out.setV1 0 (.int .i64 3) rfl
  have HM3 := Lib.hid hm3
  have HG3 := Lib.hid (hm3.gl HG.out)
  obtain ⟨⟨b0, b1, b2, b3, b4⟩, f0, f1, f2, f3, f4⟩ := HM2.out.vblk.five5
  clear hm3 hdig
  cases hso : numB (x :: t) with
  | none =>
   have HSO := Lib.hid hso
   clear hso
   go_wp2_with (go_at_call 82; refine (number_any HM3.out.rs HG3.out.1 HG3.out.2).mono ?_; rintro e w4 ⟨ho4, h4⟩; rw [HSO.out] at h4; obtain ⟨n4, rfl⟩ := h4; obtain ⟨⟨b0, b1, b2, b3, b4⟩, f0, f1, f2, f3, f4⟩ := (HM3.out.vblk.only ho4 (by omega)).five5; have hr4 := HM3.out.res.only ho4 (by omega); have hoo := HM3.out.only.then ho4 (fun i hi e => by omega); have HR4 := Lib.hid hr4; have HO4 := Lib.hid hoo; clear ho4 hr4 hoo)
   go_step3
   refine jumpsBelow_goto (Q := Q61 w0 T) 0 (by rw [HN.out]; omega) ⟨rfl, rfl, rfl, rfl, rfl, rfl, HR4.out.far (by simp) _, HO4.out.setCell (fun h => by have h' : w0.heap.size + 2 < w0.heap.size := h; omega) _, ?_⟩
   rw [← HT.out, VD_num HS.out HDG.out, HSO.out]; rfl
  | some p =>
   obtain ⟨n5, q⟩ := p
   have HSO := Lib.hid hso
   have HSQ := Lib.hid (numB_length hso)
   clear hso
   go_wp2_with (go_at_call 82; refine (number_any HM3.out.rs HG3.out.1 HG3.out.2).mono ?_; rintro e w4 ⟨ho4, h4⟩; rw [HSO.out] at h4; obtain ⟨rfl, hr4⟩ := h4; have hm4 := HM3.out.call (s' := 1) hr4 ho4 (by have := HSQ.out.1; omega); have hm5 := hm4.setV1 2 (.int .u64 n5) rfl; obtain ⟨⟨b0, b1, b2, b3, b4⟩, f0, f1, f2, f3, f4⟩ := hm4.vblk.five5; have HM5 := Lib.hid hm5; clear ho4 hr4 hm4 hm5)
   go_step3
   refine jumpsBelow_goto (Q := Q61 w0 T) (10 * q.length + 5) (by rw [HN.out]; have := HSQ.out.1; have := HSL.out; omega) ⟨rfl, rfl, rfl, rfl, rfl, rfl, q, fs, .mk 3 [] n5 [] [], _, HM5.out, JIs.plain _ _ 3 [] n5 none none 0 0, rfl, ?_⟩
   rw [← HT.out, VD_num HS.out HDG.out, HSO.out]; rfl
 have hq : decide (48 ≤ z) = false ∨ (decide (48 ≤ z) = true ∧ decide (z ≤ 57) = false) := by
  by_cases h : 48 ≤ z
  ·right; constructor <;> simp <;> omega
  ·left; simp; omega
 have HND := Lib.hid hdg
 clear hdg
 have HWD := Lib.hid (show VD (8 - fs.length) r = (plainB y).map fun p => (JV.plain p.1, p.2) by
  have hz := HZ.out
  cases y with
  | nil => rw [VD_nil HS.out]; rfl
  | cons x t =>
   simp only [headI] at hz
   refine VD_word HS.out ?_ ?_ ?_ ?_
   ·unfold isDig; have := HND.out; simp; omega
   ·rintro rfl; exact HN34.out hz
   ·rintro rfl; exact HNO.out (.inl hz)
   ·rintro rfl; exact HNO.out (.inr hz))
 cases hso : plainB y with
 | none =>
  have HSO := Lib.hid hso
  clear hso
  rcases hq with q48 | ⟨q48, q57⟩
  all_goals
   go_wp2_with (first | (go_at_call 83; refine (plain_any HM2.out.rs).mono ?_; rintro e w4 ⟨ho4, h4⟩; rw [HSO.out] at h4; obtain rfl := h4; have hvb := HM2.out.vblk.only ho4 (by omega); have hr4 := HM2.out.res.only ho4 (by omega); have hoo := HM2.out.only.then ho4 (fun i hi e => by omega); have HVB := Lib.hid hvb; have HR4 := Lib.hid hr4; have HO4 := Lib.hid hoo; clear ho4 hr4 hoo hvb) | (refine wpList_store_blk (cs := [.int .i64 0, .string ⟨#[]⟩, .int .u64 0, .slice none 0 0, .slice none 0 0]) rfl 79 (.tmp 7) (.tmp 25) rfl rfl rfl rfl HVB.out rfl info79s rfl ?_; intro w5 hb5 ho5; have hr5 := HR4.out.only ho5 (by omega); have hoo := HO4.out.then ho5 (fun i hi e => by omega); have HR5 := Lib.hid hr5; have HO5 := Lib.hid hoo; clear hb5 ho5 hr5 hoo))
   go_step3
   refine jumpsBelow_goto (Q := Q61 w0 T) 0 (by rw [HN.out]; omega) ⟨rfl, rfl, rfl, rfl, rfl, rfl, HR5.out, HO5.out, ?_⟩
   rw [← HT.out, HWD.out, HSO.out]; rfl
 | some p =>
  obtain ⟨k, q⟩ := p
  have HSO := Lib.hid hso
  have HSQ := Lib.hid (show q.length < y.length from plainB_length hso)
  clear hso
  rcases hq with q48 | ⟨q48, q57⟩
  all_goals
   go_wp2_with (first | (go_at_call 83; refine (plain_any HM2.out.rs).mono ?_; rintro e w4 ⟨ho4, h4⟩; rw [HSO.out] at h4; obtain ⟨rfl, hr4⟩ := h4; have hm4 := HM2.out.call (s' := 1) hr4 ho4 (by have := HSQ.out; omega); have HM4 := Lib.hid hm4; clear ho4 hr4 hm4) | (refine wpList_store_blk (cs := [.int .i64 k, .string ⟨#[]⟩, .int .u64 0, .slice none 0 0, .slice none 0 0]) rfl 79 (.tmp 7) (.tmp 25) rfl rfl rfl rfl HM4.out.vblk rfl info79s rfl ?_; intro w5 hb5 ho5; have hm5 := HM4.out.setV hb5 rfl ho5; have HM5 := Lib.hid hm5; clear hb5 ho5 hm5))
   go_step3
   refine jumpsBelow_goto (Q := Q61 w0 T) (10 * q.length + 5) (by rw [HN.out]; have := HSQ.out; have := HSL.out; omega) ⟨rfl, rfl, rfl, rfl, rfl, rfl, q, fs, .plain k, _, HM5.out, JIs.plain _ _ k [] 0 none none 0 0, rfl, ?_⟩
   rw [← HT.out, HWD.out, HSO.out]; rfl
end Go.Proofs.YtjehnejgojgahaaGreatDoor
