/-
  A part of the proof of MessageTakes: the texts Q3 Q4.
-/
import Derived.Test.YtjehnejgojgahaaGreatDoorK19
import Derived.Sort.CutIn
import Derived.Deep.RegionHeld3
namespace Go.Proofs.YtjehnejgojgahaaGreatDoor
open Go.RowKit
set_option linter.unusedVariables false
set_option linter.unusedSimpArgs false
open Go.RowKit Go.Shelf
attribute [local go_sem] Oper.semAt_some
theorem under214 : Tryz.prog.underlying 214 = some (.map 9 221) := by kernel_rfl
theorem keyedS : Maps.Keyed Tryz.prog 9 := Maps.string_keyed under9
def R221 (v : Value) : Option (DataW Unit × List MemPlace) := match v with
 | .agg cs => (match cs.toList with
  | [.string s] => some (.lit (.string s.data.toList), [])
  | _ => none)
 | _ => none
theorem R221_inv {v : Value} {z : DataW Unit × List MemPlace} (h : R221 v = some z) : ∃ s, v = .agg #[.string s] ∧ z = (.lit (.string s.data.toList), []) := by
 unfold R221 at h
 split at h
 ·rename_i cs
  split at h
  ·rename_i s hs
   cases h
   refine ⟨s, ?_, rfl⟩
   have : cs = #[.string s] := by apply Array.toList_inj.1; exact hs
   rw [this]
  ·cases h
 ·cases h
theorem R221_of (v : Bytes) : R221 (.agg #[.string ⟨v.toArray⟩]) = some (.lit (.string v), []) := by
 show some ((DataW.lit (.string (⟨v.toArray⟩ : ByteArray).data.toList), []) : DataW Unit × List MemPlace) = _
 simp
theorem zero221 (w : World) : (zeroValue 221).run Tryz.prog w = .ok (.agg #[.string ⟨#[]⟩]) w := by kernel_rfl
theorem field221 (s : ByteArray) (w : World) : (Instr.field 221 (.agg #[.string s]) 0).run Tryz.prog w = .ok (.string s) w := by kernel_rfl
theorem grown0 {w w' : World} (ho : Only (fun _ => False) w w') : w.grownBy w' none := ⟨ho.os, ho.tape, ho.output, ho.size, fun k hk _ => ho.block k hk id⟩
theorem Only.block' {G : Nat → Prop} {w w' : World} {B : Nat} {o : Obj} (h : Only G w w') (hb : w.heap[B]? = some o) (hg : ¬ G B) : w'.heap[B]? = some o := (h.block B (Array.getElem?_eq_some_iff.1 hb).1 hg).trans hb
theorem map_same {w w' : World} {b n : Nat} {D : DataW Unit} (h : w.ownsMap Tryz.prog 9 R221 b n D) (hb : w'.heap[b]? = w.heap[b]?) : w'.ownsMap Tryz.prog 9 R221 b n D := by
 obtain ⟨es, clock, h1, h2⟩ := h
 exact ⟨es, clock, hb.trans h1, h2⟩
theorem results_cell3 {fn : Func} {p q r : Tmp} {t1 t2 t3 : TypeId} (h : fn.results = #[.cell p t1, .cell q t2, .cell r t3]) (tmps : Array Value) (P : Program) (w : World) {a b c : Addr} (hp : tmps.getD p undef = .pointer (some a)) (hq : tmps.getD q undef = .pointer (some b)) (hr : tmps.getD r undef = .pointer (some c)) {v1 v2 v3 : Value}
  (h1 : (loadVar t1 a).run P w = .ok v1 w) (h2 : (loadVar t2 b).run P w = .ok v2 w) (h3 : (loadVar t3 c).run P w = .ok v3 w) : (results fn tmps).run P w = .ok (.tuple #[v1, v2, v3]) w := by
 simp only [results, h]
 rw [Array.getD_eq_getD_getElem?] at hp hq hr
 simp [Sem.run_bind, Result.andThen, hp, hq, hr, asAddr, h1, h2, h3]
theorem loadVar_one {t : TypeId} {w : World} {a : Addr} {v : Value} (ht : (isAgg t).run Tryz.prog w = .ok false w) (hc : w.cell? a = some v) : (loadVar t a).run Tryz.prog w = .ok v w := by
 unfold loadVar
 simp [Sem.run_bind, ht, Result.andThen, run_load, hc]
structure AskT (W0 : World) (M Bs n : Nat) (D : DataW Unit) (W : World) : Prop where
 only : Only (fun i => i = M ∨ i = Bs) W0 W
 map : W.ownsMap Tryz.prog 9 R221 M n D
structure AskQ (p n v : Bytes) : Prop where
 cut : ∃ r s, Lib.cut p [61] = (r, s, true) ∧ plnB r = some n ∧ plnB s = some v ∧ r.length ≤ 1000 ∧ s.length ≤ 1000
 len : p.length ≤ 1000
 nl : n.length ≤ 1000
def AskAt (x y : Bytes) (w : World) (e : Ending) (w' : World) : Prop := Only (fun _ => False) w w' ∧ e = .returned (.tuple #[.string ⟨x.toArray⟩, .string ⟨y.toArray⟩, .bool true])
def DA (n v : Bytes) : DataW Unit := (DataW.map []).put (.string n) (.lit (.string v))
def DP (n1 v1 n2 v2 : Bytes) : List Bytes → DataW Unit
 | [] => .map []
 | [_] => DA n1 v1
 | _ => (DA n1 v1).put (.string n2) (.lit (.string v2))
theorem keyOf_s {x : Bytes} (h : x.length ≤ 1000) : keyOf Tryz.prog 9 (.string ⟨x.toArray⟩) = some (.string x) := by
 have := WideMaps.keyOf_string_mk (P := Tryz.prog) (k := 9) under9 (s := ⟨x.toArray⟩) (by show x.toArray.size ≤ _; unfold maxLen; simp; omega)
 simpa using this
set_option maxRecDepth 100000 in
set_option maxHeartbeats 6400000 in
theorem asked2 {a b p1 n1 v1 p2 n2 v2 x y : Bytes} {w : World} (hG : Gl w) (h1 : AskQ p1 n1 v1) (h2 : AskQ p2 n2 v2) (hi1 : Lib.index (p1 ++ 38 :: p2) [38] = (p1.length : Int)) (hi2 : Lib.index p2 [38] = -1)
  (hm1 : n1 = a ∨ n1 = b) (hm2 : n2 = a ∨ n2 = b) (hab : a ≠ b) (ha : a.length ≤ 1000) (hb : b.length ≤ 1000) (hno : Maps.has (DA n1 v1) (.string n2) = false)
  (hx : (DP n1 v1 n2 v2 [p1, p2]).atKey (.string a) (.lit (.string [])) = .lit (.string x)) (hy : (DP n1 v1 n2 v2 [p1, p2]).atKey (.string b) (.lit (.string [])) = .lit (.string y)) (hsz : Maps.size (DP n1 v1 n2 v2 [p1, p2]) = 2) :
  Calls Tryz.prog 95 #[.string ⟨(p1 ++ 38 :: p2).toArray⟩, .string ⟨a.toArray⟩, .string ⟨b.toArray⟩] w (AskAt x y w) := by
 refine (callsIn_wide (n := 6)).1 ?_
 have HG := Lib.hid hG
 have HQ1 := Lib.hid h1
 have HQ2 := Lib.hid h2
 have HI1 := Lib.hid hi1
 have HI2 := Lib.hid hi2
 have HM1 := Lib.hid hm1
 have HM2 := Lib.hid hm2
 have HAB := Lib.hid hab
 have HA := Lib.hid ha
 have HB := Lib.hid hb
 have HNO := Lib.hid hno
 have HX := Lib.hid hx
 have HY := Lib.hid hy
 have HSZ := Lib.hid hsz
 clear hG h1 h2 hi1 hi2 hm1 hm2 hab ha hb hno hx hy hsz
 refine callsIn_of_wp_marks Tryz.func95 rfl trivial ?_ rfl
 simp only [Tryz.ntmps95, List.size_toArray, List.length_cons, List.length_nil, Nat.reduceAdd, Nat.reduceSub, Array.replicate_succ, Array.replicate_zero, List.push_toArray, List.append_toArray, List.nil_append, List.cons_append]
 have hmm := @run_makeMap Tryz.prog
 gi_wp2_with (refine ⟨trivial, ?_⟩; gi_at_call 117; refine (callsIn_wide.2 (splitSeq_any _ _ _)).mono ?_; rintro e w' ⟨rfl, rfl⟩)
 obtain ⟨x1, e1⟩ : ∃ x1, x1 = w.alloc (.cells #[.string ⟨a.toArray⟩] 9) := ⟨_, rfl⟩
 have s1 : x1.heap.size = w.heap.size + 1 := by rw [e1]; simp
 have o1 : Only (fun _ => False) w x1 := by rw [e1]; exact (Only.refl _ w).alloc _
 obtain ⟨x2, e2⟩ : ∃ x2, x2 = x1.alloc (.cells #[.string ⟨b.toArray⟩] 9) := ⟨_, rfl⟩
 have s2 : x2.heap.size = w.heap.size + 2 := by rw [e2]; simp [s1]
 have o2 : Only (fun _ => False) w x2 := by rw [e2]; exact (o1).alloc _
 obtain ⟨x3, e3⟩ : ∃ x3, x3 = x2.alloc (.cells #[.string ⟨#[]⟩] 9) := ⟨_, rfl⟩
 have s3 : x3.heap.size = w.heap.size + 3 := by rw [e3]; simp [s2]
 have o3 : Only (fun _ => False) w x3 := by rw [e3]; exact (o2).alloc _
 obtain ⟨x4, e4⟩ : ∃ x4, x4 = x3.alloc (.cells #[.string ⟨#[]⟩] 9) := ⟨_, rfl⟩
 have s4 : x4.heap.size = w.heap.size + 4 := by rw [e4]; simp [s3]
 have o4 : Only (fun _ => False) w x4 := by rw [e4]; exact (o3).alloc _
 obtain ⟨x5, e5⟩ : ∃ x5, x5 = x4.alloc (.cells #[.bool false] 4) := ⟨_, rfl⟩
 have s5 : x5.heap.size = w.heap.size + 5 := by rw [e5]; simp [s4]
 have o5 : Only (fun _ => False) w x5 := by rw [e5]; exact (o4).alloc _
 obtain ⟨x6, e6⟩ : ∃ x6, x6 = x5.alloc (.map #[] 0) := ⟨_, rfl⟩
 have s6 : x6.heap.size = w.heap.size + 6 := by rw [e6]; simp [s5]
 have o6 : Only (fun _ => False) w x6 := by rw [e6]; exact (o5).alloc _
 obtain ⟨x7, e7⟩ : ∃ x7, x7 = x6.alloc (.cells #[.map (some (w.heap.size + 1 + 1 + 1 + 1 + 1))] 214) := ⟨_, rfl⟩
 have s7 : x7.heap.size = w.heap.size + 7 := by rw [e7]; simp [s6]
 have o7 : Only (fun _ => False) w x7 := by rw [e7]; exact (o6).alloc _
 obtain ⟨x8, e8⟩ : ∃ x8, x8 = x7.alloc (.cells #[.string ⟨(p1 ++ 38 :: p2).toArray⟩] 9) := ⟨_, rfl⟩
 have s8 : x8.heap.size = w.heap.size + 8 := by rw [e8]; simp [s7]
 have o8 : Only (fun _ => False) w x8 := by rw [e8]; exact (o7).alloc _
 obtain ⟨x9, e9⟩ : ∃ x9, x9 = x8.alloc (.cells #[.string ⟨#[38]⟩] 9) := ⟨_, rfl⟩
 have s9 : x9.heap.size = w.heap.size + 9 := by rw [e9]; simp [s8]
 have o9 : Only (fun _ => False) w x9 := by rw [e9]; exact (o8).alloc _
 obtain ⟨x10, e10⟩ : ∃ x10, x10 = x9.alloc (.cells #[.int .i64 0] 3) := ⟨_, rfl⟩
 have s10 : x10.heap.size = w.heap.size + 10 := by rw [e10]; simp [s9]
 have o10 : Only (fun _ => False) w x10 := by rw [e10]; exact (o9).alloc _
 have ba1 : Boxed x1 w.heap.size 9 (.string ⟨a.toArray⟩) := by rw [e1]; have := Boxed.new w 9 (.string ⟨a.toArray⟩); exact this
 have ba2 : Boxed x2 w.heap.size 9 (.string ⟨a.toArray⟩) := by rw [e2]; exact ba1.alloc _
 have ba3 : Boxed x3 w.heap.size 9 (.string ⟨a.toArray⟩) := by rw [e3]; exact ba2.alloc _
 have ba4 : Boxed x4 w.heap.size 9 (.string ⟨a.toArray⟩) := by rw [e4]; exact ba3.alloc _
 have ba5 : Boxed x5 w.heap.size 9 (.string ⟨a.toArray⟩) := by rw [e5]; exact ba4.alloc _
 have ba6 : Boxed x6 w.heap.size 9 (.string ⟨a.toArray⟩) := by rw [e6]; exact ba5.alloc _
 have ba7 : Boxed x7 w.heap.size 9 (.string ⟨a.toArray⟩) := by rw [e7]; exact ba6.alloc _
 have ba8 : Boxed x8 w.heap.size 9 (.string ⟨a.toArray⟩) := by rw [e8]; exact ba7.alloc _
 have ba9 : Boxed x9 w.heap.size 9 (.string ⟨a.toArray⟩) := by rw [e9]; exact ba8.alloc _
 have ba10 : Boxed x10 w.heap.size 9 (.string ⟨a.toArray⟩) := by rw [e10]; exact ba9.alloc _
 have bb2 : Boxed x2 (w.heap.size + 1) 9 (.string ⟨b.toArray⟩) := by rw [e2]; have := Boxed.new x1 9 (.string ⟨b.toArray⟩); rw [s1] at this; exact this
 have bb3 : Boxed x3 (w.heap.size + 1) 9 (.string ⟨b.toArray⟩) := by rw [e3]; exact bb2.alloc _
 have bb4 : Boxed x4 (w.heap.size + 1) 9 (.string ⟨b.toArray⟩) := by rw [e4]; exact bb3.alloc _
 have bb5 : Boxed x5 (w.heap.size + 1) 9 (.string ⟨b.toArray⟩) := by rw [e5]; exact bb4.alloc _
 have bb6 : Boxed x6 (w.heap.size + 1) 9 (.string ⟨b.toArray⟩) := by rw [e6]; exact bb5.alloc _
 have bb7 : Boxed x7 (w.heap.size + 1) 9 (.string ⟨b.toArray⟩) := by rw [e7]; exact bb6.alloc _
 have bb8 : Boxed x8 (w.heap.size + 1) 9 (.string ⟨b.toArray⟩) := by rw [e8]; exact bb7.alloc _
 have bb9 : Boxed x9 (w.heap.size + 1) 9 (.string ⟨b.toArray⟩) := by rw [e9]; exact bb8.alloc _
 have bb10 : Boxed x10 (w.heap.size + 1) 9 (.string ⟨b.toArray⟩) := by rw [e10]; exact bb9.alloc _
 have bx3 : Boxed x3 (w.heap.size + 2) 9 (.string ⟨#[]⟩) := by rw [e3]; have := Boxed.new x2 9 (.string ⟨#[]⟩); rw [s2] at this; exact this
 have bx4 : Boxed x4 (w.heap.size + 2) 9 (.string ⟨#[]⟩) := by rw [e4]; exact bx3.alloc _
 have bx5 : Boxed x5 (w.heap.size + 2) 9 (.string ⟨#[]⟩) := by rw [e5]; exact bx4.alloc _
 have bx6 : Boxed x6 (w.heap.size + 2) 9 (.string ⟨#[]⟩) := by rw [e6]; exact bx5.alloc _
 have bx7 : Boxed x7 (w.heap.size + 2) 9 (.string ⟨#[]⟩) := by rw [e7]; exact bx6.alloc _
 have bx8 : Boxed x8 (w.heap.size + 2) 9 (.string ⟨#[]⟩) := by rw [e8]; exact bx7.alloc _
 have bx9 : Boxed x9 (w.heap.size + 2) 9 (.string ⟨#[]⟩) := by rw [e9]; exact bx8.alloc _
 have bx10 : Boxed x10 (w.heap.size + 2) 9 (.string ⟨#[]⟩) := by rw [e10]; exact bx9.alloc _
 have by4 : Boxed x4 (w.heap.size + 3) 9 (.string ⟨#[]⟩) := by rw [e4]; have := Boxed.new x3 9 (.string ⟨#[]⟩); rw [s3] at this; exact this
 have by5 : Boxed x5 (w.heap.size + 3) 9 (.string ⟨#[]⟩) := by rw [e5]; exact by4.alloc _
 have by6 : Boxed x6 (w.heap.size + 3) 9 (.string ⟨#[]⟩) := by rw [e6]; exact by5.alloc _
 have by7 : Boxed x7 (w.heap.size + 3) 9 (.string ⟨#[]⟩) := by rw [e7]; exact by6.alloc _
 have by8 : Boxed x8 (w.heap.size + 3) 9 (.string ⟨#[]⟩) := by rw [e8]; exact by7.alloc _
 have by9 : Boxed x9 (w.heap.size + 3) 9 (.string ⟨#[]⟩) := by rw [e9]; exact by8.alloc _
 have by10 : Boxed x10 (w.heap.size + 3) 9 (.string ⟨#[]⟩) := by rw [e10]; exact by9.alloc _
 have bo5 : Boxed x5 (w.heap.size + 4) 4 (.bool false) := by rw [e5]; have := Boxed.new x4 4 (.bool false); rw [s4] at this; exact this
 have bo6 : Boxed x6 (w.heap.size + 4) 4 (.bool false) := by rw [e6]; exact bo5.alloc _
 have bo7 : Boxed x7 (w.heap.size + 4) 4 (.bool false) := by rw [e7]; exact bo6.alloc _
 have bo8 : Boxed x8 (w.heap.size + 4) 4 (.bool false) := by rw [e8]; exact bo7.alloc _
 have bo9 : Boxed x9 (w.heap.size + 4) 4 (.bool false) := by rw [e9]; exact bo8.alloc _
 have bo10 : Boxed x10 (w.heap.size + 4) 4 (.bool false) := by rw [e10]; exact bo9.alloc _
 have mp6 : World.ownsMap x6 Tryz.prog 9 R221 (w.heap.size + 5) 0 (.map []) := by rw [e6]; have := World.ownsMap_made x5 Tryz.prog 9 R221; rw [s5] at this; exact this
 have mp7 : World.ownsMap x7 Tryz.prog 9 R221 (w.heap.size + 5) 0 (.map []) := by rw [e7]; exact mp6.alloc _
 have mp8 : World.ownsMap x8 Tryz.prog 9 R221 (w.heap.size + 5) 0 (.map []) := by rw [e8]; exact mp7.alloc _
 have mp9 : World.ownsMap x9 Tryz.prog 9 R221 (w.heap.size + 5) 0 (.map []) := by rw [e9]; exact mp8.alloc _
 have mp10 : World.ownsMap x10 Tryz.prog 9 R221 (w.heap.size + 5) 0 (.map []) := by rw [e10]; exact mp9.alloc _
 have bm7 : Boxed x7 (w.heap.size + 6) 214 (.map (some (w.heap.size + 1 + 1 + 1 + 1 + 1))) := by rw [e7]; have := Boxed.new x6 214 (.map (some (w.heap.size + 1 + 1 + 1 + 1 + 1))); rw [s6] at this; exact this
 have bm8 : Boxed x8 (w.heap.size + 6) 214 (.map (some (w.heap.size + 1 + 1 + 1 + 1 + 1))) := by rw [e8]; exact bm7.alloc _
 have bm9 : Boxed x9 (w.heap.size + 6) 214 (.map (some (w.heap.size + 1 + 1 + 1 + 1 + 1))) := by rw [e9]; exact bm8.alloc _
 have bm10 : Boxed x10 (w.heap.size + 6) 214 (.map (some (w.heap.size + 1 + 1 + 1 + 1 + 1))) := by rw [e10]; exact bm9.alloc _
 have bs8 : Boxed x8 (w.heap.size + 7) 9 (.string ⟨(p1 ++ 38 :: p2).toArray⟩) := by rw [e8]; have := Boxed.new x7 9 (.string ⟨(p1 ++ 38 :: p2).toArray⟩); rw [s7] at this; exact this
 have bs9 : Boxed x9 (w.heap.size + 7) 9 (.string ⟨(p1 ++ 38 :: p2).toArray⟩) := by rw [e9]; exact bs8.alloc _
 have bs10 : Boxed x10 (w.heap.size + 7) 9 (.string ⟨(p1 ++ 38 :: p2).toArray⟩) := by rw [e10]; exact bs9.alloc _
 have bp9 : Boxed x9 (w.heap.size + 8) 9 (.string ⟨#[38]⟩) := by rw [e9]; have := Boxed.new x8 9 (.string ⟨#[38]⟩); rw [s8] at this; exact this
 have bp10 : Boxed x10 (w.heap.size + 8) 9 (.string ⟨#[38]⟩) := by rw [e10]; exact bp9.alloc _
 have bz10 : Boxed x10 (w.heap.size + 9) 3 (.int .i64 0) := by rw [e10]; have := Boxed.new x9 3 (.int .i64 0); rw [s9] at this; exact this
 rw [← e1, ← e2, ← e3, ← e4, ← e5, ← e6, ← e7, ← e8, ← e9, ← e10]
 clear e10 e9 e8 e7 e6 e5 e4 e3 e2 e1 ba1 ba2 ba3 ba4 ba5 ba6 ba7 ba8 ba9 bb2 bb3 bb4 bb5 bb6 bb7 bb8 bb9 bx3 bx4 bx5 bx6 bx7 bx8 bx9 by4 by5 by6 by7 by8 by9 bo5 bo6 bo7 bo8 bo9 mp6 mp7 mp8 mp9 bm7 bm8 bm9 bs8 bs9 bp9 o1 o2 o3 o4 o5 o6 o7 o8 o9 s1 s2 s3 s4 s5 s6 s7 s8 s9 hmm
 clear x9 x8 x7 x6 x5 x4 x3 x2 x1
 have HG10 := Lib.hid (HG.out.only o10 (fun _ _ => id))
 obtain ⟨H, hH⟩ : ∃ H, H = w.heap.size := ⟨_, rfl⟩
 rw [← hH] at s10 ba10 bb10 bx10 by10 bo10 mp10 bm10 bs10 bp10 bz10 ⊢
 simp only [Nat.add_assoc, Nat.reduceAdd] at bm10 ⊢
 have HO := Lib.hid o10
 have HS := Lib.hid s10
 have HBA := Lib.hid ba10
 have HBB := Lib.hid bb10
 have HBX := Lib.hid bx10
 have HBY := Lib.hid by10
 have HBO := Lib.hid bo10
 have HMP := Lib.hid mp10
 have HBM := Lib.hid bm10
 have HH := Lib.hid hH
 have h8 : 8 ≤ H := by have := HG.out.size; omega
 have HH8 := Lib.hid h8
 clear hH
 refine wpIn_rangeFunc_box (F := Fence.wide) (Bs := H + 7) (w0 := x10) rfl (by omega) (gf := 156) (lb := #[.pointer (some ⟨H + 8, 0, none⟩), .pointer (some ⟨H + 7, 0, none⟩), .pointer (some ⟨H + 9, 0, none⟩)]) rfl trivial (enters_of Tryz.func156 (by kernel_rfl) rfl)
  (seq2 5 (by omega) (H + 8) (H + 7) (H + 9) p1 p2 HI1.out HI2.out HQ1.out.len HQ2.out.len x10 HG10.out bs10 bp10 bz10 (by omega) (by omega) (by omega)) (by omega) (fun h k => h.trans k)
  (fun W l oo oo' hl _ k hk => World.putObj_heap_other (by rcases hk with h | h | h | h <;> omega)) (Below.refl _ _) (fun _ => rfl)
  (fun pre W => AskT x10 (H + 5) (H + 7) pre.length (DP n1 v1 n2 v2 pre) W) ?own ?set ⟨Only.refl _ _, HMP.out⟩
  (fun x => { tmps := #[.string ⟨(p1 ++ 38 :: p2).toArray⟩, .string ⟨a.toArray⟩, .string ⟨b.toArray⟩, undef, .pointer (some ⟨H, 0, none⟩), .pointer (some ⟨H + 1, 0, none⟩), .pointer (some ⟨H + 2, 0, none⟩), .pointer (some ⟨H + 3, 0, none⟩), .pointer (some ⟨H + 4, 0, none⟩), .pointer (some ⟨H + 6, 0, none⟩), .string ⟨x.toArray⟩, undef, undef, undef, undef, undef, undef, undef, undef, undef, .map (some (H + 5)), .string ⟨(p1 ++ 38 :: p2).toArray⟩, .func (.func 156) #[] #[.pointer (some ⟨H + 8, 0, none⟩), .pointer (some ⟨H + 7, 0, none⟩), .pointer (some ⟨H + 9, 0, none⟩)], .string ⟨x.toArray⟩, undef, undef, undef, undef, undef, undef, undef, undef, undef, undef, undef, undef, undef, undef, undef, undef, undef, undef, undef, undef, undef, undef, undef, undef, undef, undef, undef, undef, undef, undef, undef, undef, undef, undef, undef, undef, undef, undef, undef, undef, undef, undef, undef, undef, undef, undef, undef, undef, undef, undef, undef, undef, undef, undef, undef, undef, undef, undef, undef, undef], defers := [] }) ?assign ?body ?done
 case own =>
  rintro pre W W' row ⟨ho, hm⟩ hg hr
  exact ⟨ho.grown hg (fun k hk hlt => by have := (hr k hk).1; omega), hm.kept hg (fun e => by have := (hr _ e.symm).1; omega)⟩
 case set =>
  rintro pre A v ⟨ho, hm⟩
  exact ⟨ho.setCell (p := ⟨H + 7, 0, none⟩) (fun _ => .inr rfl) v, hm.setCell (a := ⟨H + 7, 0, none⟩) (by show H + 5 ≠ H + 7; omega) v⟩
 case assign =>
  intro l x W K hK
  gi_wp2
  exact hK
 case body =>
  rintro lp pre p W ⟨ho, hm⟩ hok
  obtain ⟨n, v, hq, hno, hmem, hD, hpl⟩ : ∃ n v, AskQ p n v ∧ Maps.has (DP n1 v1 n2 v2 pre) (.string n) = false ∧ (n = a ∨ n = b) ∧ DP n1 v1 n2 v2 (pre ++ [p]) = (DP n1 v1 n2 v2 pre).put (.string n) (.lit (.string v)) ∧ pre.length ≤ 5 := by
   rcases hok with ⟨rfl, rfl⟩ | ⟨rfl, rfl⟩
   ·exact ⟨n1, v1, HQ1.out, rfl, HM1.out, rfl, by simp⟩
   ·exact ⟨n2, v2, HQ2.out, HNO.out, HM2.out, rfl, by simp⟩
  obtain ⟨r, s, hcut, hr, hs, hrl, hsl⟩ := hq.cut
  have HT := Lib.hid (AskT.mk ho hm)
  have HGW := Lib.hid (HG10.out.only ho (fun k hk h => by omega))
  obtain ⟨m, hmx⟩ := HGW.out.mx
  have HMX := Lib.hid hmx
  have HCUT := Lib.hid (show Lib.cut (⟨p.toArray⟩ : ByteArray).data.toList (⟨#[61]⟩ : ByteArray).data.toList = (r, s, true) by simpa using hcut)
  have HPS := Lib.hid (show (⟨p.toArray⟩ : ByteArray).size < 4294967281 by show p.toArray.size < _; have := hq.len; simp; omega)
  have HPR := Lib.hid (fun w => plain_ok (w := w) hr hrl)
  have HPV := Lib.hid (fun w => plain_ok (w := w) hs hsl)
  have HNL := Lib.hid hq.nl
  have HNN := Lib.hid hno
  have HMEM := Lib.hid hmem
  have HD := Lib.hid hD
  have HPL := Lib.hid hpl
  clear ho hm hok hq hno hmem hD hpl hcut hr hs hrl hsl hmx
  gi_upto_region 5 with (refine ⟨trivial, ?_⟩; gi_at_call 118; refine (CallsIn.inRound lp (callsIn_wide.2 (Tryz.strings_Cut _ _ m _ HPS.out HMX.out))).mono ?_; rintro e w2 ⟨rfl, hn2⟩; have ho2 : Only (fun _ => False) W w2 := (hn2.elim fun k hk => hk ▸ (Only.refl _ _).drewN k); rw [HCUT.out]; have HO2 := Lib.hid ho2; clear hn2 ho2)
  gi_upto_region 6 with (refine ⟨trivial, ?_⟩; gi_at_call 119; refine (CallsIn.inRound lp (callsIn_wide.2 (HPR.out _))).mono ?_; rintro e w3 ⟨ho3, rfl⟩; have HO3 := Lib.hid (HO2.out.trans ho3); clear ho3)
  gi_upto_region 7 with (refine ⟨trivial, ?_⟩; gi_at_call 119; refine (CallsIn.inRound lp (callsIn_wide.2 (HPV.out _))).mono ?_; rintro e w4 ⟨ho4, rfl⟩; have HO4 := Lib.hid (HO3.out.trans ho4); clear ho4)
  have hm4 := HT.out.map.kept (grown0 HO4.out) (by simp)
  obtain ⟨v0, ps0, hrun, hv0⟩ := hm4.look_ok keyedS under214 (zero221 _) (R221_of []) (keyOf_s HNL.out)
  rw [HNN.out] at hrun
  obtain ⟨s0, rfl, _⟩ := R221_inv hv0
  have ho4 : Only (fun i => i = H + 5 ∨ i = H + 7) x10 w4 := HT.out.only.then HO4.out (fun _ _ h => h.elim)
  have c4 := (box_cell (ho4.block' HBM.out (by omega))).1
  have ca := (box_cell (ho4.block' HBA.out (by omega))).1
  have cb := (box_cell (ho4.block' HBB.out (by omega))).1
  have h4s := ho4.size
  have h4z : H + 10 ≤ w4.heap.size := by have := HS.out; omega
  have HM4 := Lib.hid hm4
  have HOW := Lib.hid ho4
  clear hm4 hv0 ho4 h4s
  gi_upto_region 8 with fail
  have hrest : ∀ n0, n0 = n → True := fun _ _ => trivial
  have hm5 : (w4.alloc (.cells #[.string s0] 221)).ownsMap Tryz.prog 9 R221 (H + 5) pre.length (DP n1 v1 n2 v2 pre) := HM4.out.alloc _
  obtain ⟨w6, hrun6, hown6, hgr6⟩ := hm5.update keyedS under214 (by have := HPL.out; unfold maxLen; omega) (keyOf_s HNL.out) (R221_of v)
  have ho46 : Only (fun i => i = H + 5) w4 w6 := (((Only.refl (fun _ => False) w4).alloc (.cells #[.string s0] 221)).mono (fun _ _ x => x.elim)).then (Only.ofGrown hgr6) (fun i hi e => (Option.some.inj e).symm)
  have HO6 := Lib.hid ho46
  have HM6 := Lib.hid hown6
  clear hm5 hown6 hgr6 ho46 hrest
  have hfin : goesOn x10.heap.size (Kp3 (H + 8) (H + 7) (H + 9)) (AskT x10 (H + 5) (H + 7) (pre ++ [p]).length (DP n1 v1 n2 v2 (pre ++ [p]))) W .normal { tmps := #[], defers := [] } w6 := by
   have hs := HS.out
   have hoW : Only (fun i => i = H + 5) W w6 := (HO4.out.mono (fun _ _ x => x.elim)).trans HO6.out
   have hWs := HT.out.only.size
   refine ⟨⟨hoW.size, fun k o hB hk _ => ?_⟩, fun k hk => ?_, HT.out.only.trans (hoW.mono (fun i _ e => .inl e)), ?_⟩
   ·exact hoW.block' hk (by omega)
   ·exact hoW.block k (by have := HH8.out; rcases hk with h | h | h | h <;> omega) (by have := HH8.out; rcases hk with h | h | h | h <;> omega)
   ·rw [HD.out, List.length_append]; exact HM6.out
  have HF := Lib.hid hfin
  clear hfin
  have ca5 : (w4.alloc (.cells #[.string s0] 221)).cell? ⟨H, 0, none⟩ = some (.string ⟨a.toArray⟩) := ((Only.refl (fun _ => False) w4).alloc _).cell ca id
  have cb5 : (w4.alloc (.cells #[.string s0] 221)).cell? ⟨H + 1, 0, none⟩ = some (.string ⟨b.toArray⟩) := ((Only.refl (fun _ => False) w4).alloc _).cell cb id
  have c45 : (w4.alloc (.cells #[.string s0] 221)).cell? ⟨H + 6, 0, none⟩ = some (.map (some (H + 5))) := ((Only.refl (fun _ => False) w4).alloc _).cell c4 id
  rcases HMEM.out with hna | hnb
  ·subst hna
   have e1 : (n == n) = true := by simp
   gi_wp2
   have h := HF.out
   rw [HS.out, List.length_append] at h
   exact h
  ·subst hnb
   have e1 : (n == a) = false := by have := HAB.out; simpa using fun e => this e.symm
   have e2 : (n == n) = true := by simp
   gi_wp2
   have h := HF.out
   rw [HS.out, List.length_append] at h
   exact h
 case done =>
  rintro D xs W hD rfl ⟨ho, hm⟩ hK
  have hk1 := keyOf_s HA.out
  have hk2 := keyOf_s HB.out
  have inv : ∀ v z ps, R221 v = some ((.lit (.string z) : DataW Unit), ps) → v = .agg #[.string ⟨z.toArray⟩] := by
   intro v z ps h
   obtain ⟨s, rfl, e⟩ := R221_inv h
   have h := congrArg Prod.fst e
   simp only [DataW.lit.injEq, Lit.string.injEq] at h
   rw [h]
  have hread : ∀ w', w'.heap[H + 5]? = W.heap[H + 5]? → (Instr.lookup 214 (.map (some (H + 5))) (.string ⟨a.toArray⟩) false).run Tryz.prog w' = .ok (.agg #[.string ⟨x.toArray⟩]) w' ∧ (Instr.lookup 214 (.map (some (H + 5))) (.string ⟨b.toArray⟩) false).run Tryz.prog w' = .ok (.agg #[.string ⟨y.toArray⟩]) w' ∧ (Builtin.len_ #[214] 3 #[.map (some (H + 5))]).run Tryz.prog w' = .ok (.int .i64 2) w' := by
   intro w' hw'
   have hm' := map_same hm hw'
   obtain ⟨va, pa, hra, hva⟩ := hm'.lookup keyedS under214 (zero221 _) (R221_of []) hk1
   obtain ⟨vb, pb, hrb, hvb⟩ := hm'.lookup keyedS under214 (zero221 _) (R221_of []) hk2
   rw [HX.out] at hva
   rw [HY.out] at hvb
   have hlen := hm'.len under214 3
   rw [HSZ.out] at hlen
   obtain rfl := inv _ _ _ hva
   obtain rfl := inv _ _ _ hvb
   exact ⟨hra, hrb, hlen⟩
  clear inv
  have ca := (box_cell (ho.block' HBA.out (by omega))).1
  have cb := (box_cell (ho.block' HBB.out (by omega))).1
  have c9 := (box_cell (ho.block' HBM.out (by omega))).1
  have hbx := ho.block' HBX.out (by omega)
  have hby := ho.block' HBY.out (by omega)
  have hbo := ho.block' HBO.out (by omega)
  have cx := (box_cell hbx).1
  have cy := (box_cell hby).1
  have co := (box_cell hbo).1
  have fx := (box_cell hbx).2
  have fy := (box_cell hby).2
  have fo := (box_cell hbo).2
  have HBX2 := Lib.hid hbx
  have HBY2 := Lib.hid hby
  have HBO2 := Lib.hid hbo
  have HOW := Lib.hid ho
  have HK := Lib.hid hK
  have HDL := Lib.hid hD
  have HS2 := Lib.hid (fun w' (h : Only (fun i => i = H + 2 ∨ i = H + 3 ∨ i = H + 4) W w') => (show ((Instr.lookup 214 (.map (some (H + 5))) (.string ⟨a.toArray⟩) false).run Tryz.prog w' = .ok (.agg #[.string ⟨x.toArray⟩]) w' ∧ (Instr.lookup 214 (.map (some (H + 5))) (.string ⟨b.toArray⟩) false).run Tryz.prog w' = .ok (.agg #[.string ⟨y.toArray⟩]) w' ∧ (Builtin.len_ #[214] 3 #[.map (some (H + 5))]).run Tryz.prog w' = .ok (.int .i64 2) w') ∧ w'.cell? ⟨H, 0, none⟩ = some (.string ⟨a.toArray⟩) ∧ w'.cell? ⟨H + 1, 0, none⟩ = some (.string ⟨b.toArray⟩) ∧ w'.cell? ⟨H + 6, 0, none⟩ = some (.map (some (H + 5))) from
   ⟨hread w' (h.block (H + 5) hm.lt (by omega)), h.cell ca (by show ¬ (_ ∨ _ ∨ _); simp only; omega), h.cell cb (by show ¬ (_ ∨ _ ∨ _); simp only; omega), h.cell c9 (by show ¬ (_ ∨ _ ∨ _); simp only; omega)⟩))
  clear ho hm hk1 hk2 hbx hby hbo hK hD hread
  have HBD := Lib.hid (show ∀ W3 : World, (W3.heap = ((((W.setCell ⟨H + 2, 0, none⟩ (.string ⟨x.toArray⟩)).setCell ⟨H + 3, 0, none⟩ (.string ⟨y.toArray⟩)).setCell ⟨H + 4, 0, none⟩ (.bool true))).heap) → W3.heap[D]? = some (.deferred (some [])) ∧ W3.heap[H + 2]? = some (.cells #[.string ⟨x.toArray⟩] 9 (0, 0)) ∧ W3.heap[H + 3]? = some (.cells #[.string ⟨y.toArray⟩] 9 (0, 0)) ∧ W3.heap[H + 4]? = some (.cells #[.bool true] 4 (0, 0)) from by
   intro W3 h3
   have hd := HDL.out
   have hs := HS.out
   rw [h3]
   exact ⟨box_far (box_far (box_far HK.out (by omega) _) (by omega) _) (by omega) _, box_far (box_far (box_set HBX2.out _) (by omega) _) (by omega) _, box_far (box_set (box_far HBY2.out (by omega) _) _) (by omega) _, box_set (box_far (box_far HBO2.out (by omega) _) (by omega) _) _⟩)
  have HON := Lib.hid (show ∀ G, Only (fun i => i = H + 2 ∨ i = H + 3 ∨ i = H + 4) W G → Only (fun _ => False) w G from fun G h => (HO.out.then HOW.out (fun i hi e => by have := HH.out; omega)).then h (fun i hi e => by have := HH.out; omega))
  have hf221 := field221
  gi_wp2
  refine wpIn_wide.2 ?_
  go_region_held3 (fun w' => ((Instr.lookup 214 (.map (some (H + 5))) (.string ⟨a.toArray⟩) false).run Tryz.prog w' = .ok (.agg #[.string ⟨x.toArray⟩]) w' ∧ (Instr.lookup 214 (.map (some (H + 5))) (.string ⟨b.toArray⟩) false).run Tryz.prog w' = .ok (.agg #[.string ⟨y.toArray⟩]) w' ∧ (Builtin.len_ #[214] 3 #[.map (some (H + 5))]).run Tryz.prog w' = .ok (.int .i64 2) w') ∧ w'.cell? ⟨H, 0, none⟩ = some (.string ⟨a.toArray⟩) ∧ w'.cell? ⟨H + 1, 0, none⟩ = some (.string ⟨b.toArray⟩) ∧ w'.cell? ⟨H + 6, 0, none⟩ = some (.map (some (H + 5)))) ((refine HS2.out _ ?_; repeat (first | exact Only.refl _ _ | refine Only.drew ?_ | refine Only.setCell ?_ (fun _ => by first | exact Or.inl rfl | exact Or.inr (Or.inl rfl) | exact Or.inr (Or.inr rfl)) _))) (fail)
  all_goals
   gi_wp2
   obtain ⟨k1, k2, k3, k4⟩ := HBD.out ((((W.setCell ⟨H + 2, 0, none⟩ (.string ⟨x.toArray⟩)).setCell ⟨H + 3, 0, none⟩ (.string ⟨y.toArray⟩)).setCell ⟨H + 4, 0, none⟩ (.bool true)).drew) rfl
   refine ⟨by simp, .inl ⟨_, _, rfl, run_takeDeferred k1, ?_⟩⟩
   have hd := HDL.out
   have hs := HS.out
   refine ⟨_, results_cell3 rfl _ _ _ rfl rfl rfl (loadVar_one (by kernel_rfl) (box_cell ((World.putObj_heap_other (by omega)).trans k2)).1) (loadVar_one (by kernel_rfl) (box_cell ((World.putObj_heap_other (by omega)).trans k3)).1) (loadVar_one (by kernel_rfl) (box_cell ((World.putObj_heap_other (by omega)).trans k4)).1), ?_⟩
   refine ⟨?_, rfl⟩
   have hf := HON.out _ (((((Only.refl (fun i => i = H + 2 ∨ i = H + 3 ∨ i = H + 4) W).setCell (p := ⟨H + 2, 0, none⟩) (fun _ => .inl rfl) (.string ⟨x.toArray⟩)).setCell (p := ⟨H + 3, 0, none⟩) (fun _ => .inr (.inl rfl)) (.string ⟨y.toArray⟩)).setCell (p := ⟨H + 4, 0, none⟩) (fun _ => .inr (.inr rfl)) (.bool true)).drew)
   exact Only.ofBelow (hf.toBelow.trans (belowK_b (w := w) (Nat.le_refl _) _ D _ _ (by have := HH.out; omega) k1 rfl rfl))
open Maps in
theorem two_facts {n1 v1 n2 v2 : Bytes} (hne : n2 ≠ n1) (p1 p2 : Bytes) : Maps.has (DA n1 v1) (.string n2) = false ∧ (DP n1 v1 n2 v2 [p1, p2]).atKey (.string n1) (.lit (.string [])) = .lit (.string v1) ∧ (DP n1 v1 n2 v2 [p1, p2]).atKey (.string n2) (.lit (.string [])) = .lit (.string v2) ∧ Maps.size (DP n1 v1 n2 v2 [p1, p2]) = 2 := by
 have hl : Lit.string n2 ≠ Lit.string n1 := fun e => hne (by injection e)
 have hm0 : Maps.IsMap (DataW.map [] : DataW Unit) := Maps.isMap_empty
 have ht0 : Maps.Tidy (DataW.map [] : DataW Unit) := Maps.tidy_empty
 have ht1 : Maps.Tidy (DA n1 v1) := ht0.put (show WideAt.IsKeyLit (.string n1) from True.intro) _
 have h0 : Maps.has (DA n1 v1) (.string n2) = false := by unfold DA; rw [Maps.has_put_other hl]; rfl
 refine ⟨h0, ?_, ?_, ?_⟩
 ·show ((DA n1 v1).put (.string n2) (.lit (.string v2))).atKey (.string n1) _ = _
  rw [Maps.atKey_put_other hl.symm]
  exact Maps.atKey_put_same hm0 (show WideAt.IsKeyLit (.string n1) from True.intro) _ _
 ·exact Maps.atKey_put_same ht1.isMap (show WideAt.IsKeyLit (.string n2) from True.intro) _ _
 ·show Maps.size ((DA n1 v1).put (.string n2) (.lit (.string v2))) = 2
  rw [Maps.size_put ht1, h0]
  show Maps.size (DA n1 v1) + 1 = 2
  unfold DA
  rw [Maps.size_put ht0]
  rfl
def RdAt (u v e0 : Nat) (w : World) (e : Ending) (w' : World) : Prop := Only (fun _ => False) w w' ∧ e = .returned (.tuple #[.int .u64 u, .int .u64 v, .int .i64 e0])
theorem askQ1a : AskQ [101, 110, 100, 61, 49, 53] [101, 110, 100] [49, 53] := ⟨⟨[101, 110, 100], [49, 53], by decide +kernel, by decide +kernel, by decide +kernel, by decide, by decide⟩, by decide, by decide⟩
theorem askQ1b : AskQ [115, 116, 37, 54, 49, 114, 116, 61, 48] [115, 116, 97, 114, 116] [48] := ⟨⟨[115, 116, 37, 54, 49, 114, 116], [48], by decide +kernel, by decide +kernel, by decide +kernel, by decide, by decide⟩, by decide, by decide⟩
theorem asked_1 {w : World} (hG : Gl w) : Calls Tryz.prog 95 #[.string ⟨#[101, 110, 100, 61, 49, 53, 38, 115, 116, 37, 54, 49, 114, 116, 61, 48]⟩, .string ⟨#[115, 116, 97, 114, 116]⟩, .string ⟨#[101, 110, 100]⟩] w (fun e w' => Only (fun _ => False) w w' ∧ e = .returned (.tuple #[.string ⟨#[48]⟩, .string ⟨#[49, 53]⟩, .bool true])) :=
 asked2 (a := [115, 116, 97, 114, 116]) (b := [101, 110, 100]) (p1 := [101, 110, 100, 61, 49, 53]) (n1 := [101, 110, 100]) (v1 := [49, 53]) (p2 := [115, 116, 37, 54, 49, 114, 116, 61, 48]) (n2 := [115, 116, 97, 114, 116]) (v2 := [48]) (x := [48]) (y := [49, 53]) hG askQ1a askQ1b (by decide +kernel) (by decide +kernel) (.inr rfl) (.inl rfl) (by decide) (by decide) (by decide) (two_facts (v2 := []) (by decide) [] []).1 (two_facts (by decide) _ _).2.2.1 (two_facts (by decide) _ _).2.1 (two_facts (by decide) _ _).2.2.2
set_option maxRecDepth 100000 in
set_option maxHeartbeats 1600000 in
theorem counts_1 {w : World} (hG : Gl w) : Calls Tryz.prog 73 #[.string ⟨#[101, 110, 100, 61, 49, 53, 38, 115, 116, 37, 54, 49, 114, 116, 61, 48]⟩, .string ⟨#[115, 116, 97, 114, 116]⟩, .string ⟨#[101, 110, 100]⟩] w (RdAt 0 15 0 w) := by
 have HG := Lib.hid hG
 clear hG
 go_enter Tryz.func73, Tryz.ntmps73
 go_upto_region 2 with (go_at_call 95; refine (asked_1 HG.out).mono ?_; rintro e w2 ⟨ho2, rfl⟩; have HO2 := Lib.hid ho2; clear ho2)
 go_upto_region 3 with (go_at_call 96; refine (count_0 (HG.out.only HO2.out (fun _ _ => id))).mono ?_; rintro e w3 ⟨ho3, rfl⟩; have HO3 := Lib.hid (HO2.out.trans ho3); clear ho3)
 go_wp2_with (go_at_call 96; refine (count_15 (HG.out.only HO3.out (fun _ _ => id))).mono ?_; rintro e w4 ⟨ho4, rfl⟩; have HO4 := Lib.hid (HO3.out.trans ho4); clear ho4)
 go_ret3
 exact ⟨HO4.out, rfl⟩
theorem readE_1 {w : World} (hG : Gl w) : Calls Tryz.prog 48 #[.string ⟨#[101, 110, 100, 61, 49, 53, 38, 115, 116, 37, 54, 49, 114, 116, 61, 48]⟩] w (RdAt 0 15 0 w) := by
 have HG := Lib.hid hG
 clear hG
 go_enter Tryz.func48, Tryz.ntmps48
 go_wp2_with (go_at_call 73; refine (counts_1 HG.out).mono ?_; rintro e w2 ⟨ho2, rfl⟩; have HO2 := Lib.hid ho2; clear ho2)
 go_ret3
 exact ⟨HO2.out, rfl⟩
theorem askQ2a : AskQ [115, 116, 97, 114, 116, 61, 48, 48] [115, 116, 97, 114, 116] [48, 48] := ⟨⟨[115, 116, 97, 114, 116], [48, 48], by decide +kernel, by decide +kernel, by decide +kernel, by decide, by decide⟩, by decide, by decide⟩
theorem askQ2b : AskQ [101, 110, 100, 61, 49] [101, 110, 100] [49] := ⟨⟨[101, 110, 100], [49], by decide +kernel, by decide +kernel, by decide +kernel, by decide, by decide⟩, by decide, by decide⟩
theorem asked_2 {w : World} (hG : Gl w) : Calls Tryz.prog 95 #[.string ⟨#[115, 116, 97, 114, 116, 61, 48, 48, 38, 101, 110, 100, 61, 49]⟩, .string ⟨#[115, 116, 97, 114, 116]⟩, .string ⟨#[101, 110, 100]⟩] w (fun e w' => Only (fun _ => False) w w' ∧ e = .returned (.tuple #[.string ⟨#[48, 48]⟩, .string ⟨#[49]⟩, .bool true])) :=
 asked2 (a := [115, 116, 97, 114, 116]) (b := [101, 110, 100]) (p1 := [115, 116, 97, 114, 116, 61, 48, 48]) (n1 := [115, 116, 97, 114, 116]) (v1 := [48, 48]) (p2 := [101, 110, 100, 61, 49]) (n2 := [101, 110, 100]) (v2 := [49]) (x := [48, 48]) (y := [49]) hG askQ2a askQ2b (by decide +kernel) (by decide +kernel) (.inl rfl) (.inr rfl) (by decide) (by decide) (by decide) (two_facts (v2 := []) (by decide) [] []).1 (two_facts (by decide) _ _).2.1 (two_facts (by decide) _ _).2.2.1 (two_facts (by decide) _ _).2.2.2
set_option maxRecDepth 100000 in
set_option maxHeartbeats 1600000 in
theorem counts_2 {w : World} (hG : Gl w) : Calls Tryz.prog 73 #[.string ⟨#[115, 116, 97, 114, 116, 61, 48, 48, 38, 101, 110, 100, 61, 49]⟩, .string ⟨#[115, 116, 97, 114, 116]⟩, .string ⟨#[101, 110, 100]⟩] w (RdAt 0 0 43 w) := by
 have HG := Lib.hid hG
 clear hG
 go_enter Tryz.func73, Tryz.ntmps73
 go_upto_region 2 with (go_at_call 95; refine (asked_2 HG.out).mono ?_; rintro e w2 ⟨ho2, rfl⟩; have HO2 := Lib.hid ho2; clear ho2)
 go_upto_region 3 with (go_at_call 96; refine (count_00 (HG.out.only HO2.out (fun _ _ => id))).mono ?_; rintro e w3 ⟨ho3, rfl⟩; have HO3 := Lib.hid (HO2.out.trans ho3); clear ho3)
 go_wp2_with (go_at_call 96; refine (count_1 (HG.out.only HO3.out (fun _ _ => id))).mono ?_; rintro e w4 ⟨ho4, rfl⟩; have HO4 := Lib.hid (HO3.out.trans ho4); clear ho4)
 go_ret3
 exact ⟨HO4.out, rfl⟩
theorem readE_2 {w : World} (hG : Gl w) : Calls Tryz.prog 48 #[.string ⟨#[115, 116, 97, 114, 116, 61, 48, 48, 38, 101, 110, 100, 61, 49]⟩] w (RdAt 0 0 43 w) := by
 have HG := Lib.hid hG
 clear hG
 go_enter Tryz.func48, Tryz.ntmps48
 go_wp2_with (go_at_call 73; refine (counts_2 HG.out).mono ?_; rintro e w2 ⟨ho2, rfl⟩; have HO2 := Lib.hid ho2; clear ho2)
 go_ret3
 exact ⟨HO2.out, rfl⟩
end Go.Proofs.YtjehnejgojgahaaGreatDoor
