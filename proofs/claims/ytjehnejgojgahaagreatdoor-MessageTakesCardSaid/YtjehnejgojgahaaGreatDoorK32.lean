/-
  A part of the proof of MessageTakes: the texts Y2 Y3 Y4 Y5 Z1 Z2 Y6 Y7 Z3.
-/
import Derived.Test.YtjehnejgojgahaaGreatDoorK23
import Derived.Test.YtjehnejgojgahaaGreatDoorK26
import Derived.Test.YtjehnejgojgahaaGreatDoorK31
import Derived.Deep.RegionHeld3
import Derived.Deep.RegionLaw
namespace Go.Proofs.YtjehnejgojgahaaGreatDoor
open Go.RowKit
set_option linter.unusedVariables false
set_option linter.unusedSimpArgs false
def listV (l : List JV) : JV := .mk 5 [] 0 l []
def EJ (Y : Nat → Prop) (w : World) (v : JV) (cs : List Value) : Prop := JIs Y w v cs
theorem encJ : EncOK 5 EJ where
 len := fun h => JIs.len h
 one := by
  intro Y w a cs h
  obtain ⟨A, c, B, d, rfl⟩ := JIs.form h
  rfl
 only := fun h ho hG => JIs.only h ho hG
def RowAt {α : Type} (E : (Nat → Prop) → World → α → List Value → Prop) (size : Nat) (Y : Nat → Prop) (w : World) (A : Option Addr) (l : List α) : Prop :=
 ∀ i a, l[i]? = some a → ∃ b o cs, A = some ⟨b, o, none⟩ ∧ w.rangeAt b (o + i * size) cs ∧ cs.length = size ∧ E Y w a cs
theorem rangeAt.keep {w w' : World} {b o : Nat} {cs : List Value} (h : w.rangeAt b o cs) (ho : Only (fun _ => False) w w') : w'.rangeAt b o cs := fun j x hx => ho.cell (h j x hx) id
theorem rangeAt.only {w w' : World} {b o : Nat} {cs : List Value} {G : Nat → Prop} (h : w.rangeAt b o cs) (ho : Only G w w') (hg : ¬ G b) : w'.rangeAt b o cs := fun j x hx => ho.cell (h j x hx) hg
theorem rangeAt.lt {w : World} {b o : Nat} {cs : List Value} (h : w.rangeAt b o cs) (hne : cs ≠ []) : b < w.heap.size := by
 cases cs with
 | nil => exact absurd rfl hne
 | cons x cs => exact cell_lt (h 0 x rfl)
structure LMid (Hv : Nat) (w2 wr : World) (vl : Value) (vs : List JV) : Prop where
 blk : Blk wr Hv (cells5 5 [] 0 vl (.slice none 0 0)) 79
 row : RowOwn EJ 5 79 w2.heap.size wr vl vs
 only : Only (fun i => i = Hv) w2 wr
theorem LMid.snoc {Hv gg cap n : Nat} {w2 wr wx wa wy : World} {vl : Value} {vs : List JV} {v : JV} {cs xs : List Value} (h : LMid Hv w2 wr vl vs) (hn : vs.length = n) (hv : Hv < w2.heap.size) (hx : Only (fun _ => False) wr wx) (hj : JIs (fun b => wr.heap.size ≤ b) wx v cs)
  (ha : Only (fun _ => False) wx wa) (hxs : wr.ownsRow w2.heap.size 79 5 vl n xs) (hrow : RowE EJ 5 (fun b => w2.heap.size ≤ b ∧ vl.ownBlock ≠ some b) wr vs xs)
  (ho : wy.ownsRow w2.heap.size 79 5 (.slice (some ⟨gg, 0, none⟩) (n + 1) cap) (n + 1) (xs ++ cs)) (hg : wa.grownBy wy vl.ownBlock) (hor : vl.ownBlock = some gg ∨ gg = wa.heap.size) :
  LMid Hv w2 (wy.setCell ⟨Hv, 3, none⟩ (.slice (some ⟨gg, 0, none⟩) (n + 1) cap)) (.slice (some ⟨gg, 0, none⟩) (n + 1) cap) (vs ++ [v]) := by
 subst hn
 have hlt : ∀ k, vl.ownBlock = some k → w2.heap.size ≤ k ∧ k < wr.heap.size := h.row.lt
 have s1 := hx.size
 have s2 := ha.size
 have s0 := h.only.size
 have oa : Only (fun _ => False) wr wa := hx.trans ha
 have ggv : gg ≠ Hv := by
  rcases hor with e | e
  ·have := hlt _ e; omega
  ·omega
 have hrow2 : RowOwn EJ 5 79 w2.heap.size wy (.slice (some ⟨gg, 0, none⟩) (vs.length + 1) cap) (vs ++ [v]) := by
  refine RowOwn.snoc (w := wa) (v := vl) encJ (hrow.only encJ oa (fun b hb hy => ⟨id, hy⟩)) ?_ ho hg rfl hor
  have hj2 : JIs (fun b => w2.heap.size ≤ b ∧ vl.ownBlock ≠ some b) wa v cs := (hj.keep ha).mono (fun b _ hb => ⟨by omega, fun e => by have := hlt _ e; omega⟩)
  exact hj2
 refine ⟨?_, ?_, ?_⟩
 ·have hb : Blk wy Hv (cells5 5 [] 0 vl (.slice none 0 0)) 79 := (h.blk.only oa id).only (Only.ofGrown hg) (fun e => by have := hlt _ e; omega)
  exact hb.set' 3 _ rfl
 ·exact hrow2.only encJ ((Only.refl (fun i => i = Hv) wy).setCell (p := ⟨Hv, 3, none⟩) (fun _ => rfl) _) (fun b hb _ e => by omega)
 ·refine ((h.only.trans (oa.mono (fun _ _ h => h.elim))).then (Only.ofGrown hg) (fun i hi e => ?_)).setCell (p := ⟨Hv, 3, none⟩) (fun _ => rfl) _
  have := hlt _ e; omega
theorem JIs.out5 {X : Nat → Prop} {w : World} {v : JV} {cs : List Value} (h : JIs X w v cs) : ∃ (k : Int) (s : ByteArray) (n : Int) (A : Option Addr) (a c : Nat) (B : Option Addr) (b d : Nat), cs = [.int .i64 k, .string s, .int .u64 n, .slice A a c, .slice B b d] := by
 obtain ⟨A, c, B, d, rfl⟩ := h.form
 exact ⟨_, _, _, _, _, _, _, _, _, rfl⟩
theorem alloc_lt6 (w : World) (o : Obj) : w.heap.size < (w.alloc o).heap.size := by simp
theorem LMid.store {Hv : Nat} {w2 wr wx wa wy : World} {vl : Value} {vs : List JV} (h : LMid Hv w2 wr vl vs) (hv : Hv < w2.heap.size) (hx : Only (fun _ => False) wr wx) (ha : Only (fun _ => False) wx wa) (hg : wa.grownBy wy vl.ownBlock) : Blk wy Hv (cells5 5 [] 0 vl (.slice none 0 0)) 79 :=
 (h.blk.only (hx.trans ha) id).only (Only.ofGrown hg) (fun e => by have := h.row.lt _ e; omega)
theorem blk_range {w : World} {g : Nat} {l : Bytes} {T : TypeId} (h : Blk w g (u8s l) T) : w.rangeAt g 0 (u8s l) := (blk_bytes h).range
theorem LMid.value {Hv : Nat} {w2 wr : World} {vl : Value} {vs : List JV} (h : LMid Hv w2 wr vl vs) : JIs (fun b => w2.heap.size ≤ b) wr (listV vs) (cells5 5 [] 0 vl (.slice none 0 0)) := by
 obtain ⟨xs, h1, h2⟩ := h.row
 have hx : RowIs (fun b => w2.heap.size ≤ b) wr vs xs := ⟨h2.1, fun i v hv => (h2.2 i v hv).mono (fun b _ hb => hb.1)⟩
 exact jis_of_rows (base := w2.heap.size) (e := 79) (f := 9) (ks := []) h1 (World.ownsRow_nil wr w2.heap.size 9 1) hx (fun b hb => (World.ownsRow.lt h1 b hb).1) (fun b hb => by cases hb)
theorem under24x : Tryz.prog.underlying 24 = some (.array 32 5) := by kernel_rfl
set_option maxRecDepth 100000 in
set_option maxHeartbeats 6400000 in
theorem list_hash {Y : Nat → Prop} {A : Option Addr} {c : Nat} {l : List Bytes} {w : World} (hR : RowAt ED 32 Y w A l) (hl : l.length ≤ 3000000) :
  Calls Tryz.prog 58 #[.slice A l.length c, .func (.func 55) #[] #[]] w (VOut w.heap.size (listV (l.map wordV)) w) := by
 have HR := Lib.hid hR
 have HL := Lib.hid hl
 have hlz : (l.length : Int) ≤ 3000000 := by omega
 obtain ⟨H, hH⟩ : ∃ H, H = w.heap.size := ⟨_, rfl⟩
 have hb0 : Blk ((w.alloc (.cells #[.int .i64 0, .string ⟨#[]⟩, .int .u64 0, .slice none 0 0, .slice none 0 0] 79)).alloc (.cells #[.int .i64 0, .string ⟨#[]⟩, .int .u64 0, .slice none 0 0, .slice none 0 0] 79)) (w.heap.size + 1) [.int .i64 0, .string ⟨#[]⟩, .int .u64 0, .slice none 0 0, .slice none 0 0] 79 := by
  have := Blk.new (w.alloc (.cells #[.int .i64 0, .string ⟨#[]⟩, .int .u64 0, .slice none 0 0, .slice none 0 0] 79)) [.int .i64 0, .string ⟨#[]⟩, .int .u64 0, .slice none 0 0, .slice none 0 0] 79
  rwa [World.size_alloc] at this
 have HB0 := Lib.hid hb0
 clear hR hl hb0
 go_enter Tryz.func58, Tryz.ntmps58
 go_upto_region 3 with (refine wpList_store_blk (cs := [.int .i64 5, .string ⟨#[]⟩, .int .u64 0, .slice none 0 0, .slice none 0 0]) rfl 79 (.tmp 5) (.tmp 8) rfl rfl rfl rfl HB0.out rfl info79s rfl ?_; intro w2 hb2 ho2; have HB2 := Lib.hid hb2; have HO2 := Lib.hid (show Only (fun _ => False) w w2 from (((Only.refl _ w).alloc _).alloc _).then ho2 (fun i hi e => by omega)); have HR2 := Lib.hid (((Blk.new w [.int .i64 0, .string ⟨#[]⟩, .int .u64 0, .slice none 0 0, .slice none 0 0] 79).alloc (.cells #[.int .i64 0, .string ⟨#[]⟩, .int .u64 0, .slice none 0 0, .slice none 0 0] 79)).only ho2 (fun e => by omega)); have hs2 := ho2.size; rw [World.size_alloc, World.size_alloc] at hs2; have HS2 := Lib.hid hs2; clear hb2 ho2 hs2)
 have HH := Lib.hid hH
 generalize hHv : w.heap.size + 1 = Hv at HB2 ⊢
 have HHV := Lib.hid hHv
 clear hH hHv
 go_loopw [11] (fun s11 wr => ∃ (j : Nat) (vl : Value), j ≤ l.length ∧ s11 = .int .i64 (j : Int) ∧ LMid Hv w2 wr vl ((l.take j).map wordV)) (fun i _ => l.length - (intOf i).toNat)
 case atStart => exact ⟨0, .slice none 0 0, by omega, rfl, HB2.out, RowOwn.nil _ _ _, Only.refl _ _⟩
 case round =>
  obtain ⟨j, vl, hj, rfl, hm⟩ := hrel
  have HM := Lib.hid hm
  clear hm
  have hvlt : Hv < w2.heap.size := HB2.out.lt
  have HVLT := Lib.hid hvlt
  clear hvlt
  rcases Nat.lt_or_ge j l.length with hlt | hge
  ·obtain ⟨x, hx⟩ : ∃ x, l[j]? = some x := ⟨l[j], List.getElem?_eq_getElem hlt⟩
   have q : decide ((j : Int) < (l.length : Int)) = true := by simp; omega
   have hjz : (j : Int) < (l.length : Int) := by omega
   obtain ⟨bA, oA, cs, rfl, hrg, hcl, hex⟩ := HR.out j x hx
   have hwr : Only (fun _ => False) w wr := HO2.out.then HM.out.only (fun i hi e => by have := HHV.out; omega)
   have hrg2 := rangeAt.keep hrg hwr
   have HRG := Lib.hid hrg2
   have HCL := Lib.hid hcl
   have HEX := Lib.hid hex
   have HMX := Lib.hid (List.mem_of_getElem? hx)
   have HWR := Lib.hid hwr
   have HTS := Lib.hid (take_snoc hx)
   have HLT := Lib.hid hlt
   have HKL := Lib.hid (show ((l.take j).map wordV).length = j by rw [List.length_map, List.length_take]; omega)
   have HBV := Lib.hid HM.out.blk
   obtain ⟨xs, hown, hrow⟩ := HM.out.row
   rw [HKL.out] at hown
   have HOWN := Lib.hid hown
   have HROW := Lib.hid hrow
   have hjn : j ≤ 3000000 := by have := HL.out; omega
   clear hx hrg hrg2 hcl hex hwr hlt hown hrow
   have hxl : x.length = 32 := HEX.out.2
   have HXL := Lib.hid hxl
   have hcs : cs = u8s x := HEX.out.1
   subst hcs
   clear hxl
   go_upto_region 5 with (first
    | (refine wpList_load_arr rfl 24 (.tmp 13) rfl rfl HRG.out under24x (info24l HXL.out) ?_)
    | (refine wpList_alloc_blk rfl 24 7 rfl rfl zero24 ?_; intro w4 hb4 ho4 hs4; have HB4 := Lib.hid hb4; have HO4 := Lib.hid ho4; clear hb4 ho4 hs4)
    | (refine wpList_store_blk (cs := u8s x) rfl 24 (.tmp 7) (.tmp 14) rfl rfl rfl rfl HB4.out (by rw [u8s_length, u8s_length, HXL.out]; rfl) (info24s HXL.out) (u8s_one x) ?_; intro w5 hb5 ho5; have HB5 := Lib.hid hb5; have HO5 := Lib.hid (HO4.out.then ho5 (fun i hi e => by omega)); have k3 := (HBV.out.only HO5.out id).cell 3 rfl; have HK3 := Lib.hid k3; clear hb5 ho5))
   have hvs : Hv < w5.heap.size := cell_lt k3
   have hvf := (HBV.out.only HO5.out id).frozen 3
   have HS5 := Lib.hid (show w5.drew.rangeAt wr.heap.size 0 (u8s x) from blk_range HB5.out.drew)
   have hu24 := under24x
   have hi24 := info24l HXL.out
   have hszr := HVLT.out
   have hszr2 := HM.out.only.size
   have hrv : ¬ (wr.heap.size = Hv) := by omega
   refine wp_region_held_drew (S := fun w' => w'.rangeAt wr.heap.size 0 (u8s x)) (by kernel_rfl) HS5.out (fun hHeld => ?_)
   refine wpAnyH_take (i := 0) (oi := { dst := some 15, op := Op.fieldAddr 79 (Operand.tmp 5) 3, type := 0, pos := "message.go:52", after := #[], guard := none }) (v := .pointer (some ⟨Hv, 3, none⟩)) rfl (by kernel_rfl) (by kernel_rfl) (by kernel_rfl) (fun _ _ _ h => h) (Or.inl ⟨by rfl, ?y0_1⟩) (by assumption) ?r0_1
   case y0_1 => intro w hSw; go_simp
   try simp only [Act.put, List.setIfInBounds_toArray, List.set_cons_zero, List.set_cons_succ]
   refine wpAnyH_take (i := 2) (oi := { dst := some 17, op := Op.move (Operand.tmp 1), type := 123, pos := "message.go:52", after := #[], guard := none }) (v := .func (.func 55) #[] #[]) rfl (by kernel_rfl) (by kernel_rfl) (by kernel_rfl) (fun _ _ _ h => h) (Or.inl ⟨by rfl, ?y2_2⟩) (by assumption) ?r2_2
   case y2_2 => intro w hSw; go_simp
   try simp only [Act.put, List.setIfInBounds_toArray, List.set_cons_zero, List.set_cons_succ]
   refine wpAnyH_take (i := 3) (oi := { dst := some 18, op := Op.load 24 (Operand.tmp 7), type := 24, pos := "message.go:52", after := #[], guard := none }) (v := .agg (u8s x).toArray) rfl (by kernel_rfl) (by kernel_rfl) (by kernel_rfl) (fun _ _ _ h => h) (yieldsIf_load_mid (by rfl) 24 (.tmp 7) rfl wr.heap.size 0 rfl (u8s x) _ (fun w h => h) hu24 rfl hi24) (by assumption) ?r3
   try simp only [Act.put, List.setIfInBounds_toArray, List.set_cons_zero, List.set_cons_succ]
   refine wpAnyH_ready (rs := [1, 4]) (by kernel_rfl) (by simp) ?_
   refine AllReadyH.cons (o := { dst := some 16, op := Op.load 76 (Operand.tmp 15), type := 76, pos := "message.go:52", after := #[{ on := 0, ground := Ground.data }], guard := none }) rfl (fun K hK => ?_) (AllReadyH.cons (o := { dst := some 19, op := Op.call { callee := Callee.value (Operand.tmp 17), args := #[Operand.tmp 18], argTypes := #[24] }, type := 79, pos := "message.go:52", after := #[{ on := 2, ground := Ground.data }, { on := 3, ground := Ground.data }], guard := none }) rfl (fun K hK => ?_) AllReadyH.nil)
   ·go_simp
    refine hK.out _ _ (by assumption) (fun hHeld => ?_)
    clear hK K
    try simp only [Act.put, List.setIfInBounds_toArray, List.set_cons_zero, List.set_cons_succ]
    refine wpAnyH_ready (rs := [4]) (by kernel_rfl) (by simp) ?_
    refine AllReadyH.cons (o := { dst := some 19, op := Op.call { callee := Callee.value (Operand.tmp 17), args := #[Operand.tmp 18], argTypes := #[24] }, type := 79, pos := "message.go:52", after := #[{ on := 2, ground := Ground.data }, { on := 3, ground := Ground.data }], guard := none }) rfl (fun K hK => ?_) AllReadyH.nil
    go_simp
    (go_at_call 55; refine (hashV_any HXL.out).mono ?_; rintro e w6 ⟨ho6, cs6, rfl, hj6⟩; have ho6' : Only (fun _ => False) wr w6 := HO5.out.drew.trans ho6; have hj6' : JIs (fun b => wr.heap.size ≤ b) w6 (wordV x) cs6 := hj6.mono (fun b _ hb => Nat.le_trans HO5.out.size hb); obtain ⟨k6, s6, n6, A6, a6, c6, B6, b6, d6, rfl⟩ := hj6'.out5; have k6 := (HBV.out.only ho6' id).cell 3 rfl; have k6s := cell_lt k6; have HO6 := Lib.hid ho6'; have HS6 := Lib.hid (rangeAt.keep HS5.out ho6); have HJ6 := Lib.hid hj6'; clear ho6 ho6' hj6 hj6')
    refine hK.out _ _ HS6.out (fun hHeld => ?_)
    clear hK K
    try simp only [Act.put, List.setIfInBounds_toArray, List.set_cons_zero, List.set_cons_succ]
    refine wpAnyH_ready (rs := [5]) (by kernel_rfl) (by simp) ?_
    refine AllReadyH.cons (o := { dst := some 20, op := Op.buildSlice 76 1 #[(0, Operand.tmp 19)], type := 76, pos := "message.go:52", after := #[{ on := 4, ground := Ground.data }], guard := none }) rfl (fun K hK => ?_) AllReadyH.nil
    go_simp
    refine hK.out _ _ (rangeAt.keep HS6.out ((Only.refl _ _).alloc _)) (fun hHeld => ?_)
    clear hK K
    try simp only [Act.put, List.setIfInBounds_toArray, List.set_cons_zero, List.set_cons_succ]
    refine wpAnyH_ready (rs := [6]) (by kernel_rfl) (by simp) ?_
    refine AllReadyH.cons (o := { dst := some 21, op := Op.call { callee := Callee.builtin Builtin.append, args := #[Operand.tmp 16, Operand.tmp 20], argTypes := #[76, 76] }, type := 76, pos := "message.go:52", after := #[{ on := 1, ground := Ground.data }, { on := 5, ground := Ground.data }, { on := 4, ground := Ground.chain }], guard := none }) rfl (fun K hK => ?_) AllReadyH.nil
    refine step_append79 (by rfl) _ _ (by rfl) (by rfl) (own_only HOWN.out (HO6.out.alloc _) (fun _ _ h => h)) (by rfl) (Blk.new w6 _ 79) (by rfl) (by rfl) hjn (Nat.le_trans hszr2 (Nat.le_trans HO6.out.size (Nat.le_of_lt (alloc_lt6 w6 _)))) ?_; intro gg cap w8 hown8 hgr8 hor8; have hm8 := LMid.snoc HM.out HKL.out HVLT.out HO6.out HJ6.out ((Only.refl _ w6).alloc _) HOWN.out HROW.out hown8 hgr8 hor8; have hb8 := LMid.store HM.out HVLT.out HO6.out ((Only.refl _ w6).alloc _) hgr8; have k8 := hb8.cell 3 rfl; have f8 := hb8.frozen 3; have HM8 := Lib.hid hm8; have HS8 := Lib.hid (rangeAt.only (rangeAt.keep HS6.out ((Only.refl _ w6).alloc _)) (Only.ofGrown hgr8) (fun e => by have := (World.ownsRow.lt HOWN.out _ e).2; omega)); clear hm8 hb8 hown8 hgr8 hor8
    refine hK.out _ _ HS8.out (fun hHeld => ?_)
    clear hK K
    try simp only [Act.put, List.setIfInBounds_toArray, List.set_cons_zero, List.set_cons_succ]
    refine wpAnyH_take (i := 7) (oi := { dst := some 22, op := Op.fieldAddr 79 (Operand.tmp 5) 3, type := 0, pos := "message.go:52", after := #[{ on := 0, ground := Ground.phase }, { on := 1, ground := Ground.phase }, { on := 2, ground := Ground.phase }, { on := 3, ground := Ground.phase }, { on := 4, ground := Ground.phase }, { on := 5, ground := Ground.phase }, { on := 6, ground := Ground.phase }], guard := none }) (v := .pointer (some ⟨Hv, 3, none⟩)) rfl (by kernel_rfl) (by kernel_rfl) (by kernel_rfl) (fun _ _ _ h => h) (Or.inl ⟨by rfl, ?y7_3⟩) (by assumption) ?r7_3
    case y7_3 => intro w hSw; go_simp
    try simp only [Act.put, List.setIfInBounds_toArray, List.set_cons_zero, List.set_cons_succ]
    refine wpAnyH_ready (rs := [8]) (by kernel_rfl) (by simp) ?_
    refine AllReadyH.cons (o := { dst := none, op := Op.store 76 (Operand.tmp 22) (Operand.tmp 21), type := 0, pos := "message.go:52", after := #[{ on := 7, ground := Ground.data }, { on := 6, ground := Ground.data }, { on := 6, ground := Ground.chain }, { on := 0, ground := Ground.phase }, { on := 1, ground := Ground.phase }, { on := 2, ground := Ground.phase }, { on := 3, ground := Ground.phase }, { on := 4, ground := Ground.phase }, { on := 5, ground := Ground.phase }, { on := 6, ground := Ground.phase }], guard := none }) rfl (fun K hK => ?_) AllReadyH.nil
    go_simp
    refine hK.out _ _ (rangeAt.only HS8.out ((Only.refl (fun i => i = Hv) _).setCell (p := ⟨Hv, 3, none⟩) (fun _ => rfl) _) hrv) (fun hHeld => ?_)
    clear hK K
    try simp only [Act.put, List.setIfInBounds_toArray, List.set_cons_zero, List.set_cons_succ]
    refine wpAnyH_done (by kernel_rfl) ?_ _
    go_wp2
    go_roundw
    case rel =>
     refine ⟨j + 1, .slice (some ⟨gg, 0, none⟩) (j + 1) cap, by have := HLT.out; omega, by push_cast; rfl, ?_⟩
     rw [HTS.out, List.map_append]
     exact HM8.out
    case measure => have := HLT.out; simp [intOf]; omega
   ·go_simp
    (go_at_call 55; refine (hashV_any HXL.out).mono ?_; rintro e w6 ⟨ho6, cs6, rfl, hj6⟩; have ho6' : Only (fun _ => False) wr w6 := HO5.out.drew.trans ho6; have hj6' : JIs (fun b => wr.heap.size ≤ b) w6 (wordV x) cs6 := hj6.mono (fun b _ hb => Nat.le_trans HO5.out.size hb); obtain ⟨k6, s6, n6, A6, a6, c6, B6, b6, d6, rfl⟩ := hj6'.out5; have k6 := (HBV.out.only ho6' id).cell 3 rfl; have k6s := cell_lt k6; have HO6 := Lib.hid ho6'; have HS6 := Lib.hid (rangeAt.keep HS5.out ho6); have HJ6 := Lib.hid hj6'; clear ho6 ho6' hj6 hj6')
    refine hK.out _ _ HS6.out (fun hHeld => ?_)
    clear hK K
    try simp only [Act.put, List.setIfInBounds_toArray, List.set_cons_zero, List.set_cons_succ]
    refine wpAnyH_ready (rs := [1, 5]) (by kernel_rfl) (by simp) ?_
    refine AllReadyH.cons (o := { dst := some 16, op := Op.load 76 (Operand.tmp 15), type := 76, pos := "message.go:52", after := #[{ on := 0, ground := Ground.data }], guard := none }) rfl (fun K hK => ?_) (AllReadyH.cons (o := { dst := some 20, op := Op.buildSlice 76 1 #[(0, Operand.tmp 19)], type := 76, pos := "message.go:52", after := #[{ on := 4, ground := Ground.data }], guard := none }) rfl (fun K hK => ?_) AllReadyH.nil)
    ·go_simp
     refine hK.out _ _ (by assumption) (fun hHeld => ?_)
     clear hK K
     try simp only [Act.put, List.setIfInBounds_toArray, List.set_cons_zero, List.set_cons_succ]
     refine wpAnyH_ready (rs := [5]) (by kernel_rfl) (by simp) ?_
     refine AllReadyH.cons (o := { dst := some 20, op := Op.buildSlice 76 1 #[(0, Operand.tmp 19)], type := 76, pos := "message.go:52", after := #[{ on := 4, ground := Ground.data }], guard := none }) rfl (fun K hK => ?_) AllReadyH.nil
     go_simp
     refine hK.out _ _ (rangeAt.keep HS6.out ((Only.refl _ _).alloc _)) (fun hHeld => ?_)
     clear hK K
     try simp only [Act.put, List.setIfInBounds_toArray, List.set_cons_zero, List.set_cons_succ]
     refine wpAnyH_ready (rs := [6]) (by kernel_rfl) (by simp) ?_
     refine AllReadyH.cons (o := { dst := some 21, op := Op.call { callee := Callee.builtin Builtin.append, args := #[Operand.tmp 16, Operand.tmp 20], argTypes := #[76, 76] }, type := 76, pos := "message.go:52", after := #[{ on := 1, ground := Ground.data }, { on := 5, ground := Ground.data }, { on := 4, ground := Ground.chain }], guard := none }) rfl (fun K hK => ?_) AllReadyH.nil
     refine step_append79 (by rfl) _ _ (by rfl) (by rfl) (own_only HOWN.out (HO6.out.alloc _) (fun _ _ h => h)) (by rfl) (Blk.new w6 _ 79) (by rfl) (by rfl) hjn (Nat.le_trans hszr2 (Nat.le_trans HO6.out.size (Nat.le_of_lt (alloc_lt6 w6 _)))) ?_; intro gg cap w8 hown8 hgr8 hor8; have hm8 := LMid.snoc HM.out HKL.out HVLT.out HO6.out HJ6.out ((Only.refl _ w6).alloc _) HOWN.out HROW.out hown8 hgr8 hor8; have hb8 := LMid.store HM.out HVLT.out HO6.out ((Only.refl _ w6).alloc _) hgr8; have k8 := hb8.cell 3 rfl; have f8 := hb8.frozen 3; have HM8 := Lib.hid hm8; have HS8 := Lib.hid (rangeAt.only (rangeAt.keep HS6.out ((Only.refl _ w6).alloc _)) (Only.ofGrown hgr8) (fun e => by have := (World.ownsRow.lt HOWN.out _ e).2; omega)); clear hm8 hb8 hown8 hgr8 hor8
     refine hK.out _ _ HS8.out (fun hHeld => ?_)
     clear hK K
     try simp only [Act.put, List.setIfInBounds_toArray, List.set_cons_zero, List.set_cons_succ]
     refine wpAnyH_take (i := 7) (oi := { dst := some 22, op := Op.fieldAddr 79 (Operand.tmp 5) 3, type := 0, pos := "message.go:52", after := #[{ on := 0, ground := Ground.phase }, { on := 1, ground := Ground.phase }, { on := 2, ground := Ground.phase }, { on := 3, ground := Ground.phase }, { on := 4, ground := Ground.phase }, { on := 5, ground := Ground.phase }, { on := 6, ground := Ground.phase }], guard := none }) (v := .pointer (some ⟨Hv, 3, none⟩)) rfl (by kernel_rfl) (by kernel_rfl) (by kernel_rfl) (fun _ _ _ h => h) (Or.inl ⟨by rfl, ?y7_4⟩) (by assumption) ?r7_4
     case y7_4 => intro w hSw; go_simp
     try simp only [Act.put, List.setIfInBounds_toArray, List.set_cons_zero, List.set_cons_succ]
     refine wpAnyH_ready (rs := [8]) (by kernel_rfl) (by simp) ?_
     refine AllReadyH.cons (o := { dst := none, op := Op.store 76 (Operand.tmp 22) (Operand.tmp 21), type := 0, pos := "message.go:52", after := #[{ on := 7, ground := Ground.data }, { on := 6, ground := Ground.data }, { on := 6, ground := Ground.chain }, { on := 0, ground := Ground.phase }, { on := 1, ground := Ground.phase }, { on := 2, ground := Ground.phase }, { on := 3, ground := Ground.phase }, { on := 4, ground := Ground.phase }, { on := 5, ground := Ground.phase }, { on := 6, ground := Ground.phase }], guard := none }) rfl (fun K hK => ?_) AllReadyH.nil
     go_simp
     refine hK.out _ _ (rangeAt.only HS8.out ((Only.refl (fun i => i = Hv) _).setCell (p := ⟨Hv, 3, none⟩) (fun _ => rfl) _) hrv) (fun hHeld => ?_)
     clear hK K
     try simp only [Act.put, List.setIfInBounds_toArray, List.set_cons_zero, List.set_cons_succ]
     refine wpAnyH_done (by kernel_rfl) ?_ _
     go_wp2
     go_roundw
     case rel =>
      refine ⟨j + 1, .slice (some ⟨gg, 0, none⟩) (j + 1) cap, by have := HLT.out; omega, by push_cast; rfl, ?_⟩
      rw [HTS.out, List.map_append]
      exact HM8.out
     case measure => have := HLT.out; simp [intOf]; omega
    ·go_simp
     refine hK.out _ _ (rangeAt.keep HS6.out ((Only.refl _ _).alloc _)) (fun hHeld => ?_)
     clear hK K
     try simp only [Act.put, List.setIfInBounds_toArray, List.set_cons_zero, List.set_cons_succ]
     refine wpAnyH_ready (rs := [1]) (by kernel_rfl) (by simp) ?_
     refine AllReadyH.cons (o := { dst := some 16, op := Op.load 76 (Operand.tmp 15), type := 76, pos := "message.go:52", after := #[{ on := 0, ground := Ground.data }], guard := none }) rfl (fun K hK => ?_) AllReadyH.nil
     go_simp
     refine hK.out _ _ (by assumption) (fun hHeld => ?_)
     clear hK K
     try simp only [Act.put, List.setIfInBounds_toArray, List.set_cons_zero, List.set_cons_succ]
     refine wpAnyH_ready (rs := [6]) (by kernel_rfl) (by simp) ?_
     refine AllReadyH.cons (o := { dst := some 21, op := Op.call { callee := Callee.builtin Builtin.append, args := #[Operand.tmp 16, Operand.tmp 20], argTypes := #[76, 76] }, type := 76, pos := "message.go:52", after := #[{ on := 1, ground := Ground.data }, { on := 5, ground := Ground.data }, { on := 4, ground := Ground.chain }], guard := none }) rfl (fun K hK => ?_) AllReadyH.nil
     refine step_append79 (by rfl) _ _ (by rfl) (by rfl) (own_only HOWN.out (HO6.out.alloc _) (fun _ _ h => h)) (by rfl) (Blk.new w6 _ 79) (by rfl) (by rfl) hjn (Nat.le_trans hszr2 (Nat.le_trans HO6.out.size (Nat.le_of_lt (alloc_lt6 w6 _)))) ?_; intro gg cap w8 hown8 hgr8 hor8; have hm8 := LMid.snoc HM.out HKL.out HVLT.out HO6.out HJ6.out ((Only.refl _ w6).alloc _) HOWN.out HROW.out hown8 hgr8 hor8; have hb8 := LMid.store HM.out HVLT.out HO6.out ((Only.refl _ w6).alloc _) hgr8; have k8 := hb8.cell 3 rfl; have f8 := hb8.frozen 3; have HM8 := Lib.hid hm8; have HS8 := Lib.hid (rangeAt.only (rangeAt.keep HS6.out ((Only.refl _ w6).alloc _)) (Only.ofGrown hgr8) (fun e => by have := (World.ownsRow.lt HOWN.out _ e).2; omega)); clear hm8 hb8 hown8 hgr8 hor8
     refine hK.out _ _ HS8.out (fun hHeld => ?_)
     clear hK K
     try simp only [Act.put, List.setIfInBounds_toArray, List.set_cons_zero, List.set_cons_succ]
     refine wpAnyH_take (i := 7) (oi := { dst := some 22, op := Op.fieldAddr 79 (Operand.tmp 5) 3, type := 0, pos := "message.go:52", after := #[{ on := 0, ground := Ground.phase }, { on := 1, ground := Ground.phase }, { on := 2, ground := Ground.phase }, { on := 3, ground := Ground.phase }, { on := 4, ground := Ground.phase }, { on := 5, ground := Ground.phase }, { on := 6, ground := Ground.phase }], guard := none }) (v := .pointer (some ⟨Hv, 3, none⟩)) rfl (by kernel_rfl) (by kernel_rfl) (by kernel_rfl) (fun _ _ _ h => h) (Or.inl ⟨by rfl, ?y7_5⟩) (by assumption) ?r7_5
     case y7_5 => intro w hSw; go_simp
     try simp only [Act.put, List.setIfInBounds_toArray, List.set_cons_zero, List.set_cons_succ]
     refine wpAnyH_ready (rs := [8]) (by kernel_rfl) (by simp) ?_
     refine AllReadyH.cons (o := { dst := none, op := Op.store 76 (Operand.tmp 22) (Operand.tmp 21), type := 0, pos := "message.go:52", after := #[{ on := 7, ground := Ground.data }, { on := 6, ground := Ground.data }, { on := 6, ground := Ground.chain }, { on := 0, ground := Ground.phase }, { on := 1, ground := Ground.phase }, { on := 2, ground := Ground.phase }, { on := 3, ground := Ground.phase }, { on := 4, ground := Ground.phase }, { on := 5, ground := Ground.phase }, { on := 6, ground := Ground.phase }], guard := none }) rfl (fun K hK => ?_) AllReadyH.nil
     go_simp
     refine hK.out _ _ (rangeAt.only HS8.out ((Only.refl (fun i => i = Hv) _).setCell (p := ⟨Hv, 3, none⟩) (fun _ => rfl) _) hrv) (fun hHeld => ?_)
     clear hK K
     try simp only [Act.put, List.setIfInBounds_toArray, List.set_cons_zero, List.set_cons_succ]
     refine wpAnyH_done (by kernel_rfl) ?_ _
     go_wp2
     go_roundw
     case rel =>
      refine ⟨j + 1, .slice (some ⟨gg, 0, none⟩) (j + 1) cap, by have := HLT.out; omega, by push_cast; rfl, ?_⟩
      rw [HTS.out, List.map_append]
      exact HM8.out
     case measure => have := HLT.out; simp [intOf]; omega
  ·have q : decide ((j : Int) < (l.length : Int)) = false := by simp; omega
   obtain rfl : j = l.length := by omega
   rw [List.take_of_length_le (Nat.le_refl _)] at HM
   have hvj := HM.out.value
   have HVJ := Lib.hid hvj
   obtain ⟨xs, hown, hrow⟩ := HM.out.row
   obtain ⟨Al, cl, rfl⟩ := own_form hown
   have HBV := Lib.hid HM.out.blk
   have HRR := Lib.hid (HR2.out.only HM.out.only (fun e => by have := HHV.out; have := HH.out; omega))
   clear hvj hown hrow hge
   go_wp2_with (first
    | (refine wpList_load_blk (cs := cells5 5 [] 0 (.slice Al (l.map wordV).length cl) (.slice none 0 0)) rfl 79 (.tmp 5) rfl rfl HBV.out agg79 info79s ?_)
    | (refine wpList_store_blk (cs := cells5 5 [] 0 (.slice Al (l.map wordV).length cl) (.slice none 0 0)) rfl 79 (.tmp 4) (.tmp 24) rfl rfl rfl rfl HRR.out rfl info79s rfl ?_; intro w4 hb4 ho4; have HB4 := Lib.hid hb4; have HO4 := Lib.hid ho4; clear hb4 ho4))
   refine bodyPost_ret (ret_cell rfl rfl HB4.out agg79 info79s) rfl ?_
   refine ⟨(HO2.out.then HM.out.only (fun i hi e => by have := HHV.out; omega)).then HO4.out (fun i hi e => by omega), _, rfl, ?_⟩
   refine HVJ.out.only HO4.out (fun b hb hy => ⟨?_, ?_⟩)
   ·have := HVLT.out; have := HHV.out; omega
   ·have := HO2.out.size; omega
set_option maxRecDepth 100000 in
set_option maxHeartbeats 6400000 in
theorem list_bytes {Y : Nat → Prop} {A : Option Addr} {c : Nat} {l : List Bytes} {w : World} (hR : RowAt EB 1 Y w A l) (hl : l.length ≤ 3000000) (hs : ∀ x ∈ l, x.length ≤ 1000000000) :
  Calls Tryz.prog 77 #[.slice A l.length c, .func (.func 56) #[] #[]] w (VOut w.heap.size (listV (l.map wordV)) w) := by
 have HR := Lib.hid hR
 have HL := Lib.hid hl
 have hlz : (l.length : Int) ≤ 3000000 := by omega
 obtain ⟨H, hH⟩ : ∃ H, H = w.heap.size := ⟨_, rfl⟩
 have hb0 : Blk ((w.alloc (.cells #[.int .i64 0, .string ⟨#[]⟩, .int .u64 0, .slice none 0 0, .slice none 0 0] 79)).alloc (.cells #[.int .i64 0, .string ⟨#[]⟩, .int .u64 0, .slice none 0 0, .slice none 0 0] 79)) (w.heap.size + 1) [.int .i64 0, .string ⟨#[]⟩, .int .u64 0, .slice none 0 0, .slice none 0 0] 79 := by
  have := Blk.new (w.alloc (.cells #[.int .i64 0, .string ⟨#[]⟩, .int .u64 0, .slice none 0 0, .slice none 0 0] 79)) [.int .i64 0, .string ⟨#[]⟩, .int .u64 0, .slice none 0 0, .slice none 0 0] 79
  rwa [World.size_alloc] at this
 have HB0 := Lib.hid hb0
 have HS := Lib.hid hs
 clear hR hl hb0 hs
 go_enter Tryz.func77, Tryz.ntmps77
 go_upto_region 3 with (refine wpList_store_blk (cs := [.int .i64 5, .string ⟨#[]⟩, .int .u64 0, .slice none 0 0, .slice none 0 0]) rfl 79 (.tmp 5) (.tmp 8) rfl rfl rfl rfl HB0.out rfl info79s rfl ?_; intro w2 hb2 ho2; have HB2 := Lib.hid hb2; have HO2 := Lib.hid (show Only (fun _ => False) w w2 from (((Only.refl _ w).alloc _).alloc _).then ho2 (fun i hi e => by omega)); have HR2 := Lib.hid (((Blk.new w [.int .i64 0, .string ⟨#[]⟩, .int .u64 0, .slice none 0 0, .slice none 0 0] 79).alloc (.cells #[.int .i64 0, .string ⟨#[]⟩, .int .u64 0, .slice none 0 0, .slice none 0 0] 79)).only ho2 (fun e => by omega)); have hs2 := ho2.size; rw [World.size_alloc, World.size_alloc] at hs2; have HS2 := Lib.hid hs2; clear hb2 ho2 hs2)
 have HH := Lib.hid hH
 generalize hHv : w.heap.size + 1 = Hv at HB2 ⊢
 have HHV := Lib.hid hHv
 clear hH hHv
 go_loopw [11] (fun s11 wr => ∃ (j : Nat) (vl : Value), j ≤ l.length ∧ s11 = .int .i64 (j : Int) ∧ LMid Hv w2 wr vl ((l.take j).map wordV)) (fun i _ => l.length - (intOf i).toNat)
 case atStart => exact ⟨0, .slice none 0 0, by omega, rfl, HB2.out, RowOwn.nil _ _ _, Only.refl _ _⟩
 case round =>
  obtain ⟨j, vl, hj, rfl, hm⟩ := hrel
  have HM := Lib.hid hm
  clear hm
  have hvlt : Hv < w2.heap.size := HB2.out.lt
  have HVLT := Lib.hid hvlt
  clear hvlt
  rcases Nat.lt_or_ge j l.length with hlt | hge
  ·obtain ⟨x, hx⟩ : ∃ x, l[j]? = some x := ⟨l[j], List.getElem?_eq_getElem hlt⟩
   have q : decide ((j : Int) < (l.length : Int)) = true := by simp; omega
   have hjz : (j : Int) < (l.length : Int) := by omega
   obtain ⟨bA, oA, cs, rfl, hrg, hcl, hex⟩ := HR.out j x hx
   have hwr : Only (fun _ => False) w wr := HO2.out.then HM.out.only (fun i hi e => by have := HHV.out; omega)
   have hrg2 := rangeAt.keep hrg hwr
   have HRG := Lib.hid hrg2
   have HCL := Lib.hid hcl
   have HEX := Lib.hid hex
   have HMX := Lib.hid (List.mem_of_getElem? hx)
   have HWR := Lib.hid hwr
   have HTS := Lib.hid (take_snoc hx)
   have HLT := Lib.hid hlt
   have HKL := Lib.hid (show ((l.take j).map wordV).length = j by rw [List.length_map, List.length_take]; omega)
   have HBV := Lib.hid HM.out.blk
   obtain ⟨xs, hown, hrow⟩ := HM.out.row
   rw [HKL.out] at hown
   have HOWN := Lib.hid hown
   have HROW := Lib.hid hrow
   have hjn : j ≤ 3000000 := by have := HL.out; omega
   clear hx hrg hrg2 hcl hex hwr hlt hown hrow
   obtain ⟨Ax, cx, rfl, hbx, hcx, _⟩ := HEX.out
   have HBX := Lib.hid (hbx.only0 HWR.out (fun _ _ _ _ => id))
   have HCX := Lib.hid hcx
   have HX9 := Lib.hid (HS.out x HMX.out)
   have kx : wr.cell? ⟨bA, oA + j, none⟩ = some (.slice Ax x.length cx) := by
    have := HRG.out 0 _ rfl
    rw [Nat.mul_one, Nat.add_zero] at this
    exact this
   have hvr := HVLT.out
   have hszr2 := HM.out.only.size
   go_upto_region 5 with (fail)
   have k3 := (HBV.out.drew).cell 3 rfl
   go_region_law (first | (go_simp; go_at_call 56; refine (wordV_any (l := x) (HBX.out.only0 ((Only.refl (fun _ => False) wr).drew) (fun _ _ _ _ => id)) HCX.out HX9.out).mono ?_; rintro e w6 ⟨ho6, cs6, rfl, hj6⟩; have ho6' : Only (fun _ => False) wr w6 := ((Only.refl (fun _ => False) wr).drew).trans ho6; have hj6' : JIs (fun b => wr.heap.size ≤ b) w6 (wordV x) cs6 := hj6; obtain ⟨k6, s6, n6, A6, a6, c6, B6, b6, d6, rfl⟩ := hj6'.out5; have k6 := (HBV.out.only ho6' id).cell 3 rfl; have k6s := cell_lt k6; have HO6 := Lib.hid ho6'; have HJ6 := Lib.hid hj6'; clear ho6 ho6' hj6 hj6') | (refine step_append79 (by rfl) _ _ (by rfl) (by rfl) (own_only HOWN.out (HO6.out.alloc _) (fun _ _ h => h)) (by rfl) (Blk.new w6 _ 79) (by rfl) (by rfl) hjn (Nat.le_trans hszr2 (Nat.le_trans HO6.out.size (Nat.le_of_lt (alloc_lt6 w6 _)))) ?_; intro gg cap w8 hown8 hgr8 hor8; have hm8 := LMid.snoc HM.out HKL.out HVLT.out HO6.out HJ6.out ((Only.refl _ w6).alloc _) HOWN.out HROW.out hown8 hgr8 hor8; have hb8 := LMid.store HM.out HVLT.out HO6.out ((Only.refl _ w6).alloc _) hgr8; have k8 := hb8.cell 3 rfl; have f8 := hb8.frozen 3; have HM8 := Lib.hid hm8; clear hm8 hb8 hown8 hgr8 hor8) | fail)
   all_goals
    go_wp2
    go_roundw
    case rel =>
     refine ⟨j + 1, .slice (some ⟨gg, 0, none⟩) (j + 1) cap, by have := HLT.out; omega, by push_cast; rfl, ?_⟩
     rw [HTS.out, List.map_append]
     exact HM8.out
    case measure => have := HLT.out; simp [intOf]; omega
  ·have q : decide ((j : Int) < (l.length : Int)) = false := by simp; omega
   obtain rfl : j = l.length := by omega
   rw [List.take_of_length_le (Nat.le_refl _)] at HM
   have hvj := HM.out.value
   have HVJ := Lib.hid hvj
   obtain ⟨xs, hown, hrow⟩ := HM.out.row
   obtain ⟨Al, cl, rfl⟩ := own_form hown
   have HBV := Lib.hid HM.out.blk
   have HRR := Lib.hid (HR2.out.only HM.out.only (fun e => by have := HHV.out; have := HH.out; omega))
   clear hvj hown hrow hge
   go_wp2_with (first
    | (refine wpList_load_blk (cs := cells5 5 [] 0 (.slice Al (l.map wordV).length cl) (.slice none 0 0)) rfl 79 (.tmp 5) rfl rfl HBV.out agg79 info79s ?_)
    | (refine wpList_store_blk (cs := cells5 5 [] 0 (.slice Al (l.map wordV).length cl) (.slice none 0 0)) rfl 79 (.tmp 4) (.tmp 24) rfl rfl rfl rfl HRR.out rfl info79s rfl ?_; intro w4 hb4 ho4; have HB4 := Lib.hid hb4; have HO4 := Lib.hid ho4; clear hb4 ho4))
   refine bodyPost_ret (ret_cell rfl rfl HB4.out agg79 info79s) rfl ?_
   refine ⟨(HO2.out.then HM.out.only (fun i hi e => by have := HHV.out; omega)).then HO4.out (fun i hi e => by omega), _, rfl, ?_⟩
   refine HVJ.out.only HO4.out (fun b hb hy => ⟨?_, ?_⟩)
   ·have := HVLT.out; have := HHV.out; omega
   ·have := HO2.out.size; omega
def objV (ms : List (Bytes × JV)) : JV := .mk 6 [] 0 (ms.map (·.2)) (ms.map (·.1))
def EM (Y : Nat → Prop) (w : World) (m : Bytes × JV) (cs : List Value) : Prop := ∃ c5, cs = txt m.1 :: c5 ∧ JIs Y w m.2 c5
theorem zero122 : (Tryz.prog.info? 122).bind (·.zero) = some (.agg ([.string ⟨#[]⟩, .int .i64 0, .string ⟨#[]⟩, .int .u64 0, .slice none 0 0, .slice none 0 0] : List Value).toArray) := by kernel_rfl
theorem info122s : (Tryz.prog.info? 122).map (·.size) = some 6 := by kernel_rfl
theorem under122 : (Tryz.prog.underlying 122).map (·.isRow) = some true := by kernel_rfl
theorem load122 {ops : Array Oper} {rest : List Oper} {op : Oper} {a : Act} {w : World} {Q : Exit → Act → World → Prop} (hgd : op.guard = none) (x : Operand) (ho : op.op = .load 122 x)
  {b o : Nat} (hx : a.eval x = .pointer (some ⟨b, o, none⟩)) {cs : List Value} (hc : w.rangeAt b o cs) (hl : cs.length = 6)
  (h : wpList Tryz.prog ops Q rest (a.put op.dst (.agg cs.toArray)) w) : wpList Tryz.prog ops Q (op :: rest) a w := by
 cases hd : Tryz.prog.underlying 122 with
 | none => have := under122; rw [hd] at this; cases this
 | some d =>
  have h2 := under122
  rw [hd] at h2
  exact wpList_load_mid hgd 122 x ho b o hx cs d hc hd (by simpa using h2) (by rw [hl]; exact info122s) h
theorem Blk.tail {w : World} {g : Nat} {x : Value} {cs : List Value} {T : TypeId} (h : Blk w g (x :: cs) T) : w.rangeAt g 1 cs := fun j y hy => by
 have := h.cell (j + 1) (v := y) (by simpa using hy)
 rwa [Nat.add_comm] at this
structure OMid (Hv H : Nat) (w w2 wr : World) (vl vk : Value) (vs : List JV) (ks : List Bytes) : Prop where
 blk : Blk wr Hv (cells5 6 [] 0 vl vk) 79
 row : ∃ xs, wr.ownsRow w2.heap.size 79 5 vl vs.length xs ∧ RowE EJ 5 (fun b => H ≤ b ∧ b < w.heap.size) wr vs xs
 keys : wr.ownsRow w2.heap.size 9 1 vk ks.length (cellsK ks)
 ne : ∀ k, vl.ownBlock = some k → vk.ownBlock ≠ some k
 only : Only (fun i => i = Hv) w2 wr
theorem OMid.lt {Hv H : Nat} {w w2 wr : World} {vl vk : Value} {vs : List JV} {ks : List Bytes} (h : OMid Hv H w w2 wr vl vk vs ks) : (∀ k, vl.ownBlock = some k → w2.heap.size ≤ k ∧ k < wr.heap.size) ∧ (∀ k, vk.ownBlock = some k → w2.heap.size ≤ k ∧ k < wr.heap.size) := by
 obtain ⟨xs, h1, _⟩ := h.row
 exact ⟨World.ownsRow.lt h1, World.ownsRow.lt h.keys⟩
theorem OMid.keep {Hv H : Nat} {w w2 wr wx : World} {vl vk : Value} {vs : List JV} {ks : List Bytes} (h : OMid Hv H w w2 wr vl vk vs ks) (ho : Only (fun _ => False) wr wx) : OMid Hv H w w2 wx vl vk vs ks := by
 obtain ⟨xs, h1, h2⟩ := h.row
 exact ⟨h.blk.only ho id, ⟨xs, own_only h1 ho (fun _ _ x => x), h2.only encJ ho (fun b _ hb => ⟨id, hb⟩)⟩, own_only h.keys ho (fun _ _ x => x), h.ne, h.only.trans (ho.mono (fun _ _ x => x.elim))⟩
theorem OMid.key {Hv H gg cap n : Nat} {w w2 wa wy : World} {vl vk : Value} {vs : List JV} {ks : List Bytes} {t : Bytes} (h : OMid Hv H w w2 wa vl vk vs ks) (hv : Hv < w2.heap.size) (hw : w.heap.size ≤ Hv) (hn : ks.length = n)
  (ho : wy.ownsRow w2.heap.size 9 1 (.slice (some ⟨gg, 0, none⟩) (n + 1) cap) (n + 1) (cellsK ks ++ [txt t])) (hg : wa.grownBy wy vk.ownBlock) (hor : vk.ownBlock = some gg ∨ gg = wa.heap.size) :
  Blk wy Hv (cells5 6 [] 0 vl vk) 79 ∧ OMid Hv H w w2 (wy.setCell ⟨Hv, 4, none⟩ (.slice (some ⟨gg, 0, none⟩) (n + 1) cap)) vl (.slice (some ⟨gg, 0, none⟩) (n + 1) cap) vs (ks ++ [t]) := by
 subst hn
 obtain ⟨hl1, hl2⟩ := h.lt
 obtain ⟨xs, h1, h2⟩ := h.row
 have s0 := h.only.size
 have hb : Blk wy Hv (cells5 6 [] 0 vl vk) 79 := h.blk.only (Only.ofGrown hg) (fun e => by have := hl2 _ e; omega)
 have hst : ∀ z, Only (fun i => i = Hv) wy (wy.setCell ⟨Hv, 4, none⟩ z) := fun z => (Only.refl (fun i => i = Hv) wy).setCell (p := ⟨Hv, 4, none⟩) (fun _ => rfl) z
 have ggv : gg ≠ Hv := by
  rcases hor with e | e
  ·have := hl2 _ e; omega
  ·omega
 refine ⟨hb, hb.set' 4 _ rfl, ⟨xs, ?_, ?_⟩, ?_, ?_, ?_⟩
 ·refine own_only (own_only h1 (Only.ofGrown hg) (fun k hk e => h.ne k hk e)) (hst _) (fun k hk e => ?_)
  have := hl1 k hk; omega
 ·refine (h2.only encJ (Only.ofGrown hg) (fun b _ hb => ⟨fun e => ?_, hb⟩)).only encJ (hst _) (fun b _ hb => ⟨fun e => ?_, hb⟩)
  ·have := hl2 _ e; have := hb.2; omega
  ·have := hb.2; omega
 ·have e1 : (ks ++ [t]).length = ks.length + 1 := by simp
  have e2 : cellsK (ks ++ [t]) = cellsK ks ++ [txt t] := by unfold cellsK; simp
  rw [e1, e2]
  refine own_only ho (hst _) (fun k hk e => ?_)
  cases hk
  exact ggv e
 ·intro k hk e
  cases e
  rcases hor with e | e
  ·exact h.ne _ hk e
  ·have h9 : w2.heap.size ≤ gg ∧ gg < wa.heap.size := hl1 _ hk
   omega
 ·refine (h.only.then (Only.ofGrown hg) (fun i hi e => ?_)).setCell (p := ⟨Hv, 4, none⟩) (fun _ => rfl) _
  have := hl2 _ e; omega
theorem OMid.val {Hv H gg cap n : Nat} {w w2 wa wy : World} {vl vk : Value} {vs : List JV} {ks : List Bytes} {v : JV} {cs xs : List Value} (h : OMid Hv H w w2 wa vl vk vs ks) (hv : Hv < w2.heap.size) (hw : w.heap.size ≤ Hv) (hn : vs.length = n)
  (hrow : RowE EJ 5 (fun b => H ≤ b ∧ b < w.heap.size) wa vs xs) (hj : JIs (fun b => H ≤ b ∧ b < w.heap.size) wa v cs)
  (ho : wy.ownsRow w2.heap.size 79 5 (.slice (some ⟨gg, 0, none⟩) (n + 1) cap) (n + 1) (xs ++ cs)) (hg : wa.grownBy wy vl.ownBlock) (hor : vl.ownBlock = some gg ∨ gg = wa.heap.size) :
  Blk wy Hv (cells5 6 [] 0 vl vk) 79 ∧ OMid Hv H w w2 (wy.setCell ⟨Hv, 3, none⟩ (.slice (some ⟨gg, 0, none⟩) (n + 1) cap)) (.slice (some ⟨gg, 0, none⟩) (n + 1) cap) vk (vs ++ [v]) ks := by
 subst hn
 obtain ⟨hl1, hl2⟩ := h.lt
 have s0 := h.only.size
 have hb : Blk wy Hv (cells5 6 [] 0 vl vk) 79 := h.blk.only (Only.ofGrown hg) (fun e => by have := hl1 _ e; omega)
 have hst : ∀ z, Only (fun i => i = Hv) wy (wy.setCell ⟨Hv, 3, none⟩ z) := fun z => (Only.refl (fun i => i = Hv) wy).setCell (p := ⟨Hv, 3, none⟩) (fun _ => rfl) z
 have ggv : gg ≠ Hv := by
  rcases hor with e | e
  ·have := hl1 _ e; omega
  ·omega
 refine ⟨hb, hb.set' 3 _ rfl, ⟨xs ++ cs, ?_, ?_⟩, ?_, ?_, ?_⟩
 ·have e1 : (vs ++ [v]).length = vs.length + 1 := by simp
  rw [e1]
  refine own_only ho (hst _) (fun k hk e => ?_)
  cases hk
  exact ggv e
 ·refine ((hrow.snoc encJ hj).only encJ (Only.ofGrown hg) (fun b _ hb => ⟨fun e => ?_, hb⟩)).only encJ (hst _) (fun b _ hb => ⟨fun e => ?_, hb⟩)
  ·have := hl1 _ e; have := hb.2; omega
  ·have := hb.2; omega
 ·refine own_only (own_only h.keys (Only.ofGrown hg) (fun k hk e => h.ne k e hk)) (hst _) (fun k hk e => ?_)
  have := hl2 k hk; omega
 ·intro k hk e
  cases hk
  rcases hor with e1 | e1
  ·exact h.ne _ e1 e
  ·have h9 : w2.heap.size ≤ gg ∧ gg < wa.heap.size := hl2 _ e
   omega
 ·refine (h.only.then (Only.ofGrown hg) (fun i hi e => ?_)).setCell (p := ⟨Hv, 3, none⟩) (fun _ => rfl) _
  have := hl1 _ e; omega
theorem OMid.value {Hv H : Nat} {w w2 wr wz : World} {vl vk : Value} {ms : List (Bytes × JV)} (h : OMid Hv H w w2 wr vl vk (ms.map (·.2)) (ms.map (·.1))) (hH : H ≤ w.heap.size) (hw : w.heap.size ≤ w2.heap.size) (ho : Only (fun i => i = w.heap.size) wr wz) (hw2 : w.heap.size < w2.heap.size) :
  JIs (fun b => H ≤ b) wz (objV ms) (cells5 6 [] 0 vl vk) := by
 obtain ⟨xs, h1, h2⟩ := h.row
 have hx : RowIs (fun b => H ≤ b ∧ b ≠ w.heap.size) wr (ms.map (·.2)) xs := ⟨h2.1, fun i v hv => (h2.2 i v hv).mono (fun b _ hb => ⟨hb.1, by have := hb.2; omega⟩)⟩
 have hj := jis_of_rows (k := 6) (s := []) (n := 0) h1 h.keys hx (fun b hb => by have := World.ownsRow.lt h1 b hb; exact ⟨by omega, by omega⟩) (fun b hb => by have := World.ownsRow.lt h.keys b hb; exact ⟨by omega, by omega⟩)
 exact hj.only ho (fun b _ hb => ⟨fun e => hb.2 e, hb.1⟩)
set_option maxRecDepth 100000 in
set_option maxHeartbeats 6400000 in
theorem object_any {H : Nat} {A : Option Addr} {c : Nat} {ms : List (Bytes × JV)} {w : World} (hR : RowAt EM 6 (fun b => H ≤ b) w A ms) (hl : ms.length ≤ 3000000) (hHw : H ≤ w.heap.size) :
  Calls Tryz.prog 53 #[.slice A ms.length c] w (VOut H (objV ms) w) := by
 have HR := Lib.hid hR
 have HL := Lib.hid hl
 have HHW := Lib.hid hHw
 have hlz : (ms.length : Int) ≤ 3000000 := by omega
 have hb0 : Blk ((w.alloc (.cells #[.int .i64 0, .string ⟨#[]⟩, .int .u64 0, .slice none 0 0, .slice none 0 0] 79)).alloc (.cells #[.int .i64 0, .string ⟨#[]⟩, .int .u64 0, .slice none 0 0, .slice none 0 0] 79)) (w.heap.size + 1) [.int .i64 0, .string ⟨#[]⟩, .int .u64 0, .slice none 0 0, .slice none 0 0] 79 := by
  have := Blk.new (w.alloc (.cells #[.int .i64 0, .string ⟨#[]⟩, .int .u64 0, .slice none 0 0, .slice none 0 0] 79)) [.int .i64 0, .string ⟨#[]⟩, .int .u64 0, .slice none 0 0, .slice none 0 0] 79
  rwa [World.size_alloc] at this
 have HB0 := Lib.hid hb0
 obtain ⟨n, hn⟩ : ∃ n, n = ms.length := ⟨_, rfl⟩
 have HN := Lib.hid hn
 rw [← hn] at hlz ⊢
 clear hR hl hb0 hn hHw
 go_enter Tryz.func53, Tryz.ntmps53
 go_upto_region 3 with (refine wpList_store_blk (cs := [.int .i64 6, .string ⟨#[]⟩, .int .u64 0, .slice none 0 0, .slice none 0 0]) rfl 79 (.tmp 3) (.tmp 6) rfl rfl rfl rfl HB0.out rfl info79s rfl ?_; intro w2 hb2 ho2; have HB2 := Lib.hid hb2; have HO2 := Lib.hid (show Only (fun _ => False) w w2 from (((Only.refl _ w).alloc _).alloc _).then ho2 (fun i hi e => by omega)); have HR2 := Lib.hid (((Blk.new w [.int .i64 0, .string ⟨#[]⟩, .int .u64 0, .slice none 0 0, .slice none 0 0] 79).alloc (.cells #[.int .i64 0, .string ⟨#[]⟩, .int .u64 0, .slice none 0 0, .slice none 0 0] 79)).only ho2 (fun e => by omega)); clear hb2 ho2)
 generalize hHv : w.heap.size + 1 = Hv at HB2 ⊢
 have HHV := Lib.hid hHv
 clear hHv
 have HVLT := Lib.hid HB2.out.lt
 go_loopw [9] (fun s9 wr => ∃ (j : Nat) (vl vk : Value), j ≤ n ∧ s9 = .int .i64 (j : Int) ∧ OMid Hv H w w2 wr vl vk ((ms.take j).map (·.2)) ((ms.take j).map (·.1))) (fun i _ => n - (intOf i).toNat)
 case atStart => exact ⟨0, .slice none 0 0, .slice none 0 0, by omega, rfl, HB2.out, ⟨[], World.ownsRow_nil _ _ _ _, RowE.nil _ _⟩, World.ownsRow_nil _ _ _ _, (fun k hk => by cases hk), Only.refl _ _⟩
 case round =>
  obtain ⟨j, vl, vk, hj, rfl, hm⟩ := hrel
  have HM := Lib.hid hm
  clear hm
  rcases Nat.lt_or_ge j n with hlt | hge
  ·obtain ⟨x, hx⟩ : ∃ x, ms[j]? = some x := ⟨ms[j]'(by have := HN.out; omega), List.getElem?_eq_getElem _⟩
   have q : decide ((j : Int) < (n : Int)) = true := by simp; omega
   have hjz : (j : Int) < (n : Int) := by omega
   obtain ⟨bA, oA, cs, rfl, hrg, hcl, c5, rfl, hj5⟩ := HR.out j x hx
   have hwr : Only (fun _ => False) w wr := HO2.out.then HM.out.only (fun i hi e => by have := HHV.out; omega)
   have HRG := Lib.hid (rangeAt.keep hrg hwr)
   have hj5' : JIs (fun b => H ≤ b ∧ b < w.heap.size) w x.2 c5 := hj5.mono (fun b hb hy => ⟨hy, hb⟩)
   have HJ5 := Lib.hid (hj5'.keep hwr)
   have HTS := Lib.hid (take_snoc hx)
   have HLT := Lib.hid hlt
   have HK1 := Lib.hid (show ((ms.take j).map (·.1)).length = j by rw [List.length_map, List.length_take, ← HN.out]; omega)
   have HK2 := Lib.hid (show ((ms.take j).map (·.2)).length = j by rw [List.length_map, List.length_take, ← HN.out]; omega)
   have HBV := Lib.hid HM.out.blk
   obtain ⟨k6, s6, n6, A6, a6, c6, B6, b6, d6, rfl⟩ := hj5.out5
   obtain ⟨kx, vx⟩ := x
   have hjn : j ≤ 3000000 := by have := HL.out; have := HN.out; omega
   have hszr := HVLT.out
   have hszr2 := HM.out.only.size
   have hwv : w.heap.size ≤ Hv := by have := HHV.out; omega
   clear hx hrg hcl hj5 hj5' hwr hlt
   go_upto_region 5 with (first
    | (refine load122 rfl (.tmp 11) rfl rfl HRG.out rfl ?_)
    | (refine wpList_alloc_blk rfl 122 5 rfl rfl zero122 ?_; intro w4 hb4 ho4 hs4; have HB4 := Lib.hid hb4; have HO4 := Lib.hid ho4; clear hb4 ho4 hs4)
    | (refine wpList_store_blk (cs := [txt kx, .int .i64 k6, .string s6, .int .u64 n6, .slice A6 a6 c6, .slice B6 b6 d6]) rfl 122 (.tmp 5) (.tmp 12) rfl rfl rfl rfl HB4.out rfl info122s rfl ?_; intro w5 hb5 ho5; have HB5 := Lib.hid hb5; have HM5 := Lib.hid (HM.out.keep (show Only (fun _ => False) wr w5 from HO4.out.then ho5 (fun i hi e => by omega))); have HO5 := Lib.hid (show Only (fun _ => False) wr w5 from HO4.out.then ho5 (fun i hi e => by omega)); clear hb5 ho5))
   unfold txt at *
   have h4 := HM5.out.blk.cell 4 rfl
   have t0 := HB5.out.cell 0 rfl
   go_upto_region 6 with (refine stop_append (t := 77) rfl ?_)
   refine ⟨?_⟩
   refine wpList_append9 rfl (.tmp 14) (.tmp 17) rfl rfl (own_only HM5.out.keys ((Only.refl (fun _ => False) w5).alloc _) (fun _ _ x => x)) rfl (Blk.new w5 [.string ⟨kx.toArray⟩] 9) (by rw [HK1.out]; exact hjn) (by have := HO5.out.size; simp; omega) ?_
   intro gg cap w8 hown8 hgr8 hor8
   rw [HK1.out] at hown8 ⊢
   obtain ⟨hb8, hm8⟩ := OMid.key (t := kx) (HM5.out.keep ((Only.refl (fun _ => False) w5).alloc _)) hszr hwv HK1.out hown8 hgr8 hor8
   have h48 := hb8.cell 4 rfl
   have f48 := hb8.frozen 4
   have HM8 := Lib.hid hm8
   have hlk := HM.out.lt.2
   have hs5 := HO5.out.size
   have HT8 := Lib.hid ((((HB5.out.alloc (.cells #[.string ⟨kx.toArray⟩] 9)).only (Only.ofGrown hgr8) (fun e => by have := hlk _ e; omega)).far (p := ⟨Hv, 4, none⟩) (fun e => by simp at e; omega) (.slice (some ⟨gg, 0, none⟩) (j + 1) cap)))
   have o9 : Only (fun i => w.heap.size ≤ i) wr (w8.setCell ⟨Hv, 4, none⟩ (.slice (some ⟨gg, 0, none⟩) (j + 1) cap)) := (((HO5.out.alloc _).mono (fun _ _ x => x.elim)).then (Only.ofGrown hgr8) (fun i hi e => by have := (HM5.out.lt.2 _ e).1; omega)).setCell (p := ⟨Hv, 4, none⟩) (fun _ => hwv) _
   have HJ9 := Lib.hid (HJ5.out.only (Y := fun b => H ≤ b ∧ b < w.heap.size) o9 (fun b _ hb => ⟨fun e => by have := hb.2; omega, hb⟩))
   have HO9 := Lib.hid o9.size
   clear hown8 hgr8 hor8 hb8 hm8 o9
   go_upto_region 6 with (fail)
   generalize w8.setCell ⟨Hv, 4, none⟩ (.slice (some ⟨gg, 0, none⟩) (j + 1) cap) = w9 at HM8 HT8 HJ9 HO9 ⊢
   have HS9 := Lib.hid (Blk.tail HT8.out)
   have k93 := HM8.out.blk.cell 3 rfl
   go_wp2_with (first
    | (refine load79 rfl (.tmp 22) rfl rfl HS9.out rfl ?_)
    | (refine stop_append (t := 76) rfl ?_))
   refine ⟨?_⟩
   obtain ⟨xs, hown9, hrow9⟩ := (HM8.out.keep ((Only.refl (fun _ => False) w9).alloc (.cells #[.int .i64 k6, .string s6, .int .u64 n6, .slice A6 a6 c6, .slice B6 b6 d6] 79))).row
   rw [HK2.out] at hown9
   refine wpList_append79 rfl (.tmp 21) (.tmp 24) rfl rfl hown9 rfl (Blk.new w9 [.int .i64 k6, .string s6, .int .u64 n6, .slice A6 a6 c6, .slice B6 b6 d6] 79) rfl rfl hjn (by have := HO9.out; simp; omega) ?_
   intro gg2 cap2 w10 hown10 hgr10 hor10
   obtain ⟨hb10, hm10⟩ := OMid.val (v := vx) (HM8.out.keep ((Only.refl (fun _ => False) w9).alloc _)) hszr hwv HK2.out hrow9 (HJ9.out.keep ((Only.refl (fun _ => False) w9).alloc _)) hown10 hgr10 hor10
   have h103 := hb10.cell 3 rfl
   have f103 := hb10.frozen 3
   have HM10 := Lib.hid hm10
   clear hown9 hrow9 hown10 hgr10 hor10 hb10 hm10
   go_wp2
   go_roundw
   case rel =>
    refine ⟨j + 1, .slice (some ⟨gg2, 0, none⟩) (j + 1) cap2, .slice (some ⟨gg, 0, none⟩) (j + 1) cap, by have := HLT.out; omega, by push_cast; rfl, ?_⟩
    rw [HTS.out, List.map_append, List.map_append]
    exact HM10.out
   case measure => have := HLT.out; simp [intOf]; omega
  ·have q : decide ((j : Int) < (n : Int)) = false := by simp; omega
   obtain rfl : j = n := by omega
   have hwv : w.heap.size ≤ Hv := by have := HHV.out; omega
   have hvl := HVLT.out
   have htk : ms.take j = ms := List.take_of_length_le (by have := HN.out; omega)
   rw [htk] at HM
   obtain ⟨xs, hown, hrow⟩ := HM.out.row
   obtain ⟨Al, cl, rfl⟩ := own_form hown
   obtain ⟨Ak, ck, rfl⟩ := own_form HM.out.keys
   have HBV := Lib.hid HM.out.blk
   have HRR := Lib.hid (HR2.out.only HM.out.only (fun e => by have := HHV.out; omega))
   have HLE := Lib.hid (show w.heap.size ≤ w2.heap.size by omega)
   clear hown hrow hge htk
   go_wp2_with (first
    | (refine wpList_load_blk (cs := cells5 6 [] 0 (.slice Al (ms.map (·.2)).length cl) (.slice Ak (ms.map (·.1)).length ck)) rfl 79 (.tmp 3) rfl rfl HBV.out agg79 info79s ?_)
    | (refine wpList_store_blk (cs := cells5 6 [] 0 (.slice Al (ms.map (·.2)).length cl) (.slice Ak (ms.map (·.1)).length ck)) rfl 79 (.tmp 2) (.tmp 28) rfl rfl rfl rfl HRR.out rfl info79s rfl ?_; intro w4 hb4 ho4; have HB4 := Lib.hid hb4; have HO4 := Lib.hid ho4; clear hb4 ho4))
   refine bodyPost_ret (ret_cell rfl rfl HB4.out agg79 info79s) rfl ?_
   refine ⟨(HO2.out.then HM.out.only (fun i hi e => by omega)).then HO4.out (fun i hi e => by omega), _, rfl, ?_⟩
   exact HM.out.value HHW.out HLE.out HO4.out (by omega)
theorem flat_get {n : Nat} : ∀ (L : List (List Value)), (∀ x ∈ L, x.length = n) → ∀ (i : Nat) (xs : List Value), L[i]? = some xs → ∀ (j : Nat) (y : Value), xs[j]? = some y → L.flatten[i * n + j]? = some y
 | [], _, i, xs, h, _, _, _ => by simp at h
 | x :: L, hl, 0, xs, h, j, y, hy => by
  simp at h
  subst h
  have hj : j < x.length := (List.getElem?_eq_some_iff.1 hy).1
  rw [Nat.zero_mul, Nat.zero_add, List.flatten_cons, List.getElem?_append_left hj]
  exact hy
 | x :: L, hl, i + 1, xs, h, j, y, hy => by
  have hx := hl x (by simp)
  have := flat_get L (fun z hz => hl z (by simp [hz])) i xs (by simpa using h) j y hy
  rw [List.flatten_cons, List.getElem?_append_right (by rw [hx, Nat.add_one_mul]; omega), hx]
  rw [show (i + 1) * n + j - n = i * n + j by rw [Nat.add_one_mul]; omega]
  exact this
theorem EM.len {Y : Nat → Prop} {w : World} {m : Bytes × JV} {cs : List Value} (h : EM Y w m cs) : cs.length = 6 := by
 obtain ⟨c5, rfl, hj⟩ := h
 simp [hj.len]
theorem rowAt_of {Y : Nat → Prop} {w : World} {g : Nat} {cs : List Value} {T : TypeId} {ms : List (Bytes × JV)} (ps : List ((Bytes × JV) × List Value)) (hB : Blk w g cs T) (hcs : cs = (ps.map (·.2)).flatten) (hms : ms = ps.map (·.1))
  (h : ∀ p ∈ ps, EM Y w p.1 p.2) : RowAt EM 6 Y w (some ⟨g, 0, none⟩) ms := by
 subst hcs hms
 intro i a ha
 rw [List.getElem?_map] at ha
 cases hp : ps[i]? with
 | none => rw [hp] at ha; cases ha
 | some p =>
  rw [hp] at ha
  cases ha
  have hm := h p (List.mem_of_getElem? hp)
  refine ⟨g, 0, p.2, rfl, ?_, hm.len, hm⟩
  intro j y hy
  have := flat_get (n := 6) (ps.map (·.2)) (fun x hx => by obtain ⟨q, hq, rfl⟩ := List.mem_map.1 hx; exact (h q hq).len) i p.2 (by rw [List.getElem?_map, hp]; rfl) j y hy
  have := hB.cell _ this
  rw [Nat.zero_add]
  exact this
theorem Only.set5 {a w : World} {g : Nat} (h : Only (fun _ => False) a w) (v0 v1 v2 v3 v4 : Value) :
  Only (fun i => i = g) a (((((w.setCell ⟨g, 0, none⟩ v0).setCell ⟨g, 1, none⟩ v1).setCell ⟨g, 2, none⟩ v2).setCell ⟨g, 3, none⟩ v3).setCell ⟨g, 4, none⟩ v4) :=
 have h0 : Only (fun i => i = g) a w := h.mono (fun _ _ x => x.elim)
 ((((h0.setCell (p := ⟨g, 0, none⟩) (fun _ => rfl) v0).setCell (p := ⟨g, 1, none⟩) (fun _ => rfl) v1).setCell (p := ⟨g, 2, none⟩) (fun _ => rfl) v2).setCell (p := ⟨g, 3, none⟩) (fun _ => rfl) v3).setCell (p := ⟨g, 4, none⟩) (fun _ => rfl) v4
theorem Blk.set5 {w : World} {g : Nat} {a b c d e : Value} {T : TypeId} (h : Blk w g [a, b, c, d, e] T) (v0 v1 v2 v3 v4 : Value) :
  Blk (((((w.setCell ⟨g, 0, none⟩ v0).setCell ⟨g, 1, none⟩ v1).setCell ⟨g, 2, none⟩ v2).setCell ⟨g, 3, none⟩ v3).setCell ⟨g, 4, none⟩ v4) g [v0, v1, v2, v3, v4] T :=
 (((((h.set' 0 v0 rfl).set' 1 v1 rfl).set' 2 v2 rfl).set' 3 v3 rfl).set' 4 v4 rfl)
theorem Blk.two {w : World} {g : Nat} {a b : Value} {T : TypeId} (h : Blk w g [a, b] T) : w.cell? ⟨g, 0, none⟩ = some a ∧ w.cell? ⟨g, 1, none⟩ = some b := ⟨h.cell 0 rfl, h.cell 1 rfl⟩
theorem EI.two {Y : Nat → Prop} {w : World} {p : Bytes × Bytes} {cs : List Value} (h : EI Y w p cs) : ∃ A c B d, cs = [.slice A p.1.length c, .slice B p.2.length d] ∧ ∀ w', Only (fun _ => False) w w' → EI (fun _ => True) w' p [.slice A p.1.length c, .slice B p.2.length d] := by
 obtain ⟨d1, d2, rfl, ⟨A1, c1, rfl, hb1, hc1, _⟩, ⟨A2, c2, rfl, hb2, hc2, _⟩⟩ := h
 exact ⟨A1, c1, A2, c2, rfl, fun w' ho => ⟨_, _, rfl, ⟨A1, c1, rfl, hb1.only0 ho (fun _ _ _ _ => id), hc1, fun _ _ _ _ => trivial⟩, ⟨A2, c2, rfl, hb2.only0 ho (fun _ _ _ _ => id), hc2, fun _ _ _ _ => trivial⟩⟩⟩
def numT (n : Nat) : Bytes := Lib.decDigits n
def wordT (b : Bytes) : Bytes := quoteP (put64 b)
def arrT (ts : List Bytes) : Bytes := 91 :: (joinP ts ++ [93])
def objT (ks ts : List Bytes) : Bytes := 123 :: (joinP (List.zipWith memP ks ts) ++ [125])
theorem gw_num {m n : Nat} (h : n < 18446744073709551616) : GW m (numV n) (numT n) := .num h
theorem gw_word {m : Nat} (b : Bytes) : GW m (wordV b) (wordT b) :=
 .str (fun x hx => ⟨(put64_ascii b x hx).1, (put64_ascii b x hx).2.2.1, (put64_ascii b x hx).2.2.2⟩) (fun x hx => (put64_ascii b x hx).2.1)
theorem gw_list {α : Type} {m : Nat} {l : List α} {f : α → JV} {g : α → Bytes} (hl : l.length ≤ 3000000000) (h : ∀ x ∈ l, GW m (f x) (g x)) : GW (m + 1) (listV (l.map f)) (arrT (l.map g)) := by
 refine .arr (by simpa using hl) (by simp) ?_
 intro i v t h1 h2
 rw [List.getElem?_map] at h1 h2
 cases hx : l[i]? with
 | none => rw [hx] at h1; cases h1
 | some x =>
  rw [hx] at h1 h2
  cases h1; cases h2
  exact h x (List.mem_of_getElem? hx)
def nameOk (k : Bytes) : Bool := k.all fun x => decide (32 ≤ x.toNat) && decide (x ≠ 34) && decide (x ≠ 92) && decide (x.toNat < 128)
theorem nameOk_plain {k : Bytes} (h : nameOk k = true) : PlainT k ∧ ∀ x ∈ k, x.toNat < 128 := by
 unfold nameOk at h
 rw [List.all_eq_true] at h
 have h2 : ∀ x ∈ k, ((32 ≤ x.toNat ∧ x ≠ 34) ∧ x ≠ 92) ∧ x.toNat < 128 := fun x hx => by simpa using h x hx
 exact ⟨fun x hx => ⟨(h2 x hx).1.1.1, (h2 x hx).1.1.2, (h2 x hx).1.2⟩, fun x hx => (h2 x hx).2⟩
inductive GWs (m : Nat) : List (Bytes × JV) → List Bytes → Prop
 | nil : GWs m [] []
 | cons {k : Bytes} {v : JV} {t : Bytes} {ms : List (Bytes × JV)} {ts : List Bytes} : GW m v t → GWs m ms ts → GWs m ((k, v) :: ms) (t :: ts)
theorem GWs.len {m : Nat} {ms : List (Bytes × JV)} {ts : List Bytes} (h : GWs m ms ts) : ts.length = ms.length := by
 induction h with
 | nil => rfl
 | cons _ _ ih => simp [ih]
theorem GWs.at {m : Nat} {ms : List (Bytes × JV)} {ts : List Bytes} (h : GWs m ms ts) : ∀ (i : Nat) (v : JV) (t : Bytes), (ms.map (·.2))[i]? = some v → ts[i]? = some t → GW m v t := by
 induction h with
 | nil => intro i v t h1; simp at h1
 | cons h1 _ ih =>
  intro i v t k1 k2
  cases i with
  | zero => simp at k1 k2; subst k1; subst k2; exact h1
  | succ i => exact ih i v t (by simpa using k1) (by simpa using k2)
theorem gw_obj {m : Nat} {ms : List (Bytes × JV)} {ts : List Bytes} (h : GWs m ms ts) (hl : ms.length ≤ 3000000000) (hk : decide ((ms.map (·.1)).Nodup) = true) (hn : (ms.map (·.1)).all nameOk = true) : GW (m + 1) (objV ms) (objT (ms.map (·.1)) ts) :=
 .obj (by simpa using hl) (by simpa using h.len) (by simp) (of_decide_eq_true hk) (fun k hk => nameOk_plain (List.all_eq_true.1 hn k hk)) h.at
theorem getB_obj {ms : List (Bytes × JV)} {k : Bytes} {i : Nat} {p : Bytes × JV} (h : idxK (ms.map (·.1)) k = some i) (hp : ms[i]? = some p) : getB (objV ms) k = some p.2 := by
 unfold getB
 rw [if_pos ⟨rfl, by simp [objV, JV.keys, JV.list]⟩]
 show (idxK (ms.map (·.1)) k).bind (fun i => (ms.map (·.2))[i]?) = _
 rw [h, Option.bind_some, List.getElem?_map, hp]
 rfl
theorem parseM_gw {v : JV} {t : Bytes} (h : GW 8 v t) (hl : t.length ≤ 1048576) : parseM t = some v := by
 unfold parseM
 rw [if_pos hl]
 exact parseD_gw h
theorem pV_gw {v : JV} {t : Bytes} (h : GW 8 v t) (hl : t.length ≤ 1048576) : pV t = v := by unfold pV; rw [parseM_gw h hl]; rfl
def namesBad (ks ns : List Bytes) : Bool := decide (ks.length ≠ ns.length) || ns.any (fun n => !decide (n ∈ ks))
theorem badN_obj (ms : List (Bytes × JV)) (ns : List Bytes) : badN (objV ms) (bad0 (objV ms) ns) ns = namesBad (ms.map (·.1)) ns := by
 rfl
theorem pBad_gw {ms : List (Bytes × JV)} {t : Bytes} (h : GW 8 (objV ms) t) (hl : t.length ≤ 1048576) (ns : List Bytes) : pBad t ns = namesBad (ms.map (·.1)) ns := by
 unfold pBad
 rw [parseM_gw h hl]
 exact badN_obj ms ns
theorem wordT_len (b : Bytes) : (wordT b).length = 4 * ((b.length + 2) / 3) + 2 := by unfold wordT quoteP; simp [put64_length]
theorem numT_len {n : Nat} (h : n < 18446744073709551616) : (numT n).length ≤ 20 := decD_len 19 n (by omega)
theorem memP_len (k t : Bytes) : (memP k t).length = k.length + t.length + 3 := by unfold memP quoteP; simp; omega
theorem tailP_len (t : Bytes) (ts : List Bytes) : (tailP (t :: ts)).length = t.length + 1 + (tailP ts).length := by unfold tailP; simp; omega
theorem objT_len (k t : Bytes) (ks ts : List Bytes) : (objT (k :: ks) (t :: ts)).length = k.length + t.length + 5 + (tailP (List.zipWith memP ks ts)).length := by
 unfold objT
 rw [List.zipWith_cons_cons, joinP_cons]
 simp [memP_len]; omega
theorem badG_obj {ms : List (Bytes × JV)} {k : Bytes} {i : Nat} {p : Bytes × JV} (h : idxK (ms.map (·.1)) k = some i) (hp : ms[i]? = some p) (kd : Nat) : badG (objV ms) k kd = decide (p.2.kind ≠ kd) := by
 unfold badG
 rw [getB_obj h hp]
theorem listV_kind (l : List JV) : (listV l).kind = 5 := rfl
def lM (k : Bytes) (vs : List JV) : List (Bytes × JV) := [(k, listV vs)]
def lT (k : Bytes) (ts : List Bytes) : Bytes := objT [k] [arrT ts]
theorem l_gw {α : Type} {k : Bytes} {l : List α} {f : α → JV} {g : α → Bytes} (hk : nameOk k = true) (hl : l.length ≤ 3000000000) (h : ∀ x ∈ l, GW 6 (f x) (g x)) : GW 8 (objV (lM k (l.map f))) (lT k (l.map g)) :=
 gw_obj (m := 7) (ms := lM k (l.map f)) (.cons (gw_list hl h) .nil) (by simp [lM]) (by simp [lM]) (by simp [lM, hk])
theorem arrT_len {α : Type} {g : α → Bytes} {n : Nat} : ∀ (l : List α), (∀ x ∈ l, (g x).length ≤ n) → (arrT (l.map g)).length ≤ l.length * (n + 1) + 2
 | [], _ => by simp [arrT, joinP_nil]
 | x :: l, h => by
  have ht : ∀ (l : List α), (∀ x ∈ l, (g x).length ≤ n) → (tailP (l.map g)).length ≤ l.length * (n + 1) := by
   intro l
   induction l with
   | nil => intro _; simp [tailP]
   | cons y l ih =>
    intro hh
    have h1 := ih (fun x hx => hh x (by simp [hx]))
    have h2 := hh y (by simp)
    rw [List.map_cons, tailP_len, List.length_cons, Nat.add_one_mul]
    omega
  have h1 := ht l (fun y hy => h y (by simp [hy]))
  have h2 := h x (by simp)
  unfold arrT
  show _ ≤ (l.length + 1) * (n + 1) + 2
  rw [List.map_cons, joinP_cons, Nat.add_one_mul]
  simp only [List.length_cons, List.length_append, List.length_nil]
  omega
theorem eachBad_map {α : Type} {ok : JV → Bool} {f : α → JV} {l : List α} (h : ∀ x ∈ l, ok (f x) = true) : eachBad ok (l.map f) = false := by
 unfold eachBad
 rw [List.any_eq_false]
 intro u hu
 obtain ⟨x, hx, rfl⟩ := List.mem_map.1 hu
 simp [h x hx]
theorem map_back {α : Type} {val : JV → α} {f : α → JV} {l : List α} (h : ∀ x ∈ l, val (f x) = x) : (l.map f).map val = l := by
 rw [List.map_map]
 conv => rhs; rw [← List.map_id l]
 exact List.map_congr_left (fun x hx => h x hx)
theorem l_back {α : Type} {k : Bytes} {l : List α} {f : α → JV} {g : α → Bytes} {ok : JV → Bool} {val : JV → α} (hk : nameOk k = true) (hl : l.length ≤ 3000000000) (h : ∀ x ∈ l, GW 6 (f x) (g x)) (ht : (lT k (l.map g)).length ≤ 1048576)
  (hok : ∀ x ∈ l, ok (f x) = true) (hval : ∀ x ∈ l, val (f x) = x) : badL (lT k (l.map g)) [k] k ok = false ∧ elsL (lT k (l.map g)) k val = l := by
 have hg := l_gw hk hl h
 have hv := pV_gw hg ht
 have e0 : idxK ((lM k (l.map f)).map (·.1)) k = some 0 := by simp [lM, idxK]
 constructor
 ·unfold badL
  rw [pBad_gw hg ht, hv, badG_obj e0 rfl, getB_obj e0 rfl]
  rw [show namesBad ((lM k (l.map f)).map (·.1)) [k] = false by simp [lM, namesBad]]
  show (false || decide ((listV (l.map f)).kind ≠ 5) || eachBad ok (l.map f)) = false
  rw [eachBad_map hok, listV_kind]
  rfl
 ·unfold elsL
  rw [hv, getB_obj e0 rfl]
  show (l.map f).map val = l
  exact map_back hval
theorem okB_word (b : Bytes) : okB' (wordV b) = true := by
 show okB 4 (put64 b) = true
 unfold okB
 rw [take64_put64]; rfl
theorem elB_word (b : Bytes) : elB (wordV b) = b := by
 show (take64 (put64 b)).getD [] = b
 rw [take64_put64]; rfl
def chT (l : List Bytes) : Bytes := lT nChain (l.map wordT)
theorem ch_gw {l : List Bytes} (hl : l.length ≤ 3000000) : GW 8 (objV (lM nChain (l.map wordV))) (chT l) := l_gw (by decide) (by omega) (fun x _ => gw_word x)
theorem ch_back {l : List Bytes} (hl : l.length ≤ 3000000) (ht : (chT l).length ≤ 1048576) : badL (chT l) [nChain] nChain okB' = false ∧ elsL (chT l) nChain elB = l :=
 l_back (by decide) (by omega) (fun x _ => gw_word x) ht (fun x _ => okB_word x) (fun x _ => elB_word x)
def prfM (n : Nat) (l : List Bytes) : List (Bytes × JV) := [(nIdx, numV n), (nPath, listV (l.map wordV))]
def prfT (n : Nat) (l : List Bytes) : Bytes := objT [nIdx, nPath] [numT n, arrT (l.map wordT)]
theorem prf_gw {n : Nat} {l : List Bytes} (hn : n < 18446744073709551616) (hl : l.length ≤ 3000000) : GW 8 (objV (prfM n l)) (prfT n l) :=
 gw_obj (m := 7) (ms := prfM n l) (.cons (gw_num hn) (.cons (gw_list (m := 6) (by omega) (fun x _ => gw_word x)) .nil)) (by simp [prfM]) (by simp [prfM]; decide) (by simp [prfM]; decide)
theorem prfT_len {n : Nat} {l : List Bytes} (hn : n < 18446744073709551616) (hl : l.length ≤ 10000) (h : ∀ x ∈ l, x.length = 32) : (prfT n l).length ≤ 1000000 := by
 have h0 := numT_len hn
 have := arrT_len (g := wordT) (n := 46) l (fun x hx => by rw [wordT_len, h x hx]; decide)
 unfold prfT
 rw [objT_len]
 simp only [List.zipWith_cons_cons, List.zipWith_nil_right, List.zipWith_nil_left, tailP_len, memP_len]
 rw [show tailP [] = [] from rfl]
 simp [nIdx, nPath]
 omega
def errM (n : Nat) : List (Bytes × JV) := [(nErr, numV n)]
def errT (n : Nat) : Bytes := objT [nErr] [numT n]
theorem err_gw {n : Nat} (hn : n < 18446744073709551616) : GW 8 (objV (errM n)) (errT n) :=
 gw_obj (m := 7) (ms := errM n) (.cons (gw_num hn) .nil) (by simp [errM]) (by simp [errM]) (by simp [errM]; decide)
theorem errT_len {n : Nat} (hn : n < 18446744073709551616) : (errT n).length ≤ 100 := by
 have h0 := numT_len hn
 unfold errT
 rw [objT_len]
 simp [nErr, tailP]
 omega
def TxtPut (t : Bytes) (w : World) (e : Ending) (w' : World) : Prop :=
 Only (fun _ => False) w w' ∧ ∃ A c, e = .returned (.slice A (outT t).length c) ∧ OwnB w' w.heap.size (.slice A (outT t).length c) (outT t)
theorem text_put {H : Nat} {v : JV} {t : Bytes} {w wm : World} {cs : List Value} (hg : GW 8 v t) (hlen : t.length ≤ 1000000000000) (ho : Only (fun _ => False) w wm) (hj : JIs (fun b => H ≤ b) wm v cs) (hG : Gl w) :
  Calls Tryz.prog 52 #[.agg cs.toArray] wm (TxtPut t w) := by
 have hGm : Gl wm := hG.only ho (fun _ _ => id)
 refine (mtext_any (X := fun b => b < wm.heap.size) (B := wm.heap.size) hg hlen (hj.mono (fun b hb _ => hb)) hGm (Nat.le_refl _) hGm.size (fun b hb => hb)).mono ?_
 rintro e w' ⟨hw, A, c, rfl, hown⟩
 exact ⟨ho.then hw.only (fun i hi h => by have := ho.size; omega), A, c, rfl, hown.mono ho.size⟩
theorem obj1 {H : Nat} {w : World} {k1 n1 : Int} {s1 : ByteArray} {A1 B1 : Option Addr} {a1 c1 b1 d1 : Nat} {m1 : Bytes} {v1 : JV} (h1 : JIs (fun b => H ≤ b) w v1 [.int .i64 k1, .string s1, .int .u64 n1, .slice A1 a1 c1, .slice B1 b1 d1]) (hH : H ≤ w.heap.size) :
  Calls Tryz.prog 53 #[.slice (some ⟨w.heap.size, 0, none⟩) 1 1] (w.alloc (.cells #[txt m1, .int .i64 k1, .string s1, .int .u64 n1, .slice A1 a1 c1, .slice B1 b1 d1] 122)) (VOut H (objV [(m1, v1)]) (w.alloc (.cells #[txt m1, .int .i64 k1, .string s1, .int .u64 n1, .slice A1 a1 c1, .slice B1 b1 d1] 122))) := by
 have hps : ∀ q ∈ [((m1, v1), [txt m1, .int .i64 k1, .string s1, .int .u64 n1, .slice A1 a1 c1, .slice B1 b1 d1])], EM (fun b => H ≤ b) (w.alloc (.cells #[txt m1, .int .i64 k1, .string s1, .int .u64 n1, .slice A1 a1 c1, .slice B1 b1 d1] 122)) q.1 q.2 := by
  intro q hq
  simp only [List.mem_cons, List.not_mem_nil, or_false] at hq
  subst hq
  exact ⟨_, rfl, h1.keep ((Only.refl _ _).alloc _)⟩
 exact object_any (ms := [(m1, v1)]) (c := 1) (rowAt_of [((m1, v1), [txt m1, .int .i64 k1, .string s1, .int .u64 n1, .slice A1 a1 c1, .slice B1 b1 d1])] (Blk.new w [txt m1, .int .i64 k1, .string s1, .int .u64 n1, .slice A1 a1 c1, .slice B1 b1 d1] 122) rfl rfl hps) (Nat.le_of_ble_eq_true rfl) (Nat.le_trans hH ((Only.refl (fun _ => False) w).alloc _).size)
theorem obj2 {H : Nat} {w : World} {k1 n1 : Int} {s1 : ByteArray} {A1 B1 : Option Addr} {a1 c1 b1 d1 : Nat} {m1 : Bytes} {v1 : JV} {k2 n2 : Int} {s2 : ByteArray} {A2 B2 : Option Addr} {a2 c2 b2 d2 : Nat} {m2 : Bytes} {v2 : JV} (h1 : JIs (fun b => H ≤ b) w v1 [.int .i64 k1, .string s1, .int .u64 n1, .slice A1 a1 c1, .slice B1 b1 d1]) (h2 : JIs (fun b => H ≤ b) w v2 [.int .i64 k2, .string s2, .int .u64 n2, .slice A2 a2 c2, .slice B2 b2 d2]) (hH : H ≤ w.heap.size) :
  Calls Tryz.prog 53 #[.slice (some ⟨w.heap.size, 0, none⟩) 2 2] (w.alloc (.cells #[txt m1, .int .i64 k1, .string s1, .int .u64 n1, .slice A1 a1 c1, .slice B1 b1 d1, txt m2, .int .i64 k2, .string s2, .int .u64 n2, .slice A2 a2 c2, .slice B2 b2 d2] 122)) (VOut H (objV [(m1, v1), (m2, v2)]) (w.alloc (.cells #[txt m1, .int .i64 k1, .string s1, .int .u64 n1, .slice A1 a1 c1, .slice B1 b1 d1, txt m2, .int .i64 k2, .string s2, .int .u64 n2, .slice A2 a2 c2, .slice B2 b2 d2] 122))) := by
 have hps : ∀ q ∈ [((m1, v1), [txt m1, .int .i64 k1, .string s1, .int .u64 n1, .slice A1 a1 c1, .slice B1 b1 d1]), ((m2, v2), [txt m2, .int .i64 k2, .string s2, .int .u64 n2, .slice A2 a2 c2, .slice B2 b2 d2])], EM (fun b => H ≤ b) (w.alloc (.cells #[txt m1, .int .i64 k1, .string s1, .int .u64 n1, .slice A1 a1 c1, .slice B1 b1 d1, txt m2, .int .i64 k2, .string s2, .int .u64 n2, .slice A2 a2 c2, .slice B2 b2 d2] 122)) q.1 q.2 := by
  intro q hq
  simp only [List.mem_cons, List.not_mem_nil, or_false] at hq
  rcases hq with rfl | rfl
  ·exact ⟨_, rfl, h1.keep ((Only.refl _ _).alloc _)⟩
  ·exact ⟨_, rfl, h2.keep ((Only.refl _ _).alloc _)⟩
 exact object_any (ms := [(m1, v1), (m2, v2)]) (c := 2) (rowAt_of [((m1, v1), [txt m1, .int .i64 k1, .string s1, .int .u64 n1, .slice A1 a1 c1, .slice B1 b1 d1]), ((m2, v2), [txt m2, .int .i64 k2, .string s2, .int .u64 n2, .slice A2 a2 c2, .slice B2 b2 d2])] (Blk.new w [txt m1, .int .i64 k1, .string s1, .int .u64 n1, .slice A1 a1 c1, .slice B1 b1 d1, txt m2, .int .i64 k2, .string s2, .int .u64 n2, .slice A2 a2 c2, .slice B2 b2 d2] 122) rfl rfl hps) (Nat.le_of_ble_eq_true rfl) (Nat.le_trans hH ((Only.refl (fun _ => False) w).alloc _).size)
set_option maxRecDepth 100000 in
set_option maxHeartbeats 1600000 in
theorem askChain_any {Y : Nat → Prop} {A : Option Addr} {c : Nat} {l : List Bytes} {w : World} (hR : RowAt EB 1 Y w A l) (hl : l.length ≤ 3000000) (hs : ∀ x ∈ l, x.length ≤ 1000000000) (hG : Gl w) (hT : (chT l).length ≤ 1000000000000) :
  Calls Tryz.prog 51 #[.slice A l.length c] w (TxtPut (chT l) w) := by
 have HGW := Lib.hid (show GW 8 (objV [(nChain, listV (l.map wordV))]) (chT l) from ch_gw hl)
 have HT := Lib.hid hT
 have HG := Lib.hid hG
 have HR := Lib.hid hR
 have HL := Lib.hid hl
 have HS := Lib.hid hs
 clear hR hl hs
 clear hG hT
 go_enter Tryz.func51, Tryz.ntmps51
 go_wp2_with (first
  | (go_at_call 77; refine (list_bytes HR.out HL.out HS.out).mono ?_; rintro e w2 ⟨ho2, cs2, rfl, hj2⟩; obtain ⟨k1, s1, n1, A1, a1, c1, B1, b1, d1, rfl⟩ := hj2.out5; have HO2 := Lib.hid ho2; have HJ2 := Lib.hid hj2; clear ho2 hj2)
  | (go_at_call 53; refine (obj1 (H := w.heap.size) (m1 := nChain) HJ2.out HO2.out.size).mono ?_; rintro e w3 ⟨ho3, cs3, rfl, hj3⟩; obtain ⟨k3, s3, n3, A3, a3, c3, B3, b3, d3, rfl⟩ := hj3.out5; have HO3 := Lib.hid ((HO2.out.alloc _).trans ho3); have HJ3 := Lib.hid hj3; clear ho3 hj3)
  | (go_at_call 52; refine (text_put HGW.out HT.out HO3.out HJ3.out HG.out).mono ?_; rintro e w4 ⟨ho4, A4, c4, rfl, hown4⟩; have HO4 := Lib.hid ho4; have HW4 := Lib.hid hown4; clear ho4 hown4))
 go_ret
 exact ⟨HO4.out, _, _, rfl, HW4.out⟩
set_option maxRecDepth 100000 in
set_option maxHeartbeats 1600000 in
theorem putErr_any {n : Nat} {w : World} (hn : n ≤ 2147483647) (hG : Gl w) (hT : (errT n).length ≤ 1000000000000) :
  Calls Tryz.prog 25 #[.int .i64 (n : Int)] w (TxtPut (errT n) w) := by
 have HGW := Lib.hid (show GW 8 (objV [(nErr, numV n)]) (errT n) from err_gw (by omega))
 have HT := Lib.hid hT
 have HG := Lib.hid hG
 have HN := Lib.hid hn
 have hn1 : (0 : Int) ≤ (n : Int) := by omega
 have hn2 : (n : Int) ≤ 2147483647 := by omega
 clear hn
 clear hG hT
 go_enter Tryz.func25, Tryz.ntmps25
 go_wp2_with (first
  | (go_at_call 54; refine (numV_any (n := n)).mono ?_; rintro e w2 ⟨ho2, cs2, rfl, hj2⟩; obtain ⟨k1, s1, n1, A1, a1, c1, B1, b1, d1, rfl⟩ := hj2.out5; have HO2 := Lib.hid ho2; have HJ2 := Lib.hid hj2; clear ho2 hj2)
  | (go_at_call 53; refine (obj1 (H := w.heap.size) (m1 := nErr) HJ2.out HO2.out.size).mono ?_; rintro e w3 ⟨ho3, cs3, rfl, hj3⟩; obtain ⟨k3, s3, n3, A3, a3, c3, B3, b3, d3, rfl⟩ := hj3.out5; have HO3 := Lib.hid ((HO2.out.alloc _).trans ho3); have HJ3 := Lib.hid hj3; clear ho3 hj3)
  | (go_at_call 52; refine (text_put HGW.out HT.out HO3.out HJ3.out HG.out).mono ?_; rintro e w4 ⟨ho4, A4, c4, rfl, hown4⟩; have HO4 := Lib.hid ho4; have HW4 := Lib.hid hown4; clear ho4 hown4))
 go_ret
 exact ⟨HO4.out, _, _, rfl, HW4.out⟩
set_option maxRecDepth 100000 in
set_option maxHeartbeats 1600000 in
theorem putPrf_any {Y : Nat → Prop} {A : Option Addr} {c n : Nat} {l : List Bytes} {w : World} (hR : RowAt ED 32 Y w A l) (hl : l.length ≤ 3000000) (hn : n < 18446744073709551616) (hG : Gl w) (hT : (prfT n l).length ≤ 1000000000000) :
  Calls Tryz.prog 23 #[.int .u64 n, .slice A l.length c] w (TxtPut (prfT n l) w) := by
 have HGW := Lib.hid (show GW 8 (objV [(nIdx, numV n), (nPath, listV (l.map wordV))]) (prfT n l) from prf_gw hn hl)
 have HT := Lib.hid hT
 have HG := Lib.hid hG
 have HR := Lib.hid hR
 have HL := Lib.hid hl
 clear hG hT hR hl hn
 go_enter Tryz.func23, Tryz.ntmps23
 go_wp2_with (first
  | (go_at_call 54; refine (numV_any (n := n)).mono ?_; rintro e w1 ⟨ho1, cs1, rfl, hj1⟩; obtain ⟨k1, s1, n1, A1, a1, c1, B1, b1, d1, rfl⟩ := hj1.out5; have HO1 := Lib.hid ho1; have HJ1 := Lib.hid hj1; have HR1 := Lib.hid (show RowAt ED 32 (fun _ => True) w1 A l from fun i a ha => (HR.out i a ha).elim fun b hb => hb.elim fun o ho => ho.elim fun cs hcs => ⟨b, o, cs, hcs.1, rangeAt.keep hcs.2.1 ho1, hcs.2.2.1, hcs.2.2.2⟩); clear ho1 hj1)
  | (go_at_call 58; refine (list_hash HR1.out HL.out).mono ?_; rintro e w2 ⟨ho2, cs2, rfl, hj2⟩; obtain ⟨k2, s2, n2, A2, a2, c2, B2, b2, d2, rfl⟩ := hj2.out5; have HO2 := Lib.hid (HO1.out.trans ho2); have HJ12 := Lib.hid (HJ1.out.keep ho2); have HJ2 := Lib.hid (hj2.mono (Y := fun b => w.heap.size ≤ b) (fun b _ hb => Nat.le_trans HO1.out.size hb)); clear ho2 hj2)
  | (go_at_call 53; refine (obj2 (H := w.heap.size) (m1 := nIdx) (m2 := nPath) HJ12.out HJ2.out HO2.out.size).mono ?_; rintro e w3 ⟨ho3, cs3, rfl, hj3⟩; obtain ⟨k3, s3, n3, A3, a3, c3, B3, b3, d3, rfl⟩ := hj3.out5; have HO3 := Lib.hid ((HO2.out.alloc _).trans ho3); have HJ3 := Lib.hid hj3; clear ho3 hj3)
  | (go_at_call 52; refine (text_put HGW.out HT.out HO3.out HJ3.out HG.out).mono ?_; rintro e w4 ⟨ho4, A4, c4, rfl, hown4⟩; have HO4 := Lib.hid ho4; have HW4 := Lib.hid hown4; clear ho4 hown4))
 go_ret
 exact ⟨HO4.out, _, _, rfl, HW4.out⟩

theorem rowAt_own {α : Type} {E : (Nat → Prop) → World → α → List Value → Prop} {size : Nat} (hE : EncOK size E) {T : TypeId} {H : Nat} {w : World} {A : Option Addr} {n c : Nat} {l : List α} (h : RowOwn E size T H w (.slice A n c) l) :
  RowAt E size (fun b => H ≤ b) w A l := by
 obtain ⟨xs, h1, h2⟩ := h
 intro i a ha
 have hi := (List.getElem?_eq_some_iff.1 ha).1
 have he := h2.2 i a ha
 have hlen : ((xs.drop (size * i)).take size).length = size := hE.len he
 rcases h1.2 with ⟨e, hn⟩ | ⟨g, cap, cur, e, hb, hgg, _⟩
 ·omega
 ·cases e
  refine ⟨g, 0, _, rfl, ?_, hlen, hE.only he (Only.refl (fun _ => False) w) (fun b _ hy => ⟨id, hy.1⟩)⟩
  intro j y hy
  have hj := (List.getElem?_eq_some_iff.1 hy).1
  rw [List.getElem?_take, if_pos (by omega), List.getElem?_drop] at hy
  have := World.ownsRow.cells h1 (g := g) rfl (size * i + j) y hy
  rw [show 0 + i * size + j = size * i + j by rw [Nat.zero_add, Nat.mul_comm]]
  unfold Addr.add at this
  by_cases h0 : size * i + j = 0
  ·rw [if_pos h0] at this; rw [h0]; exact this
  ·rw [if_neg h0] at this; simpa using this
def PutOK (t : Bytes) (w : World) (e : Ending) (w' : World) : Prop :=
 Only (fun _ => False) w w' ∧ ∃ A c, e = .returned (.slice A t.length c) ∧ BytesAt w' A t ∧ t.length ≤ c ∧ ∀ b o, A = some ⟨b, o, none⟩ → b < w'.heap.size
theorem own_low {w : World} {base : Nat} {A : Option Addr} {n c : Nat} {l : Bytes} (h : OwnB w base (.slice A n c) l) : ∀ b o, A = some ⟨b, o, none⟩ → b < w.heap.size := by
 intro b o e
 subst e
 exact (h.lt b rfl).2
theorem txt_ok {t : Bytes} {w w' : World} {e : Ending} (hl : t.length ≤ 1048576) (h : TxtPut t w e w') : PutOK t w e w' := by
 obtain ⟨h1, A, c, rfl, h2⟩ := h
 have ht : outT t = t := if_pos hl
 rw [ht] at h2 ⊢
 exact ⟨h1, A, c, rfl, h2.bytes.2, h2.capB, own_low h2⟩
def RowOut {α : Type} (E : (Nat → Prop) → World → α → List Value → Prop) (size : Nat) (err : Int) (l : List α) (w : World) (e : Ending) (w' : World) : Prop :=
 Only (fun _ => False) w w' ∧ ∃ A c, e = .returned (.tuple #[.slice A l.length c, .int .i64 err]) ∧ RowAt E size (fun b => w.heap.size ≤ b) w' A l
variable {A : Option Addr} {c : Nat} {w : World}
theorem l_take {α : Type} {E : (Nat → Prop) → World → α → List Value → Prop} {size : Nat} (hE : EncOK size E) {T : TypeId} {bad : Bool} {l l2 : List α} {e0 : Int} {e : Ending} {w' : World} (h : LTake E size T bad l e0 w e w') (hb : bad = false) (hl : l = l2) : RowOut E size 0 l2 w e w' := by
 subst hb hl
 obtain ⟨ho, A, c, rfl, hr⟩ := h
 exact ⟨ho, A, c, rfl, rowAt_own hE hr⟩
theorem l_take0 {α : Type} {E : (Nat → Prop) → World → α → List Value → Prop} {size : Nat} {T : TypeId} {bad : Bool} {l : List α} {e0 : Int} {e : Ending} {w' : World} (h : LTake E size T bad l e0 w e w') (hb : bad = true) : RowOut E size e0 [] w e w' := by
 subst hb
 obtain ⟨ho, A, c, rfl, hr⟩ := h
 exact ⟨ho, A, c, rfl, fun i a ha => by simp at ha⟩
theorem ch_take {l : List Bytes} (hl : l.length ≤ 3000000) (ht : (chT l).length ≤ 1048576) (hI : Inp w A (chT l)) (hc : (chT l).length ≤ c) : Calls Tryz.prog 49 #[.slice A (chT l).length c] w (RowOut EB 1 0 l w) :=
 (readChain_any hI hc).mono (fun e w' h' => l_take encB h' (ch_back hl ht).1 (ch_back hl ht).2)
theorem two_take : badL [91, 93] [nChain] nChain okB' = true := by
 have hg : GW 8 (listV []) [91, 93] := gw_list (m := 7) (l := ([] : List Unit)) (f := fun _ => numV 0) (g := fun _ => []) (by simp) (fun x hx => by simp at hx)
 unfold badL pBad
 rw [parseM_gw hg (by decide)]
 rfl
theorem two_read (hI : Inp w A [91, 93]) (hc : 2 ≤ c) : Calls Tryz.prog 49 #[.slice A 2 c] w (RowOut EB 1 43 [] w) :=
 (readChain_any (l := [91, 93]) hI hc).mono (fun e w' h' => l_take0 h' two_take)
end Go.Proofs.YtjehnejgojgahaaGreatDoor
