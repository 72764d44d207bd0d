/-
  A part of the proof of MessageBack (bulk at most 1048576): the texts Y2 Y3 Y4 Y5 Z1 Z2 Y6 Y7 Z3 Q6.
-/
import Derived.Test.YtjehnejgojgahaaGreatDoorU19
import Derived.Test.YtjehnejgojgahaaGreatDoorU20
import Derived.Deep.RegionHeld3
import Derived.Deep.RegionLaw

/- Y2 -/
namespace Go.Proofs.YtjehnejgojgahaaGreatDoor
open Go.RowKit
set_option linter.unusedVariables false
set_option linter.unusedSimpArgs false

def listV (l : List JV) : JV := .mk 5 [] 0 l []
def EJ (Y : Nat → Prop) (w : World) (v : JV) (cs : List Value) : Prop := JIs Y w v cs
theorem encJ : EncOK 5 EJ where
  len := fun h => JIs.len h
  one := by
    intro Y w a cs h
    obtain ⟨A, c, B, d, rfl⟩ := JIs.form h
    rfl
  only := fun h ho hG => JIs.only h ho hG
/-- Things that came in: they lie in a row, of these things. -/
def RowAt {α : Type} (E : (Nat → Prop) → World → α → List Value → Prop) (size : Nat) (Y : Nat → Prop) (w : World) (A : Option Addr) (l : List α) : Prop :=
  ∀ i a, l[i]? = some a → ∃ b o cs, A = some ⟨b, o, none⟩ ∧ w.rangeAt b (o + i * size) cs ∧ cs.length = size ∧ E Y w a cs
theorem rangeAt.keep {w w' : World} {b o : Nat} {cs : List Value} (h : w.rangeAt b o cs) (ho : Only (fun _ => False) w w') : w'.rangeAt b o cs := fun j x hx => ho.cell (h j x hx) id
theorem rangeAt.only {w w' : World} {b o : Nat} {cs : List Value} {G : Nat → Prop} (h : w.rangeAt b o cs) (ho : Only G w w') (hg : ¬ G b) : w'.rangeAt b o cs := fun j x hx => ho.cell (h j x hx) hg
theorem rangeAt.lt {w : World} {b o : Nat} {cs : List Value} (h : w.rangeAt b o cs) (hne : cs ≠ []) : b < w.heap.size := by
  cases cs with
  | nil => exact absurd rfl hne
  | cons x cs => exact cell_lt (h 0 x rfl)
structure LMid (Hv : Nat) (w2 wr : World) (vl : Value) (vs : List JV) : Prop where
  blk : Blk wr Hv (cells5 5 [] 0 vl (.slice none 0 0)) 79
  row : RowOwn EJ 5 79 w2.heap.size wr vl vs
  only : Only (fun i => i = Hv) w2 wr
theorem LMid.snoc {Hv gg cap n : Nat} {w2 wr wx wa wy : World} {vl : Value} {vs : List JV} {v : JV} {cs xs : List Value} (h : LMid Hv w2 wr vl vs) (hn : vs.length = n) (hv : Hv < w2.heap.size) (hx : Only (fun _ => False) wr wx) (hj : JIs (fun b => wr.heap.size ≤ b) wx v cs)
    (ha : Only (fun _ => False) wx wa) (hxs : wr.ownsRow w2.heap.size 79 5 vl n xs) (hrow : RowE EJ 5 (fun b => w2.heap.size ≤ b ∧ vl.ownBlock ≠ some b) wr vs xs)
    (ho : wy.ownsRow w2.heap.size 79 5 (.slice (some ⟨gg, 0, none⟩) (n + 1) cap) (n + 1) (xs ++ cs)) (hg : wa.grownBy wy vl.ownBlock) (hor : vl.ownBlock = some gg ∨ gg = wa.heap.size) :
    LMid Hv w2 (wy.setCell ⟨Hv, 3, none⟩ (.slice (some ⟨gg, 0, none⟩) (n + 1) cap)) (.slice (some ⟨gg, 0, none⟩) (n + 1) cap) (vs ++ [v]) := by
  subst hn
  have hlt : ∀ k, vl.ownBlock = some k → w2.heap.size ≤ k ∧ k < wr.heap.size := h.row.lt
  have s1 := hx.size
  have s2 := ha.size
  have s0 := h.only.size
  have oa : Only (fun _ => False) wr wa := hx.trans ha
  have ggv : gg ≠ Hv := by
    rcases hor with e | e
    · have := hlt _ e; omega
    · omega
  have hrow2 : RowOwn EJ 5 79 w2.heap.size wy (.slice (some ⟨gg, 0, none⟩) (vs.length + 1) cap) (vs ++ [v]) := by
    refine RowOwn.snoc (w := wa) (v := vl) encJ (hrow.only encJ oa (fun b hb hy => ⟨id, hy⟩)) ?_ ho hg rfl hor
    have hj2 : JIs (fun b => w2.heap.size ≤ b ∧ vl.ownBlock ≠ some b) wa v cs := (hj.keep ha).mono (fun b _ hb => ⟨by omega, fun e => by have := hlt _ e; omega⟩)
    exact hj2
  refine ⟨?_, ?_, ?_⟩
  · have hb : Blk wy Hv (cells5 5 [] 0 vl (.slice none 0 0)) 79 := (h.blk.only oa id).only (Only.ofGrown hg) (fun e => by have := hlt _ e; omega)
    exact hb.set' 3 _ rfl
  · exact hrow2.only encJ ((Only.refl (fun i => i = Hv) wy).setCell (p := ⟨Hv, 3, none⟩) (fun _ => rfl) _) (fun b hb _ e => by omega)
  · refine ((h.only.trans (oa.mono (fun _ _ h => h.elim))).then (Only.ofGrown hg) (fun i hi e => ?_)).setCell (p := ⟨Hv, 3, none⟩) (fun _ => rfl) _
    have := hlt _ e; omega
theorem JIs.out5 {X : Nat → Prop} {w : World} {v : JV} {cs : List Value} (h : JIs X w v cs) : ∃ (k : Int) (s : ByteArray) (n : Int) (A : Option Addr) (a c : Nat) (B : Option Addr) (b d : Nat), cs = [.int .i64 k, .string s, .int .u64 n, .slice A a c, .slice B b d] := by
  obtain ⟨A, c, B, d, rfl⟩ := h.form
  exact ⟨_, _, _, _, _, _, _, _, _, rfl⟩
theorem alloc_lt6 (w : World) (o : Obj) : w.heap.size < (w.alloc o).heap.size := by simp
theorem LMid.store {Hv : Nat} {w2 wr wx wa wy : World} {vl : Value} {vs : List JV} (h : LMid Hv w2 wr vl vs) (hv : Hv < w2.heap.size) (hx : Only (fun _ => False) wr wx) (ha : Only (fun _ => False) wx wa) (hg : wa.grownBy wy vl.ownBlock) : Blk wy Hv (cells5 5 [] 0 vl (.slice none 0 0)) 79 :=
  (h.blk.only (hx.trans ha) id).only (Only.ofGrown hg) (fun e => by have := h.row.lt _ e; omega)
theorem blk_range {w : World} {g : Nat} {l : Bytes} {T : TypeId} (h : Blk w g (u8s l) T) : w.rangeAt g 0 (u8s l) := (blk_bytes h).range
theorem LMid.value {Hv : Nat} {w2 wr : World} {vl : Value} {vs : List JV} (h : LMid Hv w2 wr vl vs) : JIs (fun b => w2.heap.size ≤ b) wr (listV vs) (cells5 5 [] 0 vl (.slice none 0 0)) := by
  obtain ⟨xs, h1, h2⟩ := h.row
  have hx : RowIs (fun b => w2.heap.size ≤ b) wr vs xs := ⟨h2.1, fun i v hv => (h2.2 i v hv).mono (fun b _ hb => hb.1)⟩
  exact jis_of_rows (base := w2.heap.size) (e := 79) (f := 9) (ks := []) h1 (World.ownsRow_nil wr w2.heap.size 9 1) hx (fun b hb => (World.ownsRow.lt h1 b hb).1) (fun b hb => by cases hb)
theorem under24x : Tryz.prog.underlying 24 = some (.array 32 5) := by kernel_rfl
set_option maxRecDepth 100000 in
set_option maxHeartbeats 6400000 in
theorem list_hash {Y : Nat → Prop} {A : Option Addr} {c : Nat} {l : List Bytes} {w : World} (hR : RowAt ED 32 Y w A l) (hl : l.length ≤ 3000000) :
    Calls Tryz.prog 58 #[.slice A l.length c, .func (.func 55) #[] #[]] w (VOut w.heap.size (listV (l.map wordV)) w) := by
  have HR := Lib.hid hR
  have HL := Lib.hid hl
  have hlz : (l.length : Int) ≤ 3000000 := by omega
  obtain ⟨H, hH⟩ : ∃ H, H = w.heap.size := ⟨_, rfl⟩
  have hb0 : Blk ((w.alloc (.cells #[.int .i64 0, .string ⟨#[]⟩, .int .u64 0, .slice none 0 0, .slice none 0 0] 79)).alloc (.cells #[.int .i64 0, .string ⟨#[]⟩, .int .u64 0, .slice none 0 0, .slice none 0 0] 79)) (w.heap.size + 1) [.int .i64 0, .string ⟨#[]⟩, .int .u64 0, .slice none 0 0, .slice none 0 0] 79 := by
    have := Blk.new (w.alloc (.cells #[.int .i64 0, .string ⟨#[]⟩, .int .u64 0, .slice none 0 0, .slice none 0 0] 79)) [.int .i64 0, .string ⟨#[]⟩, .int .u64 0, .slice none 0 0, .slice none 0 0] 79
    rwa [World.size_alloc] at this
  have HB0 := Lib.hid hb0
  clear hR hl hb0
  go_enter Tryz.func58, Tryz.ntmps58
  go_upto_region 3 with (refine wpList_store_blk (cs := [.int .i64 5, .string ⟨#[]⟩, .int .u64 0, .slice none 0 0, .slice none 0 0]) rfl 79 (.tmp 5) (.tmp 8) rfl rfl rfl rfl HB0.out rfl info79s rfl ?_; intro w2 hb2 ho2; have HB2 := Lib.hid hb2; have HO2 := Lib.hid (show Only (fun _ => False) w w2 from (((Only.refl _ w).alloc _).alloc _).then ho2 (fun i hi e => by omega)); have HR2 := Lib.hid (((Blk.new w [.int .i64 0, .string ⟨#[]⟩, .int .u64 0, .slice none 0 0, .slice none 0 0] 79).alloc (.cells #[.int .i64 0, .string ⟨#[]⟩, .int .u64 0, .slice none 0 0, .slice none 0 0] 79)).only ho2 (fun e => by omega)); have hs2 := ho2.size; rw [World.size_alloc, World.size_alloc] at hs2; have HS2 := Lib.hid hs2; clear hb2 ho2 hs2)
  have HH := Lib.hid hH
  generalize hHv : w.heap.size + 1 = Hv at HB2 ⊢
  have HHV := Lib.hid hHv
  clear hH hHv
  go_loopw [11] (fun s11 wr => ∃ (j : Nat) (vl : Value), j ≤ l.length ∧ s11 = .int .i64 (j : Int) ∧ LMid Hv w2 wr vl ((l.take j).map wordV)) (fun i _ => l.length - (intOf i).toNat)
  case atStart => exact ⟨0, .slice none 0 0, by omega, rfl, HB2.out, RowOwn.nil _ _ _, Only.refl _ _⟩
  case round =>
    obtain ⟨j, vl, hj, rfl, hm⟩ := hrel
    have HM := Lib.hid hm
    clear hm
    have hvlt : Hv < w2.heap.size := HB2.out.lt
    have HVLT := Lib.hid hvlt
    clear hvlt
    rcases Nat.lt_or_ge j l.length with hlt | hge
    · obtain ⟨x, hx⟩ : ∃ x, l[j]? = some x := ⟨l[j], List.getElem?_eq_getElem hlt⟩
      have q : decide ((j : Int) < (l.length : Int)) = true := by simp; omega
      have hjz : (j : Int) < (l.length : Int) := by omega
      obtain ⟨bA, oA, cs, rfl, hrg, hcl, hex⟩ := HR.out j x hx
      have hwr : Only (fun _ => False) w wr := HO2.out.then HM.out.only (fun i hi e => by have := HHV.out; omega)
      have hrg2 := rangeAt.keep hrg hwr
      have HRG := Lib.hid hrg2
      have HCL := Lib.hid hcl
      have HEX := Lib.hid hex
      have HMX := Lib.hid (List.mem_of_getElem? hx)
      have HWR := Lib.hid hwr
      have HTS := Lib.hid (take_snoc hx)
      have HLT := Lib.hid hlt
      have HKL := Lib.hid (show ((l.take j).map wordV).length = j by rw [List.length_map, List.length_take]; omega)
      have HBV := Lib.hid HM.out.blk
      obtain ⟨xs, hown, hrow⟩ := HM.out.row
      rw [HKL.out] at hown
      have HOWN := Lib.hid hown
      have HROW := Lib.hid hrow
      have hjn : j ≤ 3000000 := by have := HL.out; omega
      clear hx hrg hrg2 hcl hex hwr hlt hown hrow
      have hxl : x.length = 32 := HEX.out.2
      have HXL := Lib.hid hxl
      have hcs : cs = u8s x := HEX.out.1
      subst hcs
      clear hxl
      go_upto_region 5 with (first
        | (refine wpList_load_arr rfl 24 (.tmp 13) rfl rfl HRG.out under24x (info24l HXL.out) ?_)
        | (refine wpList_alloc_blk rfl 24 7 rfl rfl zero24 ?_; intro w4 hb4 ho4 hs4; have HB4 := Lib.hid hb4; have HO4 := Lib.hid ho4; clear hb4 ho4 hs4)
        | (refine wpList_store_blk (cs := u8s x) rfl 24 (.tmp 7) (.tmp 14) rfl rfl rfl rfl HB4.out (by rw [u8s_length, u8s_length, HXL.out]; rfl) (info24s HXL.out) (u8s_one x) ?_; intro w5 hb5 ho5; have HB5 := Lib.hid hb5; have HO5 := Lib.hid (HO4.out.then ho5 (fun i hi e => by omega)); have k3 := (HBV.out.only HO5.out id).cell 3 rfl; have HK3 := Lib.hid k3; clear hb5 ho5))
      have hvs : Hv < w5.heap.size := cell_lt k3
      have hvf := (HBV.out.only HO5.out id).frozen 3
      have HS5 := Lib.hid (show w5.drew.rangeAt wr.heap.size 0 (u8s x) from blk_range HB5.out.drew)
      have hu24 := under24x
      have hi24 := info24l HXL.out
      have hszr := HVLT.out
      have hszr2 := HM.out.only.size
      have hrv : ¬ (wr.heap.size = Hv) := by omega
      refine wp_region_held_drew (S := fun w' => w'.rangeAt wr.heap.size 0 (u8s x)) (by kernel_rfl) HS5.out (fun hHeld => ?_)
      refine wpAnyH_take (i := 0) (oi := { dst := some 15, op := Op.fieldAddr 79 (Operand.tmp 5) 3, type := 0, pos := "message.go:52", after := #[], guard := none }) (v := .pointer (some ⟨Hv, 3, none⟩)) rfl (by kernel_rfl) (by kernel_rfl) (by kernel_rfl) (fun _ _ _ h => h) (Or.inl ⟨by rfl, ?y0_1⟩) (by assumption) ?r0_1
      case y0_1 => intro w hSw; go_simp
      try simp only [Act.put, List.setIfInBounds_toArray, List.set_cons_zero, List.set_cons_succ]
      refine wpAnyH_take (i := 2) (oi := { dst := some 17, op := Op.move (Operand.tmp 1), type := 123, pos := "message.go:52", after := #[], guard := none }) (v := .func (.func 55) #[] #[]) rfl (by kernel_rfl) (by kernel_rfl) (by kernel_rfl) (fun _ _ _ h => h) (Or.inl ⟨by rfl, ?y2_2⟩) (by assumption) ?r2_2
      case y2_2 => intro w hSw; go_simp
      try simp only [Act.put, List.setIfInBounds_toArray, List.set_cons_zero, List.set_cons_succ]
      refine wpAnyH_take (i := 3) (oi := { dst := some 18, op := Op.load 24 (Operand.tmp 7), type := 24, pos := "message.go:52", after := #[], guard := none }) (v := .agg (u8s x).toArray) rfl (by kernel_rfl) (by kernel_rfl) (by kernel_rfl) (fun _ _ _ h => h) (yieldsIf_load_mid (by rfl) 24 (.tmp 7) rfl wr.heap.size 0 rfl (u8s x) _ (fun w h => h) hu24 rfl hi24) (by assumption) ?r3
      try simp only [Act.put, List.setIfInBounds_toArray, List.set_cons_zero, List.set_cons_succ]
      refine wpAnyH_ready (rs := [1, 4]) (by kernel_rfl) (by simp) ?_
      refine AllReadyH.cons (o := { dst := some 16, op := Op.load 76 (Operand.tmp 15), type := 76, pos := "message.go:52", after := #[{ on := 0, ground := Ground.data }], guard := none }) rfl (fun K hK => ?_) (AllReadyH.cons (o := { dst := some 19, op := Op.call { callee := Callee.value (Operand.tmp 17), args := #[Operand.tmp 18], argTypes := #[24] }, type := 79, pos := "message.go:52", after := #[{ on := 2, ground := Ground.data }, { on := 3, ground := Ground.data }], guard := none }) rfl (fun K hK => ?_) AllReadyH.nil)
      · go_simp
        refine hK.out _ _ (by assumption) (fun hHeld => ?_)
        clear hK K
        try simp only [Act.put, List.setIfInBounds_toArray, List.set_cons_zero, List.set_cons_succ]
        refine wpAnyH_ready (rs := [4]) (by kernel_rfl) (by simp) ?_
        refine AllReadyH.cons (o := { dst := some 19, op := Op.call { callee := Callee.value (Operand.tmp 17), args := #[Operand.tmp 18], argTypes := #[24] }, type := 79, pos := "message.go:52", after := #[{ on := 2, ground := Ground.data }, { on := 3, ground := Ground.data }], guard := none }) rfl (fun K hK => ?_) AllReadyH.nil
        go_simp
        (go_at_call 55; refine (hashV_any HXL.out).mono ?_; rintro e w6 ⟨ho6, cs6, rfl, hj6⟩; have ho6' : Only (fun _ => False) wr w6 := HO5.out.drew.trans ho6; have hj6' : JIs (fun b => wr.heap.size ≤ b) w6 (wordV x) cs6 := hj6.mono (fun b _ hb => Nat.le_trans HO5.out.size hb); obtain ⟨k6, s6, n6, A6, a6, c6, B6, b6, d6, rfl⟩ := hj6'.out5; have k6 := (HBV.out.only ho6' id).cell 3 rfl; have k6s := cell_lt k6; have HO6 := Lib.hid ho6'; have HS6 := Lib.hid (rangeAt.keep HS5.out ho6); have HJ6 := Lib.hid hj6'; clear ho6 ho6' hj6 hj6')
        refine hK.out _ _ HS6.out (fun hHeld => ?_)
        clear hK K
        try simp only [Act.put, List.setIfInBounds_toArray, List.set_cons_zero, List.set_cons_succ]
        refine wpAnyH_ready (rs := [5]) (by kernel_rfl) (by simp) ?_
        refine AllReadyH.cons (o := { dst := some 20, op := Op.buildSlice 76 1 #[(0, Operand.tmp 19)], type := 76, pos := "message.go:52", after := #[{ on := 4, ground := Ground.data }], guard := none }) rfl (fun K hK => ?_) AllReadyH.nil
        go_simp
        refine hK.out _ _ (rangeAt.keep HS6.out ((Only.refl _ _).alloc _)) (fun hHeld => ?_)
        clear hK K
        try simp only [Act.put, List.setIfInBounds_toArray, List.set_cons_zero, List.set_cons_succ]
        refine wpAnyH_ready (rs := [6]) (by kernel_rfl) (by simp) ?_
        refine AllReadyH.cons (o := { dst := some 21, op := Op.call { callee := Callee.builtin Builtin.append, args := #[Operand.tmp 16, Operand.tmp 20], argTypes := #[76, 76] }, type := 76, pos := "message.go:52", after := #[{ on := 1, ground := Ground.data }, { on := 5, ground := Ground.data }, { on := 4, ground := Ground.chain }], guard := none }) rfl (fun K hK => ?_) AllReadyH.nil
        refine step_append79 (by rfl) _ _ (by rfl) (by rfl) (own_only HOWN.out (HO6.out.alloc _) (fun _ _ h => h)) (by rfl) (Blk.new w6 _ 79) (by rfl) (by rfl) hjn (Nat.le_trans hszr2 (Nat.le_trans HO6.out.size (Nat.le_of_lt (alloc_lt6 w6 _)))) ?_; intro gg cap w8 hown8 hgr8 hor8; have hm8 := LMid.snoc HM.out HKL.out HVLT.out HO6.out HJ6.out ((Only.refl _ w6).alloc _) HOWN.out HROW.out hown8 hgr8 hor8; have hb8 := LMid.store HM.out HVLT.out HO6.out ((Only.refl _ w6).alloc _) hgr8; have k8 := hb8.cell 3 rfl; have f8 := hb8.frozen 3; have HM8 := Lib.hid hm8; have HS8 := Lib.hid (rangeAt.only (rangeAt.keep HS6.out ((Only.refl _ w6).alloc _)) (Only.ofGrown hgr8) (fun e => by have := (World.ownsRow.lt HOWN.out _ e).2; omega)); clear hm8 hb8 hown8 hgr8 hor8
        refine hK.out _ _ HS8.out (fun hHeld => ?_)
        clear hK K
        try simp only [Act.put, List.setIfInBounds_toArray, List.set_cons_zero, List.set_cons_succ]
        refine wpAnyH_take (i := 7) (oi := { dst := some 22, op := Op.fieldAddr 79 (Operand.tmp 5) 3, type := 0, pos := "message.go:52", after := #[{ on := 0, ground := Ground.phase }, { on := 1, ground := Ground.phase }, { on := 2, ground := Ground.phase }, { on := 3, ground := Ground.phase }, { on := 4, ground := Ground.phase }, { on := 5, ground := Ground.phase }, { on := 6, ground := Ground.phase }], guard := none }) (v := .pointer (some ⟨Hv, 3, none⟩)) rfl (by kernel_rfl) (by kernel_rfl) (by kernel_rfl) (fun _ _ _ h => h) (Or.inl ⟨by rfl, ?y7_3⟩) (by assumption) ?r7_3
        case y7_3 => intro w hSw; go_simp
        try simp only [Act.put, List.setIfInBounds_toArray, List.set_cons_zero, List.set_cons_succ]
        refine wpAnyH_ready (rs := [8]) (by kernel_rfl) (by simp) ?_
        refine AllReadyH.cons (o := { dst := none, op := Op.store 76 (Operand.tmp 22) (Operand.tmp 21), type := 0, pos := "message.go:52", after := #[{ on := 7, ground := Ground.data }, { on := 6, ground := Ground.data }, { on := 6, ground := Ground.chain }, { on := 0, ground := Ground.phase }, { on := 1, ground := Ground.phase }, { on := 2, ground := Ground.phase }, { on := 3, ground := Ground.phase }, { on := 4, ground := Ground.phase }, { on := 5, ground := Ground.phase }, { on := 6, ground := Ground.phase }], guard := none }) rfl (fun K hK => ?_) AllReadyH.nil
        go_simp
        refine hK.out _ _ (rangeAt.only HS8.out ((Only.refl (fun i => i = Hv) _).setCell (p := ⟨Hv, 3, none⟩) (fun _ => rfl) _) hrv) (fun hHeld => ?_)
        clear hK K
        try simp only [Act.put, List.setIfInBounds_toArray, List.set_cons_zero, List.set_cons_succ]
        refine wpAnyH_done (by kernel_rfl) ?_ _
        go_wp2
        go_roundw
        case rel =>
          refine ⟨j + 1, .slice (some ⟨gg, 0, none⟩) (j + 1) cap, by have := HLT.out; omega, by push_cast; rfl, ?_⟩
          rw [HTS.out, List.map_append]
          exact HM8.out
        case measure => have := HLT.out; simp [intOf]; omega
      · go_simp
        (go_at_call 55; refine (hashV_any HXL.out).mono ?_; rintro e w6 ⟨ho6, cs6, rfl, hj6⟩; have ho6' : Only (fun _ => False) wr w6 := HO5.out.drew.trans ho6; have hj6' : JIs (fun b => wr.heap.size ≤ b) w6 (wordV x) cs6 := hj6.mono (fun b _ hb => Nat.le_trans HO5.out.size hb); obtain ⟨k6, s6, n6, A6, a6, c6, B6, b6, d6, rfl⟩ := hj6'.out5; have k6 := (HBV.out.only ho6' id).cell 3 rfl; have k6s := cell_lt k6; have HO6 := Lib.hid ho6'; have HS6 := Lib.hid (rangeAt.keep HS5.out ho6); have HJ6 := Lib.hid hj6'; clear ho6 ho6' hj6 hj6')
        refine hK.out _ _ HS6.out (fun hHeld => ?_)
        clear hK K
        try simp only [Act.put, List.setIfInBounds_toArray, List.set_cons_zero, List.set_cons_succ]
        refine wpAnyH_ready (rs := [1, 5]) (by kernel_rfl) (by simp) ?_
        refine AllReadyH.cons (o := { dst := some 16, op := Op.load 76 (Operand.tmp 15), type := 76, pos := "message.go:52", after := #[{ on := 0, ground := Ground.data }], guard := none }) rfl (fun K hK => ?_) (AllReadyH.cons (o := { dst := some 20, op := Op.buildSlice 76 1 #[(0, Operand.tmp 19)], type := 76, pos := "message.go:52", after := #[{ on := 4, ground := Ground.data }], guard := none }) rfl (fun K hK => ?_) AllReadyH.nil)
        · go_simp
          refine hK.out _ _ (by assumption) (fun hHeld => ?_)
          clear hK K
          try simp only [Act.put, List.setIfInBounds_toArray, List.set_cons_zero, List.set_cons_succ]
          refine wpAnyH_ready (rs := [5]) (by kernel_rfl) (by simp) ?_
          refine AllReadyH.cons (o := { dst := some 20, op := Op.buildSlice 76 1 #[(0, Operand.tmp 19)], type := 76, pos := "message.go:52", after := #[{ on := 4, ground := Ground.data }], guard := none }) rfl (fun K hK => ?_) AllReadyH.nil
          go_simp
          refine hK.out _ _ (rangeAt.keep HS6.out ((Only.refl _ _).alloc _)) (fun hHeld => ?_)
          clear hK K
          try simp only [Act.put, List.setIfInBounds_toArray, List.set_cons_zero, List.set_cons_succ]
          refine wpAnyH_ready (rs := [6]) (by kernel_rfl) (by simp) ?_
          refine AllReadyH.cons (o := { dst := some 21, op := Op.call { callee := Callee.builtin Builtin.append, args := #[Operand.tmp 16, Operand.tmp 20], argTypes := #[76, 76] }, type := 76, pos := "message.go:52", after := #[{ on := 1, ground := Ground.data }, { on := 5, ground := Ground.data }, { on := 4, ground := Ground.chain }], guard := none }) rfl (fun K hK => ?_) AllReadyH.nil
          refine step_append79 (by rfl) _ _ (by rfl) (by rfl) (own_only HOWN.out (HO6.out.alloc _) (fun _ _ h => h)) (by rfl) (Blk.new w6 _ 79) (by rfl) (by rfl) hjn (Nat.le_trans hszr2 (Nat.le_trans HO6.out.size (Nat.le_of_lt (alloc_lt6 w6 _)))) ?_; intro gg cap w8 hown8 hgr8 hor8; have hm8 := LMid.snoc HM.out HKL.out HVLT.out HO6.out HJ6.out ((Only.refl _ w6).alloc _) HOWN.out HROW.out hown8 hgr8 hor8; have hb8 := LMid.store HM.out HVLT.out HO6.out ((Only.refl _ w6).alloc _) hgr8; have k8 := hb8.cell 3 rfl; have f8 := hb8.frozen 3; have HM8 := Lib.hid hm8; have HS8 := Lib.hid (rangeAt.only (rangeAt.keep HS6.out ((Only.refl _ w6).alloc _)) (Only.ofGrown hgr8) (fun e => by have := (World.ownsRow.lt HOWN.out _ e).2; omega)); clear hm8 hb8 hown8 hgr8 hor8
          refine hK.out _ _ HS8.out (fun hHeld => ?_)
          clear hK K
          try simp only [Act.put, List.setIfInBounds_toArray, List.set_cons_zero, List.set_cons_succ]
          refine wpAnyH_take (i := 7) (oi := { dst := some 22, op := Op.fieldAddr 79 (Operand.tmp 5) 3, type := 0, pos := "message.go:52", after := #[{ on := 0, ground := Ground.phase }, { on := 1, ground := Ground.phase }, { on := 2, ground := Ground.phase }, { on := 3, ground := Ground.phase }, { on := 4, ground := Ground.phase }, { on := 5, ground := Ground.phase }, { on := 6, ground := Ground.phase }], guard := none }) (v := .pointer (some ⟨Hv, 3, none⟩)) rfl (by kernel_rfl) (by kernel_rfl) (by kernel_rfl) (fun _ _ _ h => h) (Or.inl ⟨by rfl, ?y7_4⟩) (by assumption) ?r7_4
          case y7_4 => intro w hSw; go_simp
          try simp only [Act.put, List.setIfInBounds_toArray, List.set_cons_zero, List.set_cons_succ]
          refine wpAnyH_ready (rs := [8]) (by kernel_rfl) (by simp) ?_
          refine AllReadyH.cons (o := { dst := none, op := Op.store 76 (Operand.tmp 22) (Operand.tmp 21), type := 0, pos := "message.go:52", after := #[{ on := 7, ground := Ground.data }, { on := 6, ground := Ground.data }, { on := 6, ground := Ground.chain }, { on := 0, ground := Ground.phase }, { on := 1, ground := Ground.phase }, { on := 2, ground := Ground.phase }, { on := 3, ground := Ground.phase }, { on := 4, ground := Ground.phase }, { on := 5, ground := Ground.phase }, { on := 6, ground := Ground.phase }], guard := none }) rfl (fun K hK => ?_) AllReadyH.nil
          go_simp
          refine hK.out _ _ (rangeAt.only HS8.out ((Only.refl (fun i => i = Hv) _).setCell (p := ⟨Hv, 3, none⟩) (fun _ => rfl) _) hrv) (fun hHeld => ?_)
          clear hK K
          try simp only [Act.put, List.setIfInBounds_toArray, List.set_cons_zero, List.set_cons_succ]
          refine wpAnyH_done (by kernel_rfl) ?_ _
          go_wp2
          go_roundw
          case rel =>
            refine ⟨j + 1, .slice (some ⟨gg, 0, none⟩) (j + 1) cap, by have := HLT.out; omega, by push_cast; rfl, ?_⟩
            rw [HTS.out, List.map_append]
            exact HM8.out
          case measure => have := HLT.out; simp [intOf]; omega
        · go_simp
          refine hK.out _ _ (rangeAt.keep HS6.out ((Only.refl _ _).alloc _)) (fun hHeld => ?_)
          clear hK K
          try simp only [Act.put, List.setIfInBounds_toArray, List.set_cons_zero, List.set_cons_succ]
          refine wpAnyH_ready (rs := [1]) (by kernel_rfl) (by simp) ?_
          refine AllReadyH.cons (o := { dst := some 16, op := Op.load 76 (Operand.tmp 15), type := 76, pos := "message.go:52", after := #[{ on := 0, ground := Ground.data }], guard := none }) rfl (fun K hK => ?_) AllReadyH.nil
          go_simp
          refine hK.out _ _ (by assumption) (fun hHeld => ?_)
          clear hK K
          try simp only [Act.put, List.setIfInBounds_toArray, List.set_cons_zero, List.set_cons_succ]
          refine wpAnyH_ready (rs := [6]) (by kernel_rfl) (by simp) ?_
          refine AllReadyH.cons (o := { dst := some 21, op := Op.call { callee := Callee.builtin Builtin.append, args := #[Operand.tmp 16, Operand.tmp 20], argTypes := #[76, 76] }, type := 76, pos := "message.go:52", after := #[{ on := 1, ground := Ground.data }, { on := 5, ground := Ground.data }, { on := 4, ground := Ground.chain }], guard := none }) rfl (fun K hK => ?_) AllReadyH.nil
          refine step_append79 (by rfl) _ _ (by rfl) (by rfl) (own_only HOWN.out (HO6.out.alloc _) (fun _ _ h => h)) (by rfl) (Blk.new w6 _ 79) (by rfl) (by rfl) hjn (Nat.le_trans hszr2 (Nat.le_trans HO6.out.size (Nat.le_of_lt (alloc_lt6 w6 _)))) ?_; intro gg cap w8 hown8 hgr8 hor8; have hm8 := LMid.snoc HM.out HKL.out HVLT.out HO6.out HJ6.out ((Only.refl _ w6).alloc _) HOWN.out HROW.out hown8 hgr8 hor8; have hb8 := LMid.store HM.out HVLT.out HO6.out ((Only.refl _ w6).alloc _) hgr8; have k8 := hb8.cell 3 rfl; have f8 := hb8.frozen 3; have HM8 := Lib.hid hm8; have HS8 := Lib.hid (rangeAt.only (rangeAt.keep HS6.out ((Only.refl _ w6).alloc _)) (Only.ofGrown hgr8) (fun e => by have := (World.ownsRow.lt HOWN.out _ e).2; omega)); clear hm8 hb8 hown8 hgr8 hor8
          refine hK.out _ _ HS8.out (fun hHeld => ?_)
          clear hK K
          try simp only [Act.put, List.setIfInBounds_toArray, List.set_cons_zero, List.set_cons_succ]
          refine wpAnyH_take (i := 7) (oi := { dst := some 22, op := Op.fieldAddr 79 (Operand.tmp 5) 3, type := 0, pos := "message.go:52", after := #[{ on := 0, ground := Ground.phase }, { on := 1, ground := Ground.phase }, { on := 2, ground := Ground.phase }, { on := 3, ground := Ground.phase }, { on := 4, ground := Ground.phase }, { on := 5, ground := Ground.phase }, { on := 6, ground := Ground.phase }], guard := none }) (v := .pointer (some ⟨Hv, 3, none⟩)) rfl (by kernel_rfl) (by kernel_rfl) (by kernel_rfl) (fun _ _ _ h => h) (Or.inl ⟨by rfl, ?y7_5⟩) (by assumption) ?r7_5
          case y7_5 => intro w hSw; go_simp
          try simp only [Act.put, List.setIfInBounds_toArray, List.set_cons_zero, List.set_cons_succ]
          refine wpAnyH_ready (rs := [8]) (by kernel_rfl) (by simp) ?_
          refine AllReadyH.cons (o := { dst := none, op := Op.store 76 (Operand.tmp 22) (Operand.tmp 21), type := 0, pos := "message.go:52", after := #[{ on := 7, ground := Ground.data }, { on := 6, ground := Ground.data }, { on := 6, ground := Ground.chain }, { on := 0, ground := Ground.phase }, { on := 1, ground := Ground.phase }, { on := 2, ground := Ground.phase }, { on := 3, ground := Ground.phase }, { on := 4, ground := Ground.phase }, { on := 5, ground := Ground.phase }, { on := 6, ground := Ground.phase }], guard := none }) rfl (fun K hK => ?_) AllReadyH.nil
          go_simp
          refine hK.out _ _ (rangeAt.only HS8.out ((Only.refl (fun i => i = Hv) _).setCell (p := ⟨Hv, 3, none⟩) (fun _ => rfl) _) hrv) (fun hHeld => ?_)
          clear hK K
          try simp only [Act.put, List.setIfInBounds_toArray, List.set_cons_zero, List.set_cons_succ]
          refine wpAnyH_done (by kernel_rfl) ?_ _
          go_wp2
          go_roundw
          case rel =>
            refine ⟨j + 1, .slice (some ⟨gg, 0, none⟩) (j + 1) cap, by have := HLT.out; omega, by push_cast; rfl, ?_⟩
            rw [HTS.out, List.map_append]
            exact HM8.out
          case measure => have := HLT.out; simp [intOf]; omega

    · have q : decide ((j : Int) < (l.length : Int)) = false := by simp; omega
      obtain rfl : j = l.length := by omega
      rw [List.take_of_length_le (Nat.le_refl _)] at HM
      have hvj := HM.out.value
      have HVJ := Lib.hid hvj
      obtain ⟨xs, hown, hrow⟩ := HM.out.row
      obtain ⟨Al, cl, rfl⟩ := own_form hown
      have HBV := Lib.hid HM.out.blk
      have HRR := Lib.hid (HR2.out.only HM.out.only (fun e => by have := HHV.out; have := HH.out; omega))
      clear hvj hown hrow hge
      go_wp2_with (first
        | (refine wpList_load_blk (cs := cells5 5 [] 0 (.slice Al (l.map wordV).length cl) (.slice none 0 0)) rfl 79 (.tmp 5) rfl rfl HBV.out agg79 info79s ?_)
        | (refine wpList_store_blk (cs := cells5 5 [] 0 (.slice Al (l.map wordV).length cl) (.slice none 0 0)) rfl 79 (.tmp 4) (.tmp 24) rfl rfl rfl rfl HRR.out rfl info79s rfl ?_; intro w4 hb4 ho4; have HB4 := Lib.hid hb4; have HO4 := Lib.hid ho4; clear hb4 ho4))
      refine bodyPost_ret (ret_cell rfl rfl HB4.out agg79 info79s) rfl ?_
      refine ⟨(HO2.out.then HM.out.only (fun i hi e => by have := HHV.out; omega)).then HO4.out (fun i hi e => by omega), _, rfl, ?_⟩
      refine HVJ.out.only HO4.out (fun b hb hy => ⟨?_, ?_⟩)
      · have := HVLT.out; have := HHV.out; omega
      · have := HO2.out.size; omega
set_option maxRecDepth 100000 in
set_option maxHeartbeats 6400000 in
theorem list_bytes {Y : Nat → Prop} {A : Option Addr} {c : Nat} {l : List Bytes} {w : World} (hR : RowAt EB 1 Y w A l) (hl : l.length ≤ 3000000) (hs : ∀ x ∈ l, x.length ≤ 1000000000) :
    Calls Tryz.prog 77 #[.slice A l.length c, .func (.func 56) #[] #[]] w (VOut w.heap.size (listV (l.map wordV)) w) := by
  have HR := Lib.hid hR
  have HL := Lib.hid hl
  have hlz : (l.length : Int) ≤ 3000000 := by omega
  obtain ⟨H, hH⟩ : ∃ H, H = w.heap.size := ⟨_, rfl⟩
  have hb0 : Blk ((w.alloc (.cells #[.int .i64 0, .string ⟨#[]⟩, .int .u64 0, .slice none 0 0, .slice none 0 0] 79)).alloc (.cells #[.int .i64 0, .string ⟨#[]⟩, .int .u64 0, .slice none 0 0, .slice none 0 0] 79)) (w.heap.size + 1) [.int .i64 0, .string ⟨#[]⟩, .int .u64 0, .slice none 0 0, .slice none 0 0] 79 := by
    have := Blk.new (w.alloc (.cells #[.int .i64 0, .string ⟨#[]⟩, .int .u64 0, .slice none 0 0, .slice none 0 0] 79)) [.int .i64 0, .string ⟨#[]⟩, .int .u64 0, .slice none 0 0, .slice none 0 0] 79
    rwa [World.size_alloc] at this
  have HB0 := Lib.hid hb0
  have HS := Lib.hid hs
  clear hR hl hb0 hs
  go_enter Tryz.func77, Tryz.ntmps77
  go_upto_region 3 with (refine wpList_store_blk (cs := [.int .i64 5, .string ⟨#[]⟩, .int .u64 0, .slice none 0 0, .slice none 0 0]) rfl 79 (.tmp 5) (.tmp 8) rfl rfl rfl rfl HB0.out rfl info79s rfl ?_; intro w2 hb2 ho2; have HB2 := Lib.hid hb2; have HO2 := Lib.hid (show Only (fun _ => False) w w2 from (((Only.refl _ w).alloc _).alloc _).then ho2 (fun i hi e => by omega)); have HR2 := Lib.hid (((Blk.new w [.int .i64 0, .string ⟨#[]⟩, .int .u64 0, .slice none 0 0, .slice none 0 0] 79).alloc (.cells #[.int .i64 0, .string ⟨#[]⟩, .int .u64 0, .slice none 0 0, .slice none 0 0] 79)).only ho2 (fun e => by omega)); have hs2 := ho2.size; rw [World.size_alloc, World.size_alloc] at hs2; have HS2 := Lib.hid hs2; clear hb2 ho2 hs2)
  have HH := Lib.hid hH
  generalize hHv : w.heap.size + 1 = Hv at HB2 ⊢
  have HHV := Lib.hid hHv
  clear hH hHv
  go_loopw [11] (fun s11 wr => ∃ (j : Nat) (vl : Value), j ≤ l.length ∧ s11 = .int .i64 (j : Int) ∧ LMid Hv w2 wr vl ((l.take j).map wordV)) (fun i _ => l.length - (intOf i).toNat)
  case atStart => exact ⟨0, .slice none 0 0, by omega, rfl, HB2.out, RowOwn.nil _ _ _, Only.refl _ _⟩
  case round =>
    obtain ⟨j, vl, hj, rfl, hm⟩ := hrel
    have HM := Lib.hid hm
    clear hm
    have hvlt : Hv < w2.heap.size := HB2.out.lt
    have HVLT := Lib.hid hvlt
    clear hvlt
    rcases Nat.lt_or_ge j l.length with hlt | hge
    · obtain ⟨x, hx⟩ : ∃ x, l[j]? = some x := ⟨l[j], List.getElem?_eq_getElem hlt⟩
      have q : decide ((j : Int) < (l.length : Int)) = true := by simp; omega
      have hjz : (j : Int) < (l.length : Int) := by omega
      obtain ⟨bA, oA, cs, rfl, hrg, hcl, hex⟩ := HR.out j x hx
      have hwr : Only (fun _ => False) w wr := HO2.out.then HM.out.only (fun i hi e => by have := HHV.out; omega)
      have hrg2 := rangeAt.keep hrg hwr
      have HRG := Lib.hid hrg2
      have HCL := Lib.hid hcl
      have HEX := Lib.hid hex
      have HMX := Lib.hid (List.mem_of_getElem? hx)
      have HWR := Lib.hid hwr
      have HTS := Lib.hid (take_snoc hx)
      have HLT := Lib.hid hlt
      have HKL := Lib.hid (show ((l.take j).map wordV).length = j by rw [List.length_map, List.length_take]; omega)
      have HBV := Lib.hid HM.out.blk
      obtain ⟨xs, hown, hrow⟩ := HM.out.row
      rw [HKL.out] at hown
      have HOWN := Lib.hid hown
      have HROW := Lib.hid hrow
      have hjn : j ≤ 3000000 := by have := HL.out; omega
      clear hx hrg hrg2 hcl hex hwr hlt hown hrow
      obtain ⟨Ax, cx, rfl, hbx, hcx, _⟩ := HEX.out
      have HBX := Lib.hid (hbx.only0 HWR.out (fun _ _ _ _ => id))
      have HCX := Lib.hid hcx
      have HX9 := Lib.hid (HS.out x HMX.out)
      have kx : wr.cell? ⟨bA, oA + j, none⟩ = some (.slice Ax x.length cx) := by
        have := HRG.out 0 _ rfl
        rw [Nat.mul_one, Nat.add_zero] at this
        exact this
      have hvr := HVLT.out
      have hszr2 := HM.out.only.size
      go_upto_region 5 with (fail)
      have k3 := (HBV.out.drew).cell 3 rfl
      go_region_law (first | (go_simp; go_at_call 56; refine (wordV_any (l := x) (HBX.out.only0 ((Only.refl (fun _ => False) wr).drew) (fun _ _ _ _ => id)) HCX.out HX9.out).mono ?_; rintro e w6 ⟨ho6, cs6, rfl, hj6⟩; have ho6' : Only (fun _ => False) wr w6 := ((Only.refl (fun _ => False) wr).drew).trans ho6; have hj6' : JIs (fun b => wr.heap.size ≤ b) w6 (wordV x) cs6 := hj6; obtain ⟨k6, s6, n6, A6, a6, c6, B6, b6, d6, rfl⟩ := hj6'.out5; have k6 := (HBV.out.only ho6' id).cell 3 rfl; have k6s := cell_lt k6; have HO6 := Lib.hid ho6'; have HJ6 := Lib.hid hj6'; clear ho6 ho6' hj6 hj6') | (refine step_append79 (by rfl) _ _ (by rfl) (by rfl) (own_only HOWN.out (HO6.out.alloc _) (fun _ _ h => h)) (by rfl) (Blk.new w6 _ 79) (by rfl) (by rfl) hjn (Nat.le_trans hszr2 (Nat.le_trans HO6.out.size (Nat.le_of_lt (alloc_lt6 w6 _)))) ?_; intro gg cap w8 hown8 hgr8 hor8; have hm8 := LMid.snoc HM.out HKL.out HVLT.out HO6.out HJ6.out ((Only.refl _ w6).alloc _) HOWN.out HROW.out hown8 hgr8 hor8; have hb8 := LMid.store HM.out HVLT.out HO6.out ((Only.refl _ w6).alloc _) hgr8; have k8 := hb8.cell 3 rfl; have f8 := hb8.frozen 3; have HM8 := Lib.hid hm8; clear hm8 hb8 hown8 hgr8 hor8) | fail)
      all_goals
        go_wp2
        go_roundw
        case rel =>
          refine ⟨j + 1, .slice (some ⟨gg, 0, none⟩) (j + 1) cap, by have := HLT.out; omega, by push_cast; rfl, ?_⟩
          rw [HTS.out, List.map_append]
          exact HM8.out
        case measure => have := HLT.out; simp [intOf]; omega

    · have q : decide ((j : Int) < (l.length : Int)) = false := by simp; omega
      obtain rfl : j = l.length := by omega
      rw [List.take_of_length_le (Nat.le_refl _)] at HM
      have hvj := HM.out.value
      have HVJ := Lib.hid hvj
      obtain ⟨xs, hown, hrow⟩ := HM.out.row
      obtain ⟨Al, cl, rfl⟩ := own_form hown
      have HBV := Lib.hid HM.out.blk
      have HRR := Lib.hid (HR2.out.only HM.out.only (fun e => by have := HHV.out; have := HH.out; omega))
      clear hvj hown hrow hge
      go_wp2_with (first
        | (refine wpList_load_blk (cs := cells5 5 [] 0 (.slice Al (l.map wordV).length cl) (.slice none 0 0)) rfl 79 (.tmp 5) rfl rfl HBV.out agg79 info79s ?_)
        | (refine wpList_store_blk (cs := cells5 5 [] 0 (.slice Al (l.map wordV).length cl) (.slice none 0 0)) rfl 79 (.tmp 4) (.tmp 24) rfl rfl rfl rfl HRR.out rfl info79s rfl ?_; intro w4 hb4 ho4; have HB4 := Lib.hid hb4; have HO4 := Lib.hid ho4; clear hb4 ho4))
      refine bodyPost_ret (ret_cell rfl rfl HB4.out agg79 info79s) rfl ?_
      refine ⟨(HO2.out.then HM.out.only (fun i hi e => by have := HHV.out; omega)).then HO4.out (fun i hi e => by omega), _, rfl, ?_⟩
      refine HVJ.out.only HO4.out (fun b hb hy => ⟨?_, ?_⟩)
      · have := HVLT.out; have := HHV.out; omega
      · have := HO2.out.size; omega
end Go.Proofs.YtjehnejgojgahaaGreatDoor

/- Y3 -/
namespace Go.Proofs.YtjehnejgojgahaaGreatDoor
open Go.RowKit
set_option linter.unusedVariables false
set_option linter.unusedSimpArgs false

def objV (ms : List (Bytes × JV)) : JV := .mk 6 [] 0 (ms.map (·.2)) (ms.map (·.1))
def EM (Y : Nat → Prop) (w : World) (m : Bytes × JV) (cs : List Value) : Prop := ∃ c5, cs = txt m.1 :: c5 ∧ JIs Y w m.2 c5
theorem zero122 : (Tryz.prog.info? 122).bind (·.zero) = some (.agg ([.string ⟨#[]⟩, .int .i64 0, .string ⟨#[]⟩, .int .u64 0, .slice none 0 0, .slice none 0 0] : List Value).toArray) := by kernel_rfl
theorem info122s : (Tryz.prog.info? 122).map (·.size) = some 6 := by kernel_rfl
theorem under122 : (Tryz.prog.underlying 122).map (·.isRow) = some true := by kernel_rfl
theorem agg122 : (Tryz.prog.underlying 122).map aggD = some true := by kernel_rfl
theorem load122 {ops : Array Oper} {rest : List Oper} {op : Oper} {a : Act} {w : World} {Q : Exit → Act → World → Prop} (hgd : op.guard = none) (x : Operand) (ho : op.op = .load 122 x)
    {b o : Nat} (hx : a.eval x = .pointer (some ⟨b, o, none⟩)) {cs : List Value} (hc : w.rangeAt b o cs) (hl : cs.length = 6)
    (h : wpList Tryz.prog ops Q rest (a.put op.dst (.agg cs.toArray)) w) : wpList Tryz.prog ops Q (op :: rest) a w := by
  cases hd : Tryz.prog.underlying 122 with
  | none => have := under122; rw [hd] at this; cases this
  | some d =>
    have h2 := under122
    rw [hd] at h2
    exact wpList_load_mid hgd 122 x ho b o hx cs d hc hd (by simpa using h2) (by rw [hl]; exact info122s) h
theorem Blk.tail {w : World} {g : Nat} {x : Value} {cs : List Value} {T : TypeId} (h : Blk w g (x :: cs) T) : w.rangeAt g 1 cs := fun j y hy => by
  have := h.cell (j + 1) (v := y) (by simpa using hy)
  rwa [Nat.add_comm] at this
structure OMid (Hv H : Nat) (w w2 wr : World) (vl vk : Value) (vs : List JV) (ks : List Bytes) : Prop where
  blk : Blk wr Hv (cells5 6 [] 0 vl vk) 79
  row : ∃ xs, wr.ownsRow w2.heap.size 79 5 vl vs.length xs ∧ RowE EJ 5 (fun b => H ≤ b ∧ b < w.heap.size) wr vs xs
  keys : wr.ownsRow w2.heap.size 9 1 vk ks.length (cellsK ks)
  ne : ∀ k, vl.ownBlock = some k → vk.ownBlock ≠ some k
  only : Only (fun i => i = Hv) w2 wr
theorem OMid.lt {Hv H : Nat} {w w2 wr : World} {vl vk : Value} {vs : List JV} {ks : List Bytes} (h : OMid Hv H w w2 wr vl vk vs ks) : (∀ k, vl.ownBlock = some k → w2.heap.size ≤ k ∧ k < wr.heap.size) ∧ (∀ k, vk.ownBlock = some k → w2.heap.size ≤ k ∧ k < wr.heap.size) := by
  obtain ⟨xs, h1, _⟩ := h.row
  exact ⟨World.ownsRow.lt h1, World.ownsRow.lt h.keys⟩
theorem OMid.keep {Hv H : Nat} {w w2 wr wx : World} {vl vk : Value} {vs : List JV} {ks : List Bytes} (h : OMid Hv H w w2 wr vl vk vs ks) (ho : Only (fun _ => False) wr wx) : OMid Hv H w w2 wx vl vk vs ks := by
  obtain ⟨xs, h1, h2⟩ := h.row
  exact ⟨h.blk.only ho id, ⟨xs, own_only h1 ho (fun _ _ x => x), h2.only encJ ho (fun b _ hb => ⟨id, hb⟩)⟩, own_only h.keys ho (fun _ _ x => x), h.ne, h.only.trans (ho.mono (fun _ _ x => x.elim))⟩
theorem OMid.key {Hv H gg cap n : Nat} {w w2 wa wy : World} {vl vk : Value} {vs : List JV} {ks : List Bytes} {t : Bytes} (h : OMid Hv H w w2 wa vl vk vs ks) (hv : Hv < w2.heap.size) (hw : w.heap.size ≤ Hv) (hn : ks.length = n)
    (ho : wy.ownsRow w2.heap.size 9 1 (.slice (some ⟨gg, 0, none⟩) (n + 1) cap) (n + 1) (cellsK ks ++ [txt t])) (hg : wa.grownBy wy vk.ownBlock) (hor : vk.ownBlock = some gg ∨ gg = wa.heap.size) :
    Blk wy Hv (cells5 6 [] 0 vl vk) 79 ∧ OMid Hv H w w2 (wy.setCell ⟨Hv, 4, none⟩ (.slice (some ⟨gg, 0, none⟩) (n + 1) cap)) vl (.slice (some ⟨gg, 0, none⟩) (n + 1) cap) vs (ks ++ [t]) := by
  subst hn
  obtain ⟨hl1, hl2⟩ := h.lt
  obtain ⟨xs, h1, h2⟩ := h.row
  have s0 := h.only.size
  have hb : Blk wy Hv (cells5 6 [] 0 vl vk) 79 := h.blk.only (Only.ofGrown hg) (fun e => by have := hl2 _ e; omega)
  have hst : ∀ z, Only (fun i => i = Hv) wy (wy.setCell ⟨Hv, 4, none⟩ z) := fun z => (Only.refl (fun i => i = Hv) wy).setCell (p := ⟨Hv, 4, none⟩) (fun _ => rfl) z
  have ggv : gg ≠ Hv := by
    rcases hor with e | e
    · have := hl2 _ e; omega
    · omega
  refine ⟨hb, hb.set' 4 _ rfl, ⟨xs, ?_, ?_⟩, ?_, ?_, ?_⟩
  · refine own_only (own_only h1 (Only.ofGrown hg) (fun k hk e => h.ne k hk e)) (hst _) (fun k hk e => ?_)
    have := hl1 k hk; omega
  · refine (h2.only encJ (Only.ofGrown hg) (fun b _ hb => ⟨fun e => ?_, hb⟩)).only encJ (hst _) (fun b _ hb => ⟨fun e => ?_, hb⟩)
    · have := hl2 _ e; have := hb.2; omega
    · have := hb.2; omega
  · have e1 : (ks ++ [t]).length = ks.length + 1 := by simp
    have e2 : cellsK (ks ++ [t]) = cellsK ks ++ [txt t] := by unfold cellsK; simp
    rw [e1, e2]
    refine own_only ho (hst _) (fun k hk e => ?_)
    cases hk
    exact ggv e
  · intro k hk e
    cases e
    rcases hor with e | e
    · exact h.ne _ hk e
    · have h9 : w2.heap.size ≤ gg ∧ gg < wa.heap.size := hl1 _ hk
      omega
  · refine (h.only.then (Only.ofGrown hg) (fun i hi e => ?_)).setCell (p := ⟨Hv, 4, none⟩) (fun _ => rfl) _
    have := hl2 _ e; omega
theorem OMid.val {Hv H gg cap n : Nat} {w w2 wa wy : World} {vl vk : Value} {vs : List JV} {ks : List Bytes} {v : JV} {cs xs : List Value} (h : OMid Hv H w w2 wa vl vk vs ks) (hv : Hv < w2.heap.size) (hw : w.heap.size ≤ Hv) (hn : vs.length = n)
    (hrow : RowE EJ 5 (fun b => H ≤ b ∧ b < w.heap.size) wa vs xs) (hj : JIs (fun b => H ≤ b ∧ b < w.heap.size) wa v cs)
    (ho : wy.ownsRow w2.heap.size 79 5 (.slice (some ⟨gg, 0, none⟩) (n + 1) cap) (n + 1) (xs ++ cs)) (hg : wa.grownBy wy vl.ownBlock) (hor : vl.ownBlock = some gg ∨ gg = wa.heap.size) :
    Blk wy Hv (cells5 6 [] 0 vl vk) 79 ∧ OMid Hv H w w2 (wy.setCell ⟨Hv, 3, none⟩ (.slice (some ⟨gg, 0, none⟩) (n + 1) cap)) (.slice (some ⟨gg, 0, none⟩) (n + 1) cap) vk (vs ++ [v]) ks := by
  subst hn
  obtain ⟨hl1, hl2⟩ := h.lt
  have s0 := h.only.size
  have hb : Blk wy Hv (cells5 6 [] 0 vl vk) 79 := h.blk.only (Only.ofGrown hg) (fun e => by have := hl1 _ e; omega)
  have hst : ∀ z, Only (fun i => i = Hv) wy (wy.setCell ⟨Hv, 3, none⟩ z) := fun z => (Only.refl (fun i => i = Hv) wy).setCell (p := ⟨Hv, 3, none⟩) (fun _ => rfl) z
  have ggv : gg ≠ Hv := by
    rcases hor with e | e
    · have := hl1 _ e; omega
    · omega
  refine ⟨hb, hb.set' 3 _ rfl, ⟨xs ++ cs, ?_, ?_⟩, ?_, ?_, ?_⟩
  · have e1 : (vs ++ [v]).length = vs.length + 1 := by simp
    rw [e1]
    refine own_only ho (hst _) (fun k hk e => ?_)
    cases hk
    exact ggv e
  · refine ((hrow.snoc encJ hj).only encJ (Only.ofGrown hg) (fun b _ hb => ⟨fun e => ?_, hb⟩)).only encJ (hst _) (fun b _ hb => ⟨fun e => ?_, hb⟩)
    · have := hl1 _ e; have := hb.2; omega
    · have := hb.2; omega
  · refine own_only (own_only h.keys (Only.ofGrown hg) (fun k hk e => h.ne k e hk)) (hst _) (fun k hk e => ?_)
    have := hl2 k hk; omega
  · intro k hk e
    cases hk
    rcases hor with e1 | e1
    · exact h.ne _ e1 e
    · have h9 : w2.heap.size ≤ gg ∧ gg < wa.heap.size := hl2 _ e
      omega
  · refine (h.only.then (Only.ofGrown hg) (fun i hi e => ?_)).setCell (p := ⟨Hv, 3, none⟩) (fun _ => rfl) _
    have := hl1 _ e; omega
theorem OMid.value {Hv H : Nat} {w w2 wr wz : World} {vl vk : Value} {ms : List (Bytes × JV)} (h : OMid Hv H w w2 wr vl vk (ms.map (·.2)) (ms.map (·.1))) (hH : H ≤ w.heap.size) (hw : w.heap.size ≤ w2.heap.size) (ho : Only (fun i => i = w.heap.size) wr wz) (hw2 : w.heap.size < w2.heap.size) :
    JIs (fun b => H ≤ b) wz (objV ms) (cells5 6 [] 0 vl vk) := by
  obtain ⟨xs, h1, h2⟩ := h.row
  have hx : RowIs (fun b => H ≤ b ∧ b ≠ w.heap.size) wr (ms.map (·.2)) xs := ⟨h2.1, fun i v hv => (h2.2 i v hv).mono (fun b _ hb => ⟨hb.1, by have := hb.2; omega⟩)⟩
  have hj := jis_of_rows (k := 6) (s := []) (n := 0) h1 h.keys hx (fun b hb => by have := World.ownsRow.lt h1 b hb; exact ⟨by omega, by omega⟩) (fun b hb => by have := World.ownsRow.lt h.keys b hb; exact ⟨by omega, by omega⟩)
  exact hj.only ho (fun b _ hb => ⟨fun e => hb.2 e, hb.1⟩)
set_option maxRecDepth 100000 in
set_option maxHeartbeats 6400000 in
theorem object_any {H : Nat} {A : Option Addr} {c : Nat} {ms : List (Bytes × JV)} {w : World} (hR : RowAt EM 6 (fun b => H ≤ b) w A ms) (hl : ms.length ≤ 3000000) (hHw : H ≤ w.heap.size) :
    Calls Tryz.prog 53 #[.slice A ms.length c] w (VOut H (objV ms) w) := by
  have HR := Lib.hid hR
  have HL := Lib.hid hl
  have HHW := Lib.hid hHw
  have hlz : (ms.length : Int) ≤ 3000000 := by omega
  have hb0 : Blk ((w.alloc (.cells #[.int .i64 0, .string ⟨#[]⟩, .int .u64 0, .slice none 0 0, .slice none 0 0] 79)).alloc (.cells #[.int .i64 0, .string ⟨#[]⟩, .int .u64 0, .slice none 0 0, .slice none 0 0] 79)) (w.heap.size + 1) [.int .i64 0, .string ⟨#[]⟩, .int .u64 0, .slice none 0 0, .slice none 0 0] 79 := by
    have := Blk.new (w.alloc (.cells #[.int .i64 0, .string ⟨#[]⟩, .int .u64 0, .slice none 0 0, .slice none 0 0] 79)) [.int .i64 0, .string ⟨#[]⟩, .int .u64 0, .slice none 0 0, .slice none 0 0] 79
    rwa [World.size_alloc] at this
  have HB0 := Lib.hid hb0
  obtain ⟨n, hn⟩ : ∃ n, n = ms.length := ⟨_, rfl⟩
  have HN := Lib.hid hn
  rw [← hn] at hlz ⊢
  clear hR hl hb0 hn hHw
  go_enter Tryz.func53, Tryz.ntmps53
  go_upto_region 3 with (refine wpList_store_blk (cs := [.int .i64 6, .string ⟨#[]⟩, .int .u64 0, .slice none 0 0, .slice none 0 0]) rfl 79 (.tmp 3) (.tmp 6) rfl rfl rfl rfl HB0.out rfl info79s rfl ?_; intro w2 hb2 ho2; have HB2 := Lib.hid hb2; have HO2 := Lib.hid (show Only (fun _ => False) w w2 from (((Only.refl _ w).alloc _).alloc _).then ho2 (fun i hi e => by omega)); have HR2 := Lib.hid (((Blk.new w [.int .i64 0, .string ⟨#[]⟩, .int .u64 0, .slice none 0 0, .slice none 0 0] 79).alloc (.cells #[.int .i64 0, .string ⟨#[]⟩, .int .u64 0, .slice none 0 0, .slice none 0 0] 79)).only ho2 (fun e => by omega)); clear hb2 ho2)
  generalize hHv : w.heap.size + 1 = Hv at HB2 ⊢
  have HHV := Lib.hid hHv
  clear hHv
  have HVLT := Lib.hid HB2.out.lt
  go_loopw [9] (fun s9 wr => ∃ (j : Nat) (vl vk : Value), j ≤ n ∧ s9 = .int .i64 (j : Int) ∧ OMid Hv H w w2 wr vl vk ((ms.take j).map (·.2)) ((ms.take j).map (·.1))) (fun i _ => n - (intOf i).toNat)
  case atStart => exact ⟨0, .slice none 0 0, .slice none 0 0, by omega, rfl, HB2.out, ⟨[], World.ownsRow_nil _ _ _ _, RowE.nil _ _⟩, World.ownsRow_nil _ _ _ _, (fun k hk => by cases hk), Only.refl _ _⟩
  case round =>
    obtain ⟨j, vl, vk, hj, rfl, hm⟩ := hrel
    have HM := Lib.hid hm
    clear hm
    rcases Nat.lt_or_ge j n with hlt | hge
    · obtain ⟨x, hx⟩ : ∃ x, ms[j]? = some x := ⟨ms[j]'(by have := HN.out; omega), List.getElem?_eq_getElem _⟩
      have q : decide ((j : Int) < (n : Int)) = true := by simp; omega
      have hjz : (j : Int) < (n : Int) := by omega
      obtain ⟨bA, oA, cs, rfl, hrg, hcl, c5, rfl, hj5⟩ := HR.out j x hx
      have hwr : Only (fun _ => False) w wr := HO2.out.then HM.out.only (fun i hi e => by have := HHV.out; omega)
      have HRG := Lib.hid (rangeAt.keep hrg hwr)
      have hj5' : JIs (fun b => H ≤ b ∧ b < w.heap.size) w x.2 c5 := hj5.mono (fun b hb hy => ⟨hy, hb⟩)
      have HJ5 := Lib.hid (hj5'.keep hwr)
      have HTS := Lib.hid (take_snoc hx)
      have HLT := Lib.hid hlt
      have HK1 := Lib.hid (show ((ms.take j).map (·.1)).length = j by rw [List.length_map, List.length_take, ← HN.out]; omega)
      have HK2 := Lib.hid (show ((ms.take j).map (·.2)).length = j by rw [List.length_map, List.length_take, ← HN.out]; omega)
      have HBV := Lib.hid HM.out.blk
      obtain ⟨k6, s6, n6, A6, a6, c6, B6, b6, d6, rfl⟩ := hj5.out5
      obtain ⟨kx, vx⟩ := x
      have hjn : j ≤ 3000000 := by have := HL.out; have := HN.out; omega
      have hszr := HVLT.out
      have hszr2 := HM.out.only.size
      have hwv : w.heap.size ≤ Hv := by have := HHV.out; omega
      clear hx hrg hcl hj5 hj5' hwr hlt
      go_upto_region 5 with (first
        | (refine load122 rfl (.tmp 11) rfl rfl HRG.out rfl ?_)
        | (refine wpList_alloc_blk rfl 122 5 rfl rfl zero122 ?_; intro w4 hb4 ho4 hs4; have HB4 := Lib.hid hb4; have HO4 := Lib.hid ho4; clear hb4 ho4 hs4)
        | (refine wpList_store_blk (cs := [txt kx, .int .i64 k6, .string s6, .int .u64 n6, .slice A6 a6 c6, .slice B6 b6 d6]) rfl 122 (.tmp 5) (.tmp 12) rfl rfl rfl rfl HB4.out rfl info122s rfl ?_; intro w5 hb5 ho5; have HB5 := Lib.hid hb5; have HM5 := Lib.hid (HM.out.keep (show Only (fun _ => False) wr w5 from HO4.out.then ho5 (fun i hi e => by omega))); have HO5 := Lib.hid (show Only (fun _ => False) wr w5 from HO4.out.then ho5 (fun i hi e => by omega)); clear hb5 ho5))
      unfold txt at *
      have h4 := HM5.out.blk.cell 4 rfl
      have t0 := HB5.out.cell 0 rfl
      go_upto_region 6 with (refine stop_append (t := 77) rfl ?_)
      refine ⟨?_⟩
      refine wpList_append9 rfl (.tmp 14) (.tmp 17) rfl rfl (own_only HM5.out.keys ((Only.refl (fun _ => False) w5).alloc _) (fun _ _ x => x)) rfl (Blk.new w5 [.string ⟨kx.toArray⟩] 9) (by rw [HK1.out]; exact hjn) (by have := HO5.out.size; simp; omega) ?_
      intro gg cap w8 hown8 hgr8 hor8
      rw [HK1.out] at hown8 ⊢
      obtain ⟨hb8, hm8⟩ := OMid.key (t := kx) (HM5.out.keep ((Only.refl (fun _ => False) w5).alloc _)) hszr hwv HK1.out hown8 hgr8 hor8
      have h48 := hb8.cell 4 rfl
      have f48 := hb8.frozen 4
      have HM8 := Lib.hid hm8
      have hlk := HM.out.lt.2
      have hs5 := HO5.out.size
      have HT8 := Lib.hid ((((HB5.out.alloc (.cells #[.string ⟨kx.toArray⟩] 9)).only (Only.ofGrown hgr8) (fun e => by have := hlk _ e; omega)).far (p := ⟨Hv, 4, none⟩) (fun e => by simp at e; omega) (.slice (some ⟨gg, 0, none⟩) (j + 1) cap)))
      have o9 : Only (fun i => w.heap.size ≤ i) wr (w8.setCell ⟨Hv, 4, none⟩ (.slice (some ⟨gg, 0, none⟩) (j + 1) cap)) := (((HO5.out.alloc _).mono (fun _ _ x => x.elim)).then (Only.ofGrown hgr8) (fun i hi e => by have := (HM5.out.lt.2 _ e).1; omega)).setCell (p := ⟨Hv, 4, none⟩) (fun _ => hwv) _
      have HJ9 := Lib.hid (HJ5.out.only (Y := fun b => H ≤ b ∧ b < w.heap.size) o9 (fun b _ hb => ⟨fun e => by have := hb.2; omega, hb⟩))
      have HO9 := Lib.hid o9.size
      clear hown8 hgr8 hor8 hb8 hm8 o9
      go_upto_region 6 with (fail)
      generalize w8.setCell ⟨Hv, 4, none⟩ (.slice (some ⟨gg, 0, none⟩) (j + 1) cap) = w9 at HM8 HT8 HJ9 HO9 ⊢
      have HS9 := Lib.hid (Blk.tail HT8.out)
      have k93 := HM8.out.blk.cell 3 rfl
      go_wp2_with (first
        | (refine load79 rfl (.tmp 22) rfl rfl HS9.out rfl ?_)
        | (refine stop_append (t := 76) rfl ?_))
      refine ⟨?_⟩
      obtain ⟨xs, hown9, hrow9⟩ := (HM8.out.keep ((Only.refl (fun _ => False) w9).alloc (.cells #[.int .i64 k6, .string s6, .int .u64 n6, .slice A6 a6 c6, .slice B6 b6 d6] 79))).row
      rw [HK2.out] at hown9
      refine wpList_append79 rfl (.tmp 21) (.tmp 24) rfl rfl hown9 rfl (Blk.new w9 [.int .i64 k6, .string s6, .int .u64 n6, .slice A6 a6 c6, .slice B6 b6 d6] 79) rfl rfl hjn (by have := HO9.out; simp; omega) ?_
      intro gg2 cap2 w10 hown10 hgr10 hor10
      obtain ⟨hb10, hm10⟩ := OMid.val (v := vx) (HM8.out.keep ((Only.refl (fun _ => False) w9).alloc _)) hszr hwv HK2.out hrow9 (HJ9.out.keep ((Only.refl (fun _ => False) w9).alloc _)) hown10 hgr10 hor10
      have h103 := hb10.cell 3 rfl
      have f103 := hb10.frozen 3
      have HM10 := Lib.hid hm10
      clear hown9 hrow9 hown10 hgr10 hor10 hb10 hm10
      go_wp2
      go_roundw
      case rel =>
        refine ⟨j + 1, .slice (some ⟨gg2, 0, none⟩) (j + 1) cap2, .slice (some ⟨gg, 0, none⟩) (j + 1) cap, by have := HLT.out; omega, by push_cast; rfl, ?_⟩
        rw [HTS.out, List.map_append, List.map_append]
        exact HM10.out
      case measure => have := HLT.out; simp [intOf]; omega
    · have q : decide ((j : Int) < (n : Int)) = false := by simp; omega
      obtain rfl : j = n := by omega
      have hwv : w.heap.size ≤ Hv := by have := HHV.out; omega
      have hvl := HVLT.out
      have htk : ms.take j = ms := List.take_of_length_le (by have := HN.out; omega)
      rw [htk] at HM
      obtain ⟨xs, hown, hrow⟩ := HM.out.row
      obtain ⟨Al, cl, rfl⟩ := own_form hown
      obtain ⟨Ak, ck, rfl⟩ := own_form HM.out.keys
      have HBV := Lib.hid HM.out.blk
      have HRR := Lib.hid (HR2.out.only HM.out.only (fun e => by have := HHV.out; omega))
      have HLE := Lib.hid (show w.heap.size ≤ w2.heap.size by omega)
      clear hown hrow hge htk
      go_wp2_with (first
        | (refine wpList_load_blk (cs := cells5 6 [] 0 (.slice Al (ms.map (·.2)).length cl) (.slice Ak (ms.map (·.1)).length ck)) rfl 79 (.tmp 3) rfl rfl HBV.out agg79 info79s ?_)
        | (refine wpList_store_blk (cs := cells5 6 [] 0 (.slice Al (ms.map (·.2)).length cl) (.slice Ak (ms.map (·.1)).length ck)) rfl 79 (.tmp 2) (.tmp 28) rfl rfl rfl rfl HRR.out rfl info79s rfl ?_; intro w4 hb4 ho4; have HB4 := Lib.hid hb4; have HO4 := Lib.hid ho4; clear hb4 ho4))
      refine bodyPost_ret (ret_cell rfl rfl HB4.out agg79 info79s) rfl ?_
      refine ⟨(HO2.out.then HM.out.only (fun i hi e => by omega)).then HO4.out (fun i hi e => by omega), _, rfl, ?_⟩
      exact HM.out.value HHW.out HLE.out HO4.out (by omega)
end Go.Proofs.YtjehnejgojgahaaGreatDoor

/- Y4 -/
namespace Go.Proofs.YtjehnejgojgahaaGreatDoor
open Go.RowKit
set_option linter.unusedVariables false
set_option linter.unusedSimpArgs false

theorem flat_get {n : Nat} : ∀ (L : List (List Value)), (∀ x ∈ L, x.length = n) → ∀ (i : Nat) (xs : List Value), L[i]? = some xs → ∀ (j : Nat) (y : Value), xs[j]? = some y → L.flatten[i * n + j]? = some y
  | [], _, i, xs, h, _, _, _ => by simp at h
  | x :: L, hl, 0, xs, h, j, y, hy => by
    simp at h
    subst h
    have hj : j < x.length := (List.getElem?_eq_some_iff.1 hy).1
    rw [Nat.zero_mul, Nat.zero_add, List.flatten_cons, List.getElem?_append_left hj]
    exact hy
  | x :: L, hl, i + 1, xs, h, j, y, hy => by
    have hx := hl x (by simp)
    have := flat_get L (fun z hz => hl z (by simp [hz])) i xs (by simpa using h) j y hy
    rw [List.flatten_cons, List.getElem?_append_right (by rw [hx, Nat.add_one_mul]; omega), hx]
    rw [show (i + 1) * n + j - n = i * n + j by rw [Nat.add_one_mul]; omega]
    exact this
theorem EM.len {Y : Nat → Prop} {w : World} {m : Bytes × JV} {cs : List Value} (h : EM Y w m cs) : cs.length = 6 := by
  obtain ⟨c5, rfl, hj⟩ := h
  simp [hj.len]
theorem rowAt_of {Y : Nat → Prop} {w : World} {g : Nat} {cs : List Value} {T : TypeId} {ms : List (Bytes × JV)} (ps : List ((Bytes × JV) × List Value)) (hB : Blk w g cs T) (hcs : cs = (ps.map (·.2)).flatten) (hms : ms = ps.map (·.1))
    (h : ∀ p ∈ ps, EM Y w p.1 p.2) : RowAt EM 6 Y w (some ⟨g, 0, none⟩) ms := by
  subst hcs hms
  intro i a ha
  rw [List.getElem?_map] at ha
  cases hp : ps[i]? with
  | none => rw [hp] at ha; cases ha
  | some p =>
    rw [hp] at ha
    cases ha
    have hm := h p (List.mem_of_getElem? hp)
    refine ⟨g, 0, p.2, rfl, ?_, hm.len, hm⟩
    intro j y hy
    have := flat_get (n := 6) (ps.map (·.2)) (fun x hx => by obtain ⟨q, hq, rfl⟩ := List.mem_map.1 hx; exact (h q hq).len) i p.2 (by rw [List.getElem?_map, hp]; rfl) j y hy
    have := hB.cell _ this
    rw [Nat.zero_add]
    exact this
theorem Only.set5 {a w : World} {g : Nat} (h : Only (fun _ => False) a w) (v0 v1 v2 v3 v4 : Value) :
    Only (fun i => i = g) a (((((w.setCell ⟨g, 0, none⟩ v0).setCell ⟨g, 1, none⟩ v1).setCell ⟨g, 2, none⟩ v2).setCell ⟨g, 3, none⟩ v3).setCell ⟨g, 4, none⟩ v4) :=
  have h0 : Only (fun i => i = g) a w := h.mono (fun _ _ x => x.elim)
  ((((h0.setCell (p := ⟨g, 0, none⟩) (fun _ => rfl) v0).setCell (p := ⟨g, 1, none⟩) (fun _ => rfl) v1).setCell (p := ⟨g, 2, none⟩) (fun _ => rfl) v2).setCell (p := ⟨g, 3, none⟩) (fun _ => rfl) v3).setCell (p := ⟨g, 4, none⟩) (fun _ => rfl) v4
theorem Blk.set5 {w : World} {g : Nat} {a b c d e : Value} {T : TypeId} (h : Blk w g [a, b, c, d, e] T) (v0 v1 v2 v3 v4 : Value) :
    Blk (((((w.setCell ⟨g, 0, none⟩ v0).setCell ⟨g, 1, none⟩ v1).setCell ⟨g, 2, none⟩ v2).setCell ⟨g, 3, none⟩ v3).setCell ⟨g, 4, none⟩ v4) g [v0, v1, v2, v3, v4] T :=
  (((((h.set' 0 v0 rfl).set' 1 v1 rfl).set' 2 v2 rfl).set' 3 v3 rfl).set' 4 v4 rfl)
def itemV (p : Bytes × Bytes) : JV := objV [(nLeaf, wordV p.1), (nExtra, wordV p.2)]
set_option maxRecDepth 100000 in
set_option maxHeartbeats 6400000 in
theorem item_any {Y : Nat → Prop} {p : Bytes × Bytes} {cs : List Value} {w : World} (hI : EI Y w p cs) (hp1 : p.1.length ≤ 1000000000) (hp2 : p.2.length ≤ 1000000000) :
    Calls Tryz.prog 60 #[.agg cs.toArray] w (VOut w.heap.size (itemV p) w) := by
  obtain ⟨d1, d2, rfl, ⟨A1, c1, rfl, hb1, hc1, _⟩, ⟨A2, c2, rfl, hb2, hc2, _⟩⟩ := hI
  obtain ⟨l1, l2⟩ := p
  simp only at hb1 hc1 hb2 hc2 hp1 hp2 ⊢
  have HC1 := Lib.hid hc1
  have HC2 := Lib.hid hc2
  have HL1 := Lib.hid hp1
  have HL2 := Lib.hid hp2
  have hbx : Blk ((w.alloc (.cells #[.slice A1 l1.length c1, .slice A2 l2.length c2] 105)).alloc (.cells #[.int .i64 0, .string ⟨#[]⟩, .int .u64 0, .slice none 0 0, .slice none 0 0] 79)) w.heap.size [.slice A1 l1.length c1, .slice A2 l2.length c2] 105 := (Blk.new w _ 105).alloc _
  have hbr : Blk ((w.alloc (.cells #[.slice A1 l1.length c1, .slice A2 l2.length c2] 105)).alloc (.cells #[.int .i64 0, .string ⟨#[]⟩, .int .u64 0, .slice none 0 0, .slice none 0 0] 79)) (w.heap.size + 1) [.int .i64 0, .string ⟨#[]⟩, .int .u64 0, .slice none 0 0, .slice none 0 0] 79 := by
    have := Blk.new (w.alloc (.cells #[.slice A1 l1.length c1, .slice A2 l2.length c2] 105)) [.int .i64 0, .string ⟨#[]⟩, .int .u64 0, .slice none 0 0, .slice none 0 0] 79
    rwa [World.size_alloc] at this
  have hw1 : Only (fun _ => False) w ((w.alloc (.cells #[.slice A1 l1.length c1, .slice A2 l2.length c2] 105)).alloc (.cells #[.int .i64 0, .string ⟨#[]⟩, .int .u64 0, .slice none 0 0, .slice none 0 0] 79)) := ((Only.refl _ w).alloc _).alloc _
  have hs1 : ((w.alloc (.cells #[.slice A1 l1.length c1, .slice A2 l2.length c2] 105)).alloc (.cells #[.int .i64 0, .string ⟨#[]⟩, .int .u64 0, .slice none 0 0, .slice none 0 0] 79)).heap.size = w.heap.size + 2 := by simp
  go_enter Tryz.func60, Tryz.ntmps60
  go_upto_region 1 with (fail)
  generalize (w.alloc (.cells #[.slice A1 l1.length c1, .slice A2 l2.length c2] 105)).alloc (.cells #[.int .i64 0, .string ⟨#[]⟩, .int .u64 0, .slice none 0 0, .slice none 0 0] 79) = w1 at hbx hbr hw1 hs1 ⊢
  have HB1 := Lib.hid (hb1.only0 hw1 (fun _ _ _ _ => id))
  have HB2 := Lib.hid (hb2.only0 hw1 (fun _ _ _ _ => id))
  have HBX := Lib.hid hbx
  have HBR := Lib.hid hbr
  have HW1 := Lib.hid hw1
  have HS1 := Lib.hid hs1
  have HKF := Lib.hid (fun w' (h : Only (fun _ => False) w1 w') => (show w'.cell? ⟨w.heap.size, 0, none⟩ = some (.slice A1 l1.length c1) ∧ w'.cell? ⟨w.heap.size, 1, none⟩ = some (.slice A2 l2.length c2) from ⟨(HBX.out.only h id).cell 0 rfl, (HBX.out.only h id).cell 1 rfl⟩))
  have HKK := Lib.hid (fun w' (h : Only (fun i => i = w.heap.size + 1) w1 w') => (show w'.cell? ⟨w.heap.size, 0, none⟩ = some (.slice A1 l1.length c1) ∧ w'.cell? ⟨w.heap.size, 1, none⟩ = some (.slice A2 l2.length c2) from ⟨(HBX.out.only h (fun e => by omega)).cell 0 rfl, (HBX.out.only h (fun e => by omega)).cell 1 rfl⟩))
  have b0 := hbx.cell 0 rfl
  have b1 := hbx.cell 1 rfl
  clear hb1 hb2 hc1 hc2 hp1 hp2 hbx hbr hw1 hs1
  go_region_held3 (fun w' => w'.cell? ⟨w.heap.size, 0, none⟩ = some (.slice A1 l1.length c1) ∧ w'.cell? ⟨w.heap.size, 1, none⟩ = some (.slice A2 l2.length c2)) (first | exact HKF.out _ ((Only.refl _ _).drew) | exact HKF.out _ HO6.out | exact HKF.out _ HO7.out | exact HKF.out _ (HO7.out.alloc _) | exact HKF.out _ HO8.out | exact HKK.out _ (HO8.out.set5 _ _ _ _ _)) ((first | (go_at_call 56; refine (wordV_any (l := l1) (HB1.out.only0 ((Only.refl (fun _ => False) w1).drew) (fun _ _ _ _ => id)) HC1.out HL1.out).mono ?_; rintro e w6 ⟨ho6, cs6, rfl, hj6⟩; have ho6' : Only (fun _ => False) w1 w6 := ((Only.refl (fun _ => False) w1).drew).trans ho6; have hj6' : JIs (fun b => w1.heap.size ≤ b) w6 (wordV l1) cs6 := hj6; obtain ⟨k6, s6, n6, A6, a6, c6, B6, b6, d6, rfl⟩ := hj6'.out5; have HO6 := Lib.hid ho6'; have HJ6 := Lib.hid hj6'; clear ho6 ho6' hj6 hj6') | (go_at_call 56; refine (wordV_any (l := l2) (HB2.out.only0 HO6.out (fun _ _ _ _ => id)) HC2.out HL2.out).mono ?_; rintro e w7 ⟨ho7, cs7, rfl, hj7⟩; have ho7' : Only (fun _ => False) w1 w7 := HO6.out.trans ho7; have hj7' : JIs (fun b => w1.heap.size ≤ b) w7 (wordV l2) cs7 := hj7.mono (fun b _ hb => Nat.le_trans HO6.out.size hb); obtain ⟨k7, s7, n7, A7, a7, c7, B7, b7, d7, rfl⟩ := hj7'.out5; have HO7 := Lib.hid ho7'; have HJ67 := Lib.hid (HJ6.out.keep ho7); have HJ7 := Lib.hid hj7'; clear ho7 ho7' hj7 hj7') | (have hps : ∀ q ∈ [((nLeaf, wordV l1), [txt nLeaf, .int .i64 k6, .string s6, .int .u64 n6, .slice A6 a6 c6, .slice B6 b6 d6]), ((nExtra, wordV l2), [txt nExtra, .int .i64 k7, .string s7, .int .u64 n7, .slice A7 a7 c7, .slice B7 b7 d7])], EM (fun b => w1.heap.size ≤ b) (w7.alloc (.cells #[txt nLeaf, .int .i64 k6, .string s6, .int .u64 n6, .slice A6 a6 c6, .slice B6 b6 d6, txt nExtra, .int .i64 k7, .string s7, .int .u64 n7, .slice A7 a7 c7, .slice B7 b7 d7] 122)) q.1 q.2 := (fun q hq => (List.mem_cons.1 hq).elim (fun e => e ▸ ⟨_, rfl, HJ67.out.keep ((Only.refl _ _).alloc _)⟩) (fun hq2 => (List.mem_singleton.1 hq2) ▸ ⟨_, rfl, HJ7.out.keep ((Only.refl _ _).alloc _)⟩)); go_at_call 53; refine (object_any (H := w1.heap.size) (rowAt_of [((nLeaf, wordV l1), [txt nLeaf, .int .i64 k6, .string s6, .int .u64 n6, .slice A6 a6 c6, .slice B6 b6 d6]), ((nExtra, wordV l2), [txt nExtra, .int .i64 k7, .string s7, .int .u64 n7, .slice A7 a7 c7, .slice B7 b7 d7])] (Blk.new w7 [txt nLeaf, .int .i64 k6, .string s6, .int .u64 n6, .slice A6 a6 c6, .slice B6 b6 d6, txt nExtra, .int .i64 k7, .string s7, .int .u64 n7, .slice A7 a7 c7, .slice B7 b7 d7] 122) rfl rfl hps) (Nat.le_of_ble_eq_true rfl) (HO7.out.alloc _).size).mono ?_; rintro e w8 ⟨ho8, cs8, rfl, hj8⟩; have ho8' : Only (fun _ => False) w1 w8 := (HO7.out.alloc _).trans ho8; obtain ⟨k8, s8, n8, A8, a8, c8, B8, b8, d8, rfl⟩ := hj8.out5; have HB8 := Lib.hid (HBR.out.only ho8' id); have r0 := HB8.out.cell 0 rfl; have r1 := HB8.out.cell 1 rfl; have r2 := HB8.out.cell 2 rfl; have r3 := HB8.out.cell 3 rfl; have r4 := HB8.out.cell 4 rfl; have f0 := HB8.out.frozen 0; have f1 := HB8.out.frozen 1; have f2 := HB8.out.frozen 2; have f3 := HB8.out.frozen 3; have f4 := HB8.out.frozen 4; have HO8 := Lib.hid ho8'; have HJ8 := Lib.hid hj8; clear ho8 ho8' hj8 hps)))
  all_goals
    go_wp2
    refine bodyPost_ret (ret_cell rfl rfl (HB8.out.set5 _ _ _ _ _) agg79 info79s) rfl ?_
    refine ⟨HW1.out.then (HO8.out.set5 _ _ _ _ _) (fun i hi e => by omega), _, rfl, ?_⟩
    refine JIs.only (HJ8.out.mono (fun b _ hb => hb)) ((Only.refl (fun _ => False) w8).set5 (g := w.heap.size + 1) _ _ _ _ _) (fun b hb hy => ⟨?_, ?_⟩)
    · have := HS1.out; intro e; omega
    · have := HS1.out; omega
end Go.Proofs.YtjehnejgojgahaaGreatDoor

/- Y5 -/
namespace Go.Proofs.YtjehnejgojgahaaGreatDoor
open Go.RowKit
set_option linter.unusedVariables false
set_option linter.unusedSimpArgs false

theorem under105 : (Tryz.prog.underlying 105).map (·.isRow) = some true := by kernel_rfl
theorem info105s : (Tryz.prog.info? 105).map (·.size) = some 2 := by kernel_rfl
theorem load105 {ops : Array Oper} {rest : List Oper} {op : Oper} {a : Act} {w : World} {Q : Exit → Act → World → Prop} (hgd : op.guard = none) (x : Operand) (ho : op.op = .load 105 x)
    {b o : Nat} (hx : a.eval x = .pointer (some ⟨b, o, none⟩)) {cs : List Value} (hc : w.rangeAt b o cs) (hl : cs.length = 2)
    (h : wpList Tryz.prog ops Q rest (a.put op.dst (.agg cs.toArray)) w) : wpList Tryz.prog ops Q (op :: rest) a w := by
  cases hd : Tryz.prog.underlying 105 with
  | none => have := under105; rw [hd] at this; cases this
  | some d =>
    have h2 := under105
    rw [hd] at h2
    exact wpList_load_mid hgd 105 x ho b o hx cs d hc hd (by simpa using h2) (by rw [hl]; exact info105s) h
theorem Blk.two {w : World} {g : Nat} {a b : Value} {T : TypeId} (h : Blk w g [a, b] T) : w.cell? ⟨g, 0, none⟩ = some a ∧ w.cell? ⟨g, 1, none⟩ = some b := ⟨h.cell 0 rfl, h.cell 1 rfl⟩
theorem EI.two {Y : Nat → Prop} {w : World} {p : Bytes × Bytes} {cs : List Value} (h : EI Y w p cs) : ∃ A c B d, cs = [.slice A p.1.length c, .slice B p.2.length d] ∧ ∀ w', Only (fun _ => False) w w' → EI (fun _ => True) w' p [.slice A p.1.length c, .slice B p.2.length d] := by
  obtain ⟨d1, d2, rfl, ⟨A1, c1, rfl, hb1, hc1, _⟩, ⟨A2, c2, rfl, hb2, hc2, _⟩⟩ := h
  exact ⟨A1, c1, A2, c2, rfl, fun w' ho => ⟨_, _, rfl, ⟨A1, c1, rfl, hb1.only0 ho (fun _ _ _ _ => id), hc1, fun _ _ _ _ => trivial⟩, ⟨A2, c2, rfl, hb2.only0 ho (fun _ _ _ _ => id), hc2, fun _ _ _ _ => trivial⟩⟩⟩
set_option maxRecDepth 100000 in
set_option maxHeartbeats 6400000 in
theorem list_items {Y : Nat → Prop} {A : Option Addr} {c : Nat} {l : List (Bytes × Bytes)} {w : World} (hR : RowAt EI 2 Y w A l) (hl : l.length ≤ 3000000) (hs : ∀ x ∈ l, x.1.length ≤ 1000000000 ∧ x.2.length ≤ 1000000000) :
    Calls Tryz.prog 59 #[.slice A l.length c, .func (.func 60) #[] #[]] w (VOut w.heap.size (listV (l.map itemV)) w) := by
  have HR := Lib.hid hR
  have HL := Lib.hid hl
  have hlz : (l.length : Int) ≤ 3000000 := by omega
  obtain ⟨H, hH⟩ : ∃ H, H = w.heap.size := ⟨_, rfl⟩
  have hb0 : Blk ((w.alloc (.cells #[.int .i64 0, .string ⟨#[]⟩, .int .u64 0, .slice none 0 0, .slice none 0 0] 79)).alloc (.cells #[.int .i64 0, .string ⟨#[]⟩, .int .u64 0, .slice none 0 0, .slice none 0 0] 79)) (w.heap.size + 1) [.int .i64 0, .string ⟨#[]⟩, .int .u64 0, .slice none 0 0, .slice none 0 0] 79 := by
    have := Blk.new (w.alloc (.cells #[.int .i64 0, .string ⟨#[]⟩, .int .u64 0, .slice none 0 0, .slice none 0 0] 79)) [.int .i64 0, .string ⟨#[]⟩, .int .u64 0, .slice none 0 0, .slice none 0 0] 79
    rwa [World.size_alloc] at this
  have HB0 := Lib.hid hb0
  have HS := Lib.hid hs
  clear hR hl hb0 hs
  go_enter Tryz.func59, Tryz.ntmps59
  go_upto_region 3 with (refine wpList_store_blk (cs := [.int .i64 5, .string ⟨#[]⟩, .int .u64 0, .slice none 0 0, .slice none 0 0]) rfl 79 (.tmp 5) (.tmp 8) rfl rfl rfl rfl HB0.out rfl info79s rfl ?_; intro w2 hb2 ho2; have HB2 := Lib.hid hb2; have HO2 := Lib.hid (show Only (fun _ => False) w w2 from (((Only.refl _ w).alloc _).alloc _).then ho2 (fun i hi e => by omega)); have HR2 := Lib.hid (((Blk.new w [.int .i64 0, .string ⟨#[]⟩, .int .u64 0, .slice none 0 0, .slice none 0 0] 79).alloc (.cells #[.int .i64 0, .string ⟨#[]⟩, .int .u64 0, .slice none 0 0, .slice none 0 0] 79)).only ho2 (fun e => by omega)); have hs2 := ho2.size; rw [World.size_alloc, World.size_alloc] at hs2; have HS2 := Lib.hid hs2; clear hb2 ho2 hs2)
  have HH := Lib.hid hH
  generalize hHv : w.heap.size + 1 = Hv at HB2 ⊢
  have HHV := Lib.hid hHv
  clear hH hHv
  go_loopw [11] (fun s11 wr => ∃ (j : Nat) (vl : Value), j ≤ l.length ∧ s11 = .int .i64 (j : Int) ∧ LMid Hv w2 wr vl ((l.take j).map itemV)) (fun i _ => l.length - (intOf i).toNat)
  case atStart => exact ⟨0, .slice none 0 0, by omega, rfl, HB2.out, RowOwn.nil _ _ _, Only.refl _ _⟩
  case round =>
    obtain ⟨j, vl, hj, rfl, hm⟩ := hrel
    have HM := Lib.hid hm
    clear hm
    have hvlt : Hv < w2.heap.size := HB2.out.lt
    have HVLT := Lib.hid hvlt
    clear hvlt
    rcases Nat.lt_or_ge j l.length with hlt | hge
    · obtain ⟨x, hx⟩ : ∃ x, l[j]? = some x := ⟨l[j], List.getElem?_eq_getElem hlt⟩
      have q : decide ((j : Int) < (l.length : Int)) = true := by simp; omega
      have hjz : (j : Int) < (l.length : Int) := by omega
      obtain ⟨bA, oA, cs, rfl, hrg, hcl, hex⟩ := HR.out j x hx
      have hwr : Only (fun _ => False) w wr := HO2.out.then HM.out.only (fun i hi e => by have := HHV.out; omega)
      have hrg2 := rangeAt.keep hrg hwr
      have HRG := Lib.hid hrg2
      have HCL := Lib.hid hcl
      have HEX := Lib.hid hex
      have HMX := Lib.hid (List.mem_of_getElem? hx)
      have HWR := Lib.hid hwr
      have HTS := Lib.hid (take_snoc hx)
      have HLT := Lib.hid hlt
      have HKL := Lib.hid (show ((l.take j).map itemV).length = j by rw [List.length_map, List.length_take]; omega)
      have HBV := Lib.hid HM.out.blk
      obtain ⟨xs, hown, hrow⟩ := HM.out.row
      rw [HKL.out] at hown
      have HOWN := Lib.hid hown
      have HROW := Lib.hid hrow
      have hjn : j ≤ 3000000 := by have := HL.out; omega
      clear hx hrg hrg2 hcl hex hwr hlt hown hrow
      obtain ⟨A1, c1, A2, c2, rfl, hei⟩ := HEX.out.two
      have HEI := Lib.hid hei
      have hxs := HS.out x HMX.out
      have HX1 := Lib.hid hxs.1
      have HX2 := Lib.hid hxs.2
      clear hei hxs
      go_upto_region 5 with (first
        | (refine load105 rfl (.tmp 13) rfl rfl HRG.out rfl ?_)
        | (refine wpList_alloc_blk rfl 105 7 rfl rfl zero105 ?_; intro w4 hb4 ho4 hs4; have HB4 := Lib.hid hb4; have HO4 := Lib.hid ho4; clear hb4 ho4 hs4)
        | (refine wpList_store_blk (cs := [.slice A1 x.1.length c1, .slice A2 x.2.length c2]) rfl 105 (.tmp 7) (.tmp 14) rfl rfl rfl rfl HB4.out rfl info105s rfl ?_; intro w5 hb5 ho5; have HB5 := Lib.hid hb5; have HO5 := Lib.hid (HO4.out.then ho5 (fun i hi e => by omega)); have k3 := (HBV.out.only HO5.out id).cell 3 rfl; have HK3 := Lib.hid k3; clear hb5 ho5))
      have hvs : Hv < w5.heap.size := cell_lt k3
      have hvf := (HBV.out.only HO5.out id).frozen 3
      have HS5 := Lib.hid (show Blk w5.drew wr.heap.size [.slice A1 x.1.length c1, .slice A2 x.2.length c2] 105 from HB5.out.drew)
      have hszr := HVLT.out
      have hszr2 := HM.out.only.size
      have hrv : wr.heap.size ≠ (⟨Hv, 3, none⟩ : Addr).block := by
        show wr.heap.size ≠ Hv
        omega
      have kq := HS5.out.two
      obtain ⟨kq0, kq1⟩ := kq
      have k3d : w5.drew.cell? ⟨Hv, 3, none⟩ = some vl := k3
      go_region_law (first | (go_simp; go_at_call 60; refine (item_any (cs := [.slice A1 x.1.length c1, .slice A2 x.2.length c2]) (HEI.out _ (HWR.out.trans HO5.out.drew)) HX1.out HX2.out).mono ?_; rintro e w6 ⟨ho6, cs6, rfl, hj6⟩; have ho6' : Only (fun _ => False) wr w6 := HO5.out.drew.trans ho6; have hj6' : JIs (fun b => wr.heap.size ≤ b) w6 (itemV x) cs6 := hj6.mono (fun b _ hb => Nat.le_trans HO5.out.size hb); obtain ⟨k6, s6, n6, A6, a6, c6, B6, b6, d6, rfl⟩ := hj6'.out5; have k6 := (HBV.out.only ho6' id).cell 3 rfl; have k6s := cell_lt k6; have HO6 := Lib.hid ho6'; have HS6 := Lib.hid (HS5.out.only ho6 id); have HJ6 := Lib.hid hj6'; clear ho6 ho6' hj6 hj6') | (refine step_append79 (by rfl) _ _ (by rfl) (by rfl) (own_only HOWN.out (HO6.out.alloc _) (fun _ _ h => h)) (by rfl) (Blk.new w6 _ 79) (by rfl) (by rfl) hjn (Nat.le_trans hszr2 (Nat.le_trans HO6.out.size (Nat.le_of_lt (alloc_lt6 w6 _)))) ?_; intro gg cap w8 hown8 hgr8 hor8; have hm8 := LMid.snoc HM.out HKL.out HVLT.out HO6.out HJ6.out ((Only.refl _ w6).alloc _) HOWN.out HROW.out hown8 hgr8 hor8; have hb8 := LMid.store HM.out HVLT.out HO6.out ((Only.refl _ w6).alloc _) hgr8; have k8 := hb8.cell 3 rfl; have f8 := hb8.frozen 3; have HM8 := Lib.hid hm8; have HS8 := Lib.hid ((HS6.out.alloc _).only (Only.ofGrown hgr8) (fun e => by have := (World.ownsRow.lt HOWN.out _ e).2; omega)); clear hm8 hb8 hown8 hgr8 hor8) | fail)
      all_goals
        go_wp2
        go_roundw
        case rel =>
          refine ⟨j + 1, .slice (some ⟨gg, 0, none⟩) (j + 1) cap, by have := HLT.out; omega, by push_cast; rfl, ?_⟩
          rw [HTS.out, List.map_append]
          exact HM8.out
        case measure => have := HLT.out; simp [intOf]; omega

    · have q : decide ((j : Int) < (l.length : Int)) = false := by simp; omega
      obtain rfl : j = l.length := by omega
      rw [List.take_of_length_le (Nat.le_refl _)] at HM
      have hvj := HM.out.value
      have HVJ := Lib.hid hvj
      obtain ⟨xs, hown, hrow⟩ := HM.out.row
      obtain ⟨Al, cl, rfl⟩ := own_form hown
      have HBV := Lib.hid HM.out.blk
      have HRR := Lib.hid (HR2.out.only HM.out.only (fun e => by have := HHV.out; have := HH.out; omega))
      clear hvj hown hrow hge
      go_wp2_with (first
        | (refine wpList_load_blk (cs := cells5 5 [] 0 (.slice Al (l.map itemV).length cl) (.slice none 0 0)) rfl 79 (.tmp 5) rfl rfl HBV.out agg79 info79s ?_)
        | (refine wpList_store_blk (cs := cells5 5 [] 0 (.slice Al (l.map itemV).length cl) (.slice none 0 0)) rfl 79 (.tmp 4) (.tmp 24) rfl rfl rfl rfl HRR.out rfl info79s rfl ?_; intro w4 hb4 ho4; have HB4 := Lib.hid hb4; have HO4 := Lib.hid ho4; clear hb4 ho4))
      refine bodyPost_ret (ret_cell rfl rfl HB4.out agg79 info79s) rfl ?_
      refine ⟨(HO2.out.then HM.out.only (fun i hi e => by have := HHV.out; omega)).then HO4.out (fun i hi e => by omega), _, rfl, ?_⟩
      refine HVJ.out.only HO4.out (fun b hb hy => ⟨?_, ?_⟩)
      · have := HVLT.out; have := HHV.out; omega
      · have := HO2.out.size; omega
end Go.Proofs.YtjehnejgojgahaaGreatDoor

/- Z1 -/
namespace Go.Proofs.YtjehnejgojgahaaGreatDoor
set_option linter.unusedVariables false
set_option linter.unusedSimpArgs false

def numT (n : Nat) : Bytes := Lib.decDigits n
def wordT (b : Bytes) : Bytes := quoteP (put64 b)
def arrT (ts : List Bytes) : Bytes := 91 :: (joinP ts ++ [93])
def objT (ks ts : List Bytes) : Bytes := 123 :: (joinP (List.zipWith memP ks ts) ++ [125])
theorem gw_num {m n : Nat} (h : n < 18446744073709551616) : GW m (numV n) (numT n) := .num h
theorem gw_word {m : Nat} (b : Bytes) : GW m (wordV b) (wordT b) :=
  .str (fun x hx => ⟨(put64_ascii b x hx).1, (put64_ascii b x hx).2.2.1, (put64_ascii b x hx).2.2.2⟩) (fun x hx => (put64_ascii b x hx).2.1)
theorem gw_list {α : Type} {m : Nat} {l : List α} {f : α → JV} {g : α → Bytes} (hl : l.length ≤ 3000000000) (h : ∀ x ∈ l, GW m (f x) (g x)) : GW (m + 1) (listV (l.map f)) (arrT (l.map g)) := by
  refine .arr (by simpa using hl) (by simp) ?_
  intro i v t h1 h2
  rw [List.getElem?_map] at h1 h2
  cases hx : l[i]? with
  | none => rw [hx] at h1; cases h1
  | some x =>
    rw [hx] at h1 h2
    cases h1; cases h2
    exact h x (List.mem_of_getElem? hx)
/-- What may be a name: plain, below 128. -/
def nameOk (k : Bytes) : Bool := k.all fun x => decide (32 ≤ x.toNat) && decide (x ≠ 34) && decide (x ≠ 92) && decide (x.toNat < 128)
theorem nameOk_plain {k : Bytes} (h : nameOk k = true) : PlainT k ∧ ∀ x ∈ k, x.toNat < 128 := by
  unfold nameOk at h
  rw [List.all_eq_true] at h
  have h2 : ∀ x ∈ k, ((32 ≤ x.toNat ∧ x ≠ 34) ∧ x ≠ 92) ∧ x.toNat < 128 := fun x hx => by simpa using h x hx
  exact ⟨fun x hx => ⟨(h2 x hx).1.1.1, (h2 x hx).1.1.2, (h2 x hx).1.2⟩, fun x hx => (h2 x hx).2⟩
inductive GWs (m : Nat) : List (Bytes × JV) → List Bytes → Prop
  | nil : GWs m [] []
  | cons {k : Bytes} {v : JV} {t : Bytes} {ms : List (Bytes × JV)} {ts : List Bytes} : GW m v t → GWs m ms ts → GWs m ((k, v) :: ms) (t :: ts)
theorem GWs.len {m : Nat} {ms : List (Bytes × JV)} {ts : List Bytes} (h : GWs m ms ts) : ts.length = ms.length := by
  induction h with
  | nil => rfl
  | cons _ _ ih => simp [ih]
theorem GWs.at {m : Nat} {ms : List (Bytes × JV)} {ts : List Bytes} (h : GWs m ms ts) : ∀ (i : Nat) (v : JV) (t : Bytes), (ms.map (·.2))[i]? = some v → ts[i]? = some t → GW m v t := by
  induction h with
  | nil => intro i v t h1; simp at h1
  | cons h1 _ ih =>
    intro i v t k1 k2
    cases i with
    | zero => simp at k1 k2; subst k1; subst k2; exact h1
    | succ i => exact ih i v t (by simpa using k1) (by simpa using k2)
theorem gw_obj {m : Nat} {ms : List (Bytes × JV)} {ts : List Bytes} (h : GWs m ms ts) (hl : ms.length ≤ 3000000000) (hk : decide ((ms.map (·.1)).Nodup) = true) (hn : (ms.map (·.1)).all nameOk = true) : GW (m + 1) (objV ms) (objT (ms.map (·.1)) ts) :=
  .obj (by simpa using hl) (by simpa using h.len) (by simp) (of_decide_eq_true hk) (fun k hk => nameOk_plain (List.all_eq_true.1 hn k hk)) h.at
theorem getB_obj {ms : List (Bytes × JV)} {k : Bytes} {i : Nat} {p : Bytes × JV} (h : idxK (ms.map (·.1)) k = some i) (hp : ms[i]? = some p) : getB (objV ms) k = some p.2 := by
  unfold getB
  rw [if_pos ⟨rfl, by simp [objV, JV.keys, JV.list]⟩]
  show (idxK (ms.map (·.1)) k).bind (fun i => (ms.map (·.2))[i]?) = _
  rw [h, Option.bind_some, List.getElem?_map, hp]
  rfl
theorem parseM_gw {v : JV} {t : Bytes} (h : GW 8 v t) (hl : t.length ≤ 1048576) : parseM t = some v := by
  unfold parseM
  rw [if_pos hl]
  exact parseD_gw h
theorem pV_gw {v : JV} {t : Bytes} (h : GW 8 v t) (hl : t.length ≤ 1048576) : pV t = v := by unfold pV; rw [parseM_gw h hl]; rfl
def namesBad (ks ns : List Bytes) : Bool := decide (ks.length ≠ ns.length) || ns.any (fun n => !decide (n ∈ ks))
theorem badN_obj (ms : List (Bytes × JV)) (ns : List Bytes) : badN (objV ms) (bad0 (objV ms) ns) ns = namesBad (ms.map (·.1)) ns := by
  rfl
theorem pBad_gw {ms : List (Bytes × JV)} {t : Bytes} (h : GW 8 (objV ms) t) (hl : t.length ≤ 1048576) (ns : List Bytes) : pBad t ns = namesBad (ms.map (·.1)) ns := by
  unfold pBad
  rw [parseM_gw h hl]
  exact badN_obj ms ns
theorem digB_of {l : Bytes} (h : l.length = 32) : digB l = l := if_pos h
theorem markB_of {s : Bytes} (h : s.length = 64) : markB (mk4 ++ s) = true := by unfold markB mk4; simp [h]
theorem sigB_of {s : Bytes} (h : s.length = 64) : sigB (mk4 ++ s) = s := by unfold sigB; rw [if_pos (markB_of h)]; rfl
theorem wordT_len (b : Bytes) : (wordT b).length = 4 * ((b.length + 2) / 3) + 2 := by unfold wordT quoteP; simp [put64_length]
theorem numT_len {n : Nat} (h : n < 18446744073709551616) : (numT n).length ≤ 20 := decD_len 19 n (by omega)
theorem memP_len (k t : Bytes) : (memP k t).length = k.length + t.length + 3 := by unfold memP quoteP; simp; omega
theorem tailP_len (t : Bytes) (ts : List Bytes) : (tailP (t :: ts)).length = t.length + 1 + (tailP ts).length := by unfold tailP; simp; omega
theorem objT_len (k t : Bytes) (ks ts : List Bytes) : (objT (k :: ks) (t :: ts)).length = k.length + t.length + 5 + (tailP (List.zipWith memP ks ts)).length := by
  unfold objT
  rw [List.zipWith_cons_cons, joinP_cons]
  simp [memP_len]; omega

/- The answers' values, and their texts. -/
def sctM (i : Bytes) (n : Nat) (s : Bytes) : List (Bytes × JV) := [(nVer, numV 0), (nId, wordV i), (nTime, numV n), (nExt, wordV []), (nSig, wordV (mk4 ++ s))]
def sctK : List Bytes := [nVer, nId, nTime, nExt, nSig]
def sctT (i : Bytes) (n : Nat) (s : Bytes) : Bytes := objT [nVer, nId, nTime, nExt, nSig] [numT 0, wordT i, numT n, wordT [], wordT (mk4 ++ s)]
theorem sct_gw {i s : Bytes} {n : Nat} (hn : n < 18446744073709551616) : GW 8 (objV (sctM i n s)) (sctT i n s) :=
  gw_obj (m := 7) (ms := sctM i n s) (.cons (gw_num (by decide)) (.cons (gw_word _) (.cons (gw_num hn) (.cons (gw_word _) (.cons (gw_word _) .nil))))) (by simp [sctM]) (by decide : decide sctK.Nodup = true) (by decide : sctK.all nameOk = true)
theorem sctT_len {i s : Bytes} {n : Nat} (hn : n < 18446744073709551616) (hi : i.length = 32) (hs : s.length = 64) : (sctT i n s).length ≤ 1000 := by
  have h0 := numT_len (show 0 < 18446744073709551616 by decide)
  have h1 := numT_len hn
  unfold sctT
  rw [objT_len]
  simp only [List.zipWith_cons_cons, List.zipWith_nil_right, List.zipWith_nil_left, tailP_len, memP_len, wordT_len]
  rw [show tailP [] = [] from rfl]
  simp [nVer, nId, nTime, nExt, nSig, mk4, hi, hs]
  omega
def headM (n m : Nat) (r s : Bytes) : List (Bytes × JV) := [(nSize, numV n), (nTime, numV m), (nRoot, wordV r), (nHsig, wordV (mk4 ++ s))]
def headK : List Bytes := [nSize, nTime, nRoot, nHsig]
def headT (n m : Nat) (r s : Bytes) : Bytes := objT [nSize, nTime, nRoot, nHsig] [numT n, numT m, wordT r, wordT (mk4 ++ s)]
theorem head_gw {r s : Bytes} {n m : Nat} (hn : n < 18446744073709551616) (hm : m < 18446744073709551616) : GW 8 (objV (headM n m r s)) (headT n m r s) :=
  gw_obj (m := 7) (ms := headM n m r s) (.cons (gw_num hn) (.cons (gw_num hm) (.cons (gw_word _) (.cons (gw_word _) .nil)))) (by simp [headM]) (by decide : decide headK.Nodup = true) (by decide : headK.all nameOk = true)
theorem headT_len {r s : Bytes} {n m : Nat} (hn : n < 18446744073709551616) (hm : m < 18446744073709551616) (hr : r.length = 32) (hs : s.length = 64) : (headT n m r s).length ≤ 1000 := by
  have h0 := numT_len hn
  have h1 := numT_len hm
  unfold headT
  rw [objT_len]
  simp only [List.zipWith_cons_cons, List.zipWith_nil_right, List.zipWith_nil_left, tailP_len, memP_len, wordT_len]
  rw [show tailP [] = [] from rfl]
  simp [nSize, nTime, nRoot, nHsig, mk4, hr, hs]
  omega
theorem badG_obj {ms : List (Bytes × JV)} {k : Bytes} {i : Nat} {p : Bytes × JV} (h : idxK (ms.map (·.1)) k = some i) (hp : ms[i]? = some p) (kd : Nat) : badG (objV ms) k kd = decide (p.2.kind ≠ kd) := by
  unfold badG
  rw [getB_obj h hp]
theorem bytesB_obj {ms : List (Bytes × JV)} {k : Bytes} {i : Nat} {k' b : Bytes} (h : idxK (ms.map (·.1)) k = some i) (hp : ms[i]? = some (k', wordV b)) : bytesB (objV ms) k = some b := by
  unfold bytesB
  rw [getB_obj h hp]
  exact take64_put64 b
theorem wordV_kind (b : Bytes) : (wordV b).kind = 4 := rfl
theorem numV_kind (n : Nat) : (numV n).kind = 3 := rfl
theorem listV_kind (l : List JV) : (listV l).kind = 5 := rfl
theorem sct_back {i s : Bytes} {n : Nat} (hn : n < 18446744073709551616) (hi : i.length = 32) (hs : s.length = 64) : badSct (sctT i n s) = false ∧ sctL (sctT i n s) = sctC i n s := by
  have hg := sct_gw (i := i) (s := s) hn
  have hl := sctT_len hn hi hs
  have hv := pV_gw hg (by omega)
  have e0 : idxK ((sctM i n s).map (·.1)) nVer = some 0 := rfl
  have e1 : idxK ((sctM i n s).map (·.1)) nId = some 1 := (by decide : idxK sctK nId = some 1)
  have e2 : idxK ((sctM i n s).map (·.1)) nTime = some 2 := (by decide : idxK sctK nTime = some 2)
  have e3 : idxK ((sctM i n s).map (·.1)) nExt = some 3 := (by decide : idxK sctK nExt = some 3)
  have e4 : idxK ((sctM i n s).map (·.1)) nSig = some 4 := (by decide : idxK sctK nSig = some 4)
  have b1 := bytesB_obj e1 (k' := nId) (b := i) rfl
  have b3 := bytesB_obj e3 (k' := nExt) (b := []) rfl
  have b4 := bytesB_obj e4 (k' := nSig) (b := mk4 ++ s) rfl
  have n0 : numL (sctT i n s) nVer = 0 := by unfold numL; rw [hv, getB_obj e0 rfl]; rfl
  have n2 : numL (sctT i n s) nTime = n := by unfold numL; rw [hv, getB_obj e2 rfl]; rfl
  constructor
  · unfold badSct bad3 bsL
    rw [pBad_gw hg (by omega), hv, n0, badG_obj e0 rfl, badG_obj e1 rfl, badG_obj e2 rfl, badG_obj e3 rfl, badG_obj e4 rfl, b1, b3, b4]
    rw [show namesBad ((sctM i n s).map (·.1)) [nVer, nId, nTime, nExt, nSig] = false from (by decide : namesBad sctK [nVer, nId, nTime, nExt, nSig] = false)]
    simp [wordV_kind, numV_kind, hi, markB_of hs]
  · unfold sctL bsL
    rw [hv, n2, b1, b4]
    simp [digB_of hi, sigB_of hs]
theorem head_back {r s : Bytes} {n m : Nat} (hn : n < 18446744073709551616) (hm : m < 18446744073709551616) (hr : r.length = 32) (hs : s.length = 64) : badHd (headT n m r s) = false ∧ hdL (headT n m r s) = headC n m r s := by
  have hg := head_gw (r := r) (s := s) hn hm
  have hl := headT_len hn hm hr hs
  have hv := pV_gw hg (by omega)
  have e0 : idxK ((headM n m r s).map (·.1)) nSize = some 0 := rfl
  have e1 : idxK ((headM n m r s).map (·.1)) nTime = some 1 := (by decide : idxK headK nTime = some 1)
  have e2 : idxK ((headM n m r s).map (·.1)) nRoot = some 2 := (by decide : idxK headK nRoot = some 2)
  have e3 : idxK ((headM n m r s).map (·.1)) nHsig = some 3 := (by decide : idxK headK nHsig = some 3)
  have b2 := bytesB_obj e2 (k' := nRoot) (b := r) rfl
  have b3 := bytesB_obj e3 (k' := nHsig) (b := mk4 ++ s) rfl
  have n0 : numL (headT n m r s) nSize = n := by unfold numL; rw [hv, getB_obj e0 rfl]; rfl
  have n1 : numL (headT n m r s) nTime = m := by unfold numL; rw [hv, getB_obj e1 rfl]; rfl
  constructor
  · unfold badHd
    rw [pBad_gw hg (by omega), hv, badG_obj e0 rfl, badG_obj e1 rfl, badG_obj e2 rfl, badG_obj e3 rfl, b2, b3]
    rw [show namesBad ((headM n m r s).map (·.1)) [nSize, nTime, nRoot, nHsig] = false from (by decide : namesBad headK [nSize, nTime, nRoot, nHsig] = false)]
    simp [wordV_kind, numV_kind, hr, markB_of hs]
  · unfold hdL bsL
    rw [hv, n0, n1, b2, b3]
    simp [digB_of hr, sigB_of hs]
theorem sct_as_head {i s : Bytes} {n : Nat} (hn : n < 18446744073709551616) (hi : i.length = 32) (hs : s.length = 64) : badHd (sctT i n s) = true := by
  unfold badHd
  rw [pBad_gw (sct_gw hn) (by have := sctT_len hn hi hs; omega), show namesBad ((sctM i n s).map (·.1)) [nSize, nTime, nRoot, nHsig] = true from (by decide : namesBad sctK [nSize, nTime, nRoot, nHsig] = true)]
  simp
theorem head_as_sct {r s : Bytes} {n m : Nat} (hn : n < 18446744073709551616) (hm : m < 18446744073709551616) (hr : r.length = 32) (hs : s.length = 64) : badSct (headT n m r s) = true := by
  unfold badSct bad3
  rw [pBad_gw (head_gw hn hm) (by have := headT_len hn hm hr hs; omega), show namesBad ((headM n m r s).map (·.1)) [nVer, nId, nTime, nExt, nSig] = true from (by decide : namesBad headK [nVer, nId, nTime, nExt, nSig] = true)]
  simp
end Go.Proofs.YtjehnejgojgahaaGreatDoor

/- Z2 -/
namespace Go.Proofs.YtjehnejgojgahaaGreatDoor
set_option linter.unusedVariables false
set_option linter.unusedSimpArgs false

def lM (k : Bytes) (vs : List JV) : List (Bytes × JV) := [(k, listV vs)]
def lT (k : Bytes) (ts : List Bytes) : Bytes := objT [k] [arrT ts]
theorem l_gw {α : Type} {k : Bytes} {l : List α} {f : α → JV} {g : α → Bytes} (hk : nameOk k = true) (hl : l.length ≤ 3000000000) (h : ∀ x ∈ l, GW 6 (f x) (g x)) : GW 8 (objV (lM k (l.map f))) (lT k (l.map g)) :=
  gw_obj (m := 7) (ms := lM k (l.map f)) (.cons (gw_list hl h) .nil) (by simp [lM]) (by simp [lM]) (by simp [lM, hk])
theorem arrT_len {α : Type} {g : α → Bytes} {n : Nat} : ∀ (l : List α), (∀ x ∈ l, (g x).length ≤ n) → (arrT (l.map g)).length ≤ l.length * (n + 1) + 2
  | [], _ => by simp [arrT, joinP_nil]
  | x :: l, h => by
    have ht : ∀ (l : List α), (∀ x ∈ l, (g x).length ≤ n) → (tailP (l.map g)).length ≤ l.length * (n + 1) := by
      intro l
      induction l with
      | nil => intro _; simp [tailP]
      | cons y l ih =>
        intro hh
        have h1 := ih (fun x hx => hh x (by simp [hx]))
        have h2 := hh y (by simp)
        rw [List.map_cons, tailP_len, List.length_cons, Nat.add_one_mul]
        omega
    have h1 := ht l (fun y hy => h y (by simp [hy]))
    have h2 := h x (by simp)
    unfold arrT
    show _ ≤ (l.length + 1) * (n + 1) + 2
    rw [List.map_cons, joinP_cons, Nat.add_one_mul]
    simp only [List.length_cons, List.length_append, List.length_nil]
    omega
theorem lT_len (k : Bytes) (ts : List Bytes) : (lT k ts).length = k.length + (arrT ts).length + 5 := by
  unfold lT
  rw [objT_len]
  simp [tailP]
theorem eachBad_map {α : Type} {ok : JV → Bool} {f : α → JV} {l : List α} (h : ∀ x ∈ l, ok (f x) = true) : eachBad ok (l.map f) = false := by
  unfold eachBad
  rw [List.any_eq_false]
  intro u hu
  obtain ⟨x, hx, rfl⟩ := List.mem_map.1 hu
  simp [h x hx]
theorem map_back {α : Type} {val : JV → α} {f : α → JV} {l : List α} (h : ∀ x ∈ l, val (f x) = x) : (l.map f).map val = l := by
  rw [List.map_map]
  conv => rhs; rw [← List.map_id l]
  exact List.map_congr_left (fun x hx => h x hx)
theorem l_back {α : Type} {k : Bytes} {l : List α} {f : α → JV} {g : α → Bytes} {ok : JV → Bool} {val : JV → α} (hk : nameOk k = true) (hl : l.length ≤ 3000000000) (h : ∀ x ∈ l, GW 6 (f x) (g x)) (ht : (lT k (l.map g)).length ≤ 1048576)
    (hok : ∀ x ∈ l, ok (f x) = true) (hval : ∀ x ∈ l, val (f x) = x) : badL (lT k (l.map g)) [k] k ok = false ∧ elsL (lT k (l.map g)) k val = l := by
  have hg := l_gw hk hl h
  have hv := pV_gw hg ht
  have e0 : idxK ((lM k (l.map f)).map (·.1)) k = some 0 := by simp [lM, idxK]
  constructor
  · unfold badL
    rw [pBad_gw hg ht, hv, badG_obj e0 rfl, getB_obj e0 rfl]
    rw [show namesBad ((lM k (l.map f)).map (·.1)) [k] = false by simp [lM, namesBad]]
    show (false || decide ((listV (l.map f)).kind ≠ 5) || eachBad ok (l.map f)) = false
    rw [eachBad_map hok, listV_kind]
    rfl
  · unfold elsL
    rw [hv, getB_obj e0 rfl]
    show (l.map f).map val = l
    exact map_back hval
theorem okB_word (b : Bytes) : okB' (wordV b) = true := by
  show okB 4 (put64 b) = true
  unfold okB
  rw [take64_put64]; rfl
theorem elB_word (b : Bytes) : elB (wordV b) = b := by
  show (take64 (put64 b)).getD [] = b
  rw [take64_put64]; rfl
theorem okH_word {b : Bytes} (h : b.length = 32) : okH' (wordV b) = true := by
  show okH 4 (put64 b) = true
  unfold okH okB
  rw [take64_put64]; simp [h]
theorem elH_word {b : Bytes} (h : b.length = 32) : elH (wordV b) = b := by
  unfold elH
  rw [elB_word, digB_of h]

def consT (l : List Bytes) : Bytes := lT nCons (l.map wordT)
theorem consT_len {l : List Bytes} (hl : l.length ≤ 10000) (h : ∀ x ∈ l, x.length = 32) : (consT l).length ≤ 1000000 := by
  unfold consT
  rw [lT_len]
  have := arrT_len (g := wordT) (n := 46) l (fun x hx => by rw [wordT_len, h x hx]; decide)
  simp [nCons]
  omega
theorem cons_gw {l : List Bytes} (hl : l.length ≤ 3000000) : GW 8 (objV (lM nCons (l.map wordV))) (consT l) := l_gw (by decide) (by omega) (fun x _ => gw_word x)
theorem cons_back {l : List Bytes} (hl : l.length ≤ 10000) (h : ∀ x ∈ l, x.length = 32) : badL (consT l) [nCons] nCons okH' = false ∧ elsL (consT l) nCons elH = l :=
  l_back (by decide) (by omega) (fun x _ => gw_word x) (by have := consT_len hl h; unfold consT at this; omega) (fun x hx => okH_word (h x hx)) (fun x hx => elH_word (h x hx))
def chT (l : List Bytes) : Bytes := lT nChain (l.map wordT)
theorem ch_gw {l : List Bytes} (hl : l.length ≤ 3000000) : GW 8 (objV (lM nChain (l.map wordV))) (chT l) := l_gw (by decide) (by omega) (fun x _ => gw_word x)
theorem ch_back {l : List Bytes} (hl : l.length ≤ 3000000) (ht : (chT l).length ≤ 1048576) : badL (chT l) [nChain] nChain okB' = false ∧ elsL (chT l) nChain elB = l :=
  l_back (by decide) (by omega) (fun x _ => gw_word x) ht (fun x _ => okB_word x) (fun x _ => elB_word x)

def prfM (n : Nat) (l : List Bytes) : List (Bytes × JV) := [(nIdx, numV n), (nPath, listV (l.map wordV))]
def prfT (n : Nat) (l : List Bytes) : Bytes := objT [nIdx, nPath] [numT n, arrT (l.map wordT)]
theorem prf_gw {n : Nat} {l : List Bytes} (hn : n < 18446744073709551616) (hl : l.length ≤ 3000000) : GW 8 (objV (prfM n l)) (prfT n l) :=
  gw_obj (m := 7) (ms := prfM n l) (.cons (gw_num hn) (.cons (gw_list (m := 6) (by omega) (fun x _ => gw_word x)) .nil)) (by simp [prfM]) (by simp [prfM]; decide) (by simp [prfM]; decide)
theorem prfT_len {n : Nat} {l : List Bytes} (hn : n < 18446744073709551616) (hl : l.length ≤ 10000) (h : ∀ x ∈ l, x.length = 32) : (prfT n l).length ≤ 1000000 := by
  have h0 := numT_len hn
  have := arrT_len (g := wordT) (n := 46) l (fun x hx => by rw [wordT_len, h x hx]; decide)
  unfold prfT
  rw [objT_len]
  simp only [List.zipWith_cons_cons, List.zipWith_nil_right, List.zipWith_nil_left, tailP_len, memP_len]
  rw [show tailP [] = [] from rfl]
  simp [nIdx, nPath]
  omega
theorem prf_back {n : Nat} {l : List Bytes} (hn : n < 18446744073709551616) (hl : l.length ≤ 10000) (h : ∀ x ∈ l, x.length = 32) : badP (prfT n l) = false ∧ numL (prfT n l) nIdx = n ∧ elsL (prfT n l) nPath elH = l := by
  have hg := prf_gw hn (show l.length ≤ 3000000 by omega)
  have ht := prfT_len hn hl h
  have hv := pV_gw hg (by omega)
  have e0 : idxK ((prfM n l).map (·.1)) nIdx = some 0 := rfl
  have e1 : idxK ((prfM n l).map (·.1)) nPath = some 1 := by show idxK [nIdx, nPath] nPath = some 1; decide
  refine ⟨?_, ?_, ?_⟩
  · unfold badP
    rw [pBad_gw hg (by omega), hv, badG_obj e0 rfl, badG_obj e1 rfl, getB_obj e1 rfl]
    rw [show namesBad ((prfM n l).map (·.1)) [nIdx, nPath] = false by show namesBad [nIdx, nPath] [nIdx, nPath] = false; decide]
    show (false || decide ((numV n).kind ≠ 3) || decide ((listV (l.map wordV)).kind ≠ 5) || eachBad okH' (l.map wordV)) = false
    rw [eachBad_map (fun x hx => okH_word (h x hx)), numV_kind, listV_kind]
    rfl
  · unfold numL; rw [hv, getB_obj e0 rfl]; rfl
  · unfold elsL
    rw [hv, getB_obj e1 rfl]
    show (l.map wordV).map elH = l
    exact map_back (fun x hx => elH_word (h x hx))
theorem cons_as_prf : badP (consT []) = true := by
  unfold badP
  rw [pBad_gw (cons_gw (l := []) (by simp)) (by have := consT_len (l := []) (by simp) (by simp); omega)]
  rw [show namesBad ((lM nCons (([] : List Bytes).map wordV)).map (·.1)) [nIdx, nPath] = true by show namesBad [nCons] [nIdx, nPath] = true; decide]
  rfl
theorem prf_as_cons {n : Nat} (hn : n < 18446744073709551616) : badL (prfT n []) [nCons] nCons okH' = true := by
  unfold badL
  rw [pBad_gw (prf_gw (l := []) hn (by simp)) (by have := prfT_len (l := []) hn (by simp) (by simp); omega)]
  rw [show namesBad ((prfM n []).map (·.1)) [nCons] = true by show namesBad [nIdx, nPath] [nCons] = true; decide]
  rfl

def errM (n : Nat) : List (Bytes × JV) := [(nErr, numV n)]
def errT (n : Nat) : Bytes := objT [nErr] [numT n]
theorem err_gw {n : Nat} (hn : n < 18446744073709551616) : GW 8 (objV (errM n)) (errT n) :=
  gw_obj (m := 7) (ms := errM n) (.cons (gw_num hn) .nil) (by simp [errM]) (by simp [errM]) (by simp [errM]; decide)
theorem errT_len {n : Nat} (hn : n < 18446744073709551616) : (errT n).length ≤ 100 := by
  have h0 := numT_len hn
  unfold errT
  rw [objT_len]
  simp [nErr, tailP]
  omega
theorem err_back {n : Nat} (hn : n ≤ 2147483647) : badE (errT n) = false ∧ numL (errT n) nErr = n := by
  have hg := err_gw (n := n) (by omega)
  have ht := errT_len (n := n) (by omega)
  have hv := pV_gw hg (by omega)
  have e0 : idxK ((errM n).map (·.1)) nErr = some 0 := rfl
  have n0 : numL (errT n) nErr = n := by unfold numL; rw [hv, getB_obj e0 rfl]; rfl
  refine ⟨?_, n0⟩
  unfold badE
  rw [pBad_gw hg (by omega), hv, badG_obj e0 rfl, n0]
  rw [show namesBad ((errM n).map (·.1)) [nErr] = false by show namesBad [nErr] [nErr] = false; decide]
  rw [numV_kind, decide_eq_false (show ¬ 2147483647 < n by omega)]
  rfl

def itemM (p : Bytes × Bytes) : List (Bytes × JV) := [(nLeaf, wordV p.1), (nExtra, wordV p.2)]
def itemT (p : Bytes × Bytes) : Bytes := objT [nLeaf, nExtra] [wordT p.1, wordT p.2]
theorem item_gw (p : Bytes × Bytes) : GW 6 (objV (itemM p)) (itemT p) :=
  gw_obj (m := 5) (ms := itemM p) (.cons (gw_word _) (.cons (gw_word _) .nil)) (by simp [itemM]) (by simp [itemM]; decide) (by simp [itemM]; decide)
theorem item_ok (p : Bytes × Bytes) : badI (objV (itemM p)) = false ∧ elI (objV (itemM p)) = p := by
  have e0 : idxK ((itemM p).map (·.1)) nLeaf = some 0 := rfl
  have e1 : idxK ((itemM p).map (·.1)) nExtra = some 1 := by show idxK [nLeaf, nExtra] nExtra = some 1; decide
  have b0 := bytesB_obj e0 (k' := nLeaf) (b := p.1) rfl
  have b1 := bytesB_obj e1 (k' := nExtra) (b := p.2) rfl
  constructor
  · unfold badI
    rw [badN_obj, badG_obj e0 rfl, badG_obj e1 rfl, b0, b1]
    rw [show namesBad ((itemM p).map (·.1)) [nLeaf, nExtra] = false by show namesBad [nLeaf, nExtra] [nLeaf, nExtra] = false; decide]
    rfl
  · unfold elI leafB extraB
    rw [b0, b1]
    rfl
def entT (l : List (Bytes × Bytes)) : Bytes := lT nEnt (l.map itemT)
def itemV0 (p : Bytes × Bytes) : JV := objV (itemM p)
theorem ent_gw {l : List (Bytes × Bytes)} (hl : l.length ≤ 3000000) : GW 8 (objV (lM nEnt (l.map itemV0))) (entT l) := l_gw (by decide) (by omega) (fun x _ => item_gw x)
theorem ent_back {l : List (Bytes × Bytes)} (hl : l.length ≤ 3000000) (ht : (entT l).length ≤ 1048576) : badL (entT l) [nEnt] nEnt okI' = false ∧ elsL (entT l) nEnt elI = l :=
  l_back (f := itemV0) (by decide) (by omega) (fun x _ => item_gw x) ht (fun x _ => by unfold okI' itemV0; rw [(item_ok x).1]; rfl) (fun x _ => (item_ok x).2)
end Go.Proofs.YtjehnejgojgahaaGreatDoor

/- Y6 -/
namespace Go.Proofs.YtjehnejgojgahaaGreatDoor
open Go.RowKit
set_option linter.unusedVariables false
set_option linter.unusedSimpArgs false

/-- A text put: its bytes, new; none, if it is too long. -/
def TxtPut (t : Bytes) (w : World) (e : Ending) (w' : World) : Prop :=
  Only (fun _ => False) w w' ∧ ∃ A c, e = .returned (.slice A (outT t).length c) ∧ OwnB w' w.heap.size (.slice A (outT t).length c) (outT t)
theorem text_put {H : Nat} {v : JV} {t : Bytes} {w wm : World} {cs : List Value} (hg : GW 8 v t) (hlen : t.length ≤ 1000000000000) (ho : Only (fun _ => False) w wm) (hj : JIs (fun b => H ≤ b) wm v cs) (hG : Gl w) :
    Calls Tryz.prog 52 #[.agg cs.toArray] wm (TxtPut t w) := by
  have hGm : Gl wm := hG.only ho (fun _ _ => id)
  refine (mtext_any (X := fun b => b < wm.heap.size) (B := wm.heap.size) hg hlen (hj.mono (fun b hb _ => hb)) hGm (Nat.le_refl _) hGm.size (fun b hb => hb)).mono ?_
  rintro e w' ⟨hw, A, c, rfl, hown⟩
  exact ⟨ho.then hw.only (fun i hi h => by have := ho.size; omega), A, c, rfl, hown.mono ho.size⟩
theorem obj1 {H : Nat} {w : World} {k1 n1 : Int} {s1 : ByteArray} {A1 B1 : Option Addr} {a1 c1 b1 d1 : Nat} {m1 : Bytes} {v1 : JV} (h1 : JIs (fun b => H ≤ b) w v1 [.int .i64 k1, .string s1, .int .u64 n1, .slice A1 a1 c1, .slice B1 b1 d1]) (hH : H ≤ w.heap.size) :
    Calls Tryz.prog 53 #[.slice (some ⟨w.heap.size, 0, none⟩) 1 1] (w.alloc (.cells #[txt m1, .int .i64 k1, .string s1, .int .u64 n1, .slice A1 a1 c1, .slice B1 b1 d1] 122)) (VOut H (objV [(m1, v1)]) (w.alloc (.cells #[txt m1, .int .i64 k1, .string s1, .int .u64 n1, .slice A1 a1 c1, .slice B1 b1 d1] 122))) := by
  have hps : ∀ q ∈ [((m1, v1), [txt m1, .int .i64 k1, .string s1, .int .u64 n1, .slice A1 a1 c1, .slice B1 b1 d1])], EM (fun b => H ≤ b) (w.alloc (.cells #[txt m1, .int .i64 k1, .string s1, .int .u64 n1, .slice A1 a1 c1, .slice B1 b1 d1] 122)) q.1 q.2 := by
    intro q hq
    simp only [List.mem_cons, List.not_mem_nil, or_false] at hq
    subst hq
    exact ⟨_, rfl, h1.keep ((Only.refl _ _).alloc _)⟩
  exact object_any (ms := [(m1, v1)]) (c := 1) (rowAt_of [((m1, v1), [txt m1, .int .i64 k1, .string s1, .int .u64 n1, .slice A1 a1 c1, .slice B1 b1 d1])] (Blk.new w [txt m1, .int .i64 k1, .string s1, .int .u64 n1, .slice A1 a1 c1, .slice B1 b1 d1] 122) rfl rfl hps) (Nat.le_of_ble_eq_true rfl) (Nat.le_trans hH ((Only.refl (fun _ => False) w).alloc _).size)
theorem obj2 {H : Nat} {w : World} {k1 n1 : Int} {s1 : ByteArray} {A1 B1 : Option Addr} {a1 c1 b1 d1 : Nat} {m1 : Bytes} {v1 : JV} {k2 n2 : Int} {s2 : ByteArray} {A2 B2 : Option Addr} {a2 c2 b2 d2 : Nat} {m2 : Bytes} {v2 : JV} (h1 : JIs (fun b => H ≤ b) w v1 [.int .i64 k1, .string s1, .int .u64 n1, .slice A1 a1 c1, .slice B1 b1 d1]) (h2 : JIs (fun b => H ≤ b) w v2 [.int .i64 k2, .string s2, .int .u64 n2, .slice A2 a2 c2, .slice B2 b2 d2]) (hH : H ≤ w.heap.size) :
    Calls Tryz.prog 53 #[.slice (some ⟨w.heap.size, 0, none⟩) 2 2] (w.alloc (.cells #[txt m1, .int .i64 k1, .string s1, .int .u64 n1, .slice A1 a1 c1, .slice B1 b1 d1, txt m2, .int .i64 k2, .string s2, .int .u64 n2, .slice A2 a2 c2, .slice B2 b2 d2] 122)) (VOut H (objV [(m1, v1), (m2, v2)]) (w.alloc (.cells #[txt m1, .int .i64 k1, .string s1, .int .u64 n1, .slice A1 a1 c1, .slice B1 b1 d1, txt m2, .int .i64 k2, .string s2, .int .u64 n2, .slice A2 a2 c2, .slice B2 b2 d2] 122))) := by
  have hps : ∀ q ∈ [((m1, v1), [txt m1, .int .i64 k1, .string s1, .int .u64 n1, .slice A1 a1 c1, .slice B1 b1 d1]), ((m2, v2), [txt m2, .int .i64 k2, .string s2, .int .u64 n2, .slice A2 a2 c2, .slice B2 b2 d2])], EM (fun b => H ≤ b) (w.alloc (.cells #[txt m1, .int .i64 k1, .string s1, .int .u64 n1, .slice A1 a1 c1, .slice B1 b1 d1, txt m2, .int .i64 k2, .string s2, .int .u64 n2, .slice A2 a2 c2, .slice B2 b2 d2] 122)) q.1 q.2 := by
    intro q hq
    simp only [List.mem_cons, List.not_mem_nil, or_false] at hq
    rcases hq with rfl | rfl
    · exact ⟨_, rfl, h1.keep ((Only.refl _ _).alloc _)⟩
    · exact ⟨_, rfl, h2.keep ((Only.refl _ _).alloc _)⟩
  exact object_any (ms := [(m1, v1), (m2, v2)]) (c := 2) (rowAt_of [((m1, v1), [txt m1, .int .i64 k1, .string s1, .int .u64 n1, .slice A1 a1 c1, .slice B1 b1 d1]), ((m2, v2), [txt m2, .int .i64 k2, .string s2, .int .u64 n2, .slice A2 a2 c2, .slice B2 b2 d2])] (Blk.new w [txt m1, .int .i64 k1, .string s1, .int .u64 n1, .slice A1 a1 c1, .slice B1 b1 d1, txt m2, .int .i64 k2, .string s2, .int .u64 n2, .slice A2 a2 c2, .slice B2 b2 d2] 122) rfl rfl hps) (Nat.le_of_ble_eq_true rfl) (Nat.le_trans hH ((Only.refl (fun _ => False) w).alloc _).size)
theorem obj4 {H : Nat} {w : World} {k1 n1 : Int} {s1 : ByteArray} {A1 B1 : Option Addr} {a1 c1 b1 d1 : Nat} {m1 : Bytes} {v1 : JV} {k2 n2 : Int} {s2 : ByteArray} {A2 B2 : Option Addr} {a2 c2 b2 d2 : Nat} {m2 : Bytes} {v2 : JV} {k3 n3 : Int} {s3 : ByteArray} {A3 B3 : Option Addr} {a3 c3 b3 d3 : Nat} {m3 : Bytes} {v3 : JV} {k4 n4 : Int} {s4 : ByteArray} {A4 B4 : Option Addr} {a4 c4 b4 d4 : Nat} {m4 : Bytes} {v4 : JV} (h1 : JIs (fun b => H ≤ b) w v1 [.int .i64 k1, .string s1, .int .u64 n1, .slice A1 a1 c1, .slice B1 b1 d1]) (h2 : JIs (fun b => H ≤ b) w v2 [.int .i64 k2, .string s2, .int .u64 n2, .slice A2 a2 c2, .slice B2 b2 d2]) (h3 : JIs (fun b => H ≤ b) w v3 [.int .i64 k3, .string s3, .int .u64 n3, .slice A3 a3 c3, .slice B3 b3 d3]) (h4 : JIs (fun b => H ≤ b) w v4 [.int .i64 k4, .string s4, .int .u64 n4, .slice A4 a4 c4, .slice B4 b4 d4]) (hH : H ≤ w.heap.size) :
    Calls Tryz.prog 53 #[.slice (some ⟨w.heap.size, 0, none⟩) 4 4] (w.alloc (.cells #[txt m1, .int .i64 k1, .string s1, .int .u64 n1, .slice A1 a1 c1, .slice B1 b1 d1, txt m2, .int .i64 k2, .string s2, .int .u64 n2, .slice A2 a2 c2, .slice B2 b2 d2, txt m3, .int .i64 k3, .string s3, .int .u64 n3, .slice A3 a3 c3, .slice B3 b3 d3, txt m4, .int .i64 k4, .string s4, .int .u64 n4, .slice A4 a4 c4, .slice B4 b4 d4] 122)) (VOut H (objV [(m1, v1), (m2, v2), (m3, v3), (m4, v4)]) (w.alloc (.cells #[txt m1, .int .i64 k1, .string s1, .int .u64 n1, .slice A1 a1 c1, .slice B1 b1 d1, txt m2, .int .i64 k2, .string s2, .int .u64 n2, .slice A2 a2 c2, .slice B2 b2 d2, txt m3, .int .i64 k3, .string s3, .int .u64 n3, .slice A3 a3 c3, .slice B3 b3 d3, txt m4, .int .i64 k4, .string s4, .int .u64 n4, .slice A4 a4 c4, .slice B4 b4 d4] 122))) := by
  have hps : ∀ q ∈ [((m1, v1), [txt m1, .int .i64 k1, .string s1, .int .u64 n1, .slice A1 a1 c1, .slice B1 b1 d1]), ((m2, v2), [txt m2, .int .i64 k2, .string s2, .int .u64 n2, .slice A2 a2 c2, .slice B2 b2 d2]), ((m3, v3), [txt m3, .int .i64 k3, .string s3, .int .u64 n3, .slice A3 a3 c3, .slice B3 b3 d3]), ((m4, v4), [txt m4, .int .i64 k4, .string s4, .int .u64 n4, .slice A4 a4 c4, .slice B4 b4 d4])], EM (fun b => H ≤ b) (w.alloc (.cells #[txt m1, .int .i64 k1, .string s1, .int .u64 n1, .slice A1 a1 c1, .slice B1 b1 d1, txt m2, .int .i64 k2, .string s2, .int .u64 n2, .slice A2 a2 c2, .slice B2 b2 d2, txt m3, .int .i64 k3, .string s3, .int .u64 n3, .slice A3 a3 c3, .slice B3 b3 d3, txt m4, .int .i64 k4, .string s4, .int .u64 n4, .slice A4 a4 c4, .slice B4 b4 d4] 122)) q.1 q.2 := by
    intro q hq
    simp only [List.mem_cons, List.not_mem_nil, or_false] at hq
    rcases hq with rfl | rfl | rfl | rfl
    · exact ⟨_, rfl, h1.keep ((Only.refl _ _).alloc _)⟩
    · exact ⟨_, rfl, h2.keep ((Only.refl _ _).alloc _)⟩
    · exact ⟨_, rfl, h3.keep ((Only.refl _ _).alloc _)⟩
    · exact ⟨_, rfl, h4.keep ((Only.refl _ _).alloc _)⟩
  exact object_any (ms := [(m1, v1), (m2, v2), (m3, v3), (m4, v4)]) (c := 4) (rowAt_of [((m1, v1), [txt m1, .int .i64 k1, .string s1, .int .u64 n1, .slice A1 a1 c1, .slice B1 b1 d1]), ((m2, v2), [txt m2, .int .i64 k2, .string s2, .int .u64 n2, .slice A2 a2 c2, .slice B2 b2 d2]), ((m3, v3), [txt m3, .int .i64 k3, .string s3, .int .u64 n3, .slice A3 a3 c3, .slice B3 b3 d3]), ((m4, v4), [txt m4, .int .i64 k4, .string s4, .int .u64 n4, .slice A4 a4 c4, .slice B4 b4 d4])] (Blk.new w [txt m1, .int .i64 k1, .string s1, .int .u64 n1, .slice A1 a1 c1, .slice B1 b1 d1, txt m2, .int .i64 k2, .string s2, .int .u64 n2, .slice A2 a2 c2, .slice B2 b2 d2, txt m3, .int .i64 k3, .string s3, .int .u64 n3, .slice A3 a3 c3, .slice B3 b3 d3, txt m4, .int .i64 k4, .string s4, .int .u64 n4, .slice A4 a4 c4, .slice B4 b4 d4] 122) rfl rfl hps) (Nat.le_of_ble_eq_true rfl) (Nat.le_trans hH ((Only.refl (fun _ => False) w).alloc _).size)
theorem obj5 {H : Nat} {w : World} {k1 n1 : Int} {s1 : ByteArray} {A1 B1 : Option Addr} {a1 c1 b1 d1 : Nat} {m1 : Bytes} {v1 : JV} {k2 n2 : Int} {s2 : ByteArray} {A2 B2 : Option Addr} {a2 c2 b2 d2 : Nat} {m2 : Bytes} {v2 : JV} {k3 n3 : Int} {s3 : ByteArray} {A3 B3 : Option Addr} {a3 c3 b3 d3 : Nat} {m3 : Bytes} {v3 : JV} {k4 n4 : Int} {s4 : ByteArray} {A4 B4 : Option Addr} {a4 c4 b4 d4 : Nat} {m4 : Bytes} {v4 : JV} {k5 n5 : Int} {s5 : ByteArray} {A5 B5 : Option Addr} {a5 c5 b5 d5 : Nat} {m5 : Bytes} {v5 : JV} (h1 : JIs (fun b => H ≤ b) w v1 [.int .i64 k1, .string s1, .int .u64 n1, .slice A1 a1 c1, .slice B1 b1 d1]) (h2 : JIs (fun b => H ≤ b) w v2 [.int .i64 k2, .string s2, .int .u64 n2, .slice A2 a2 c2, .slice B2 b2 d2]) (h3 : JIs (fun b => H ≤ b) w v3 [.int .i64 k3, .string s3, .int .u64 n3, .slice A3 a3 c3, .slice B3 b3 d3]) (h4 : JIs (fun b => H ≤ b) w v4 [.int .i64 k4, .string s4, .int .u64 n4, .slice A4 a4 c4, .slice B4 b4 d4]) (h5 : JIs (fun b => H ≤ b) w v5 [.int .i64 k5, .string s5, .int .u64 n5, .slice A5 a5 c5, .slice B5 b5 d5]) (hH : H ≤ w.heap.size) :
    Calls Tryz.prog 53 #[.slice (some ⟨w.heap.size, 0, none⟩) 5 5] (w.alloc (.cells #[txt m1, .int .i64 k1, .string s1, .int .u64 n1, .slice A1 a1 c1, .slice B1 b1 d1, txt m2, .int .i64 k2, .string s2, .int .u64 n2, .slice A2 a2 c2, .slice B2 b2 d2, txt m3, .int .i64 k3, .string s3, .int .u64 n3, .slice A3 a3 c3, .slice B3 b3 d3, txt m4, .int .i64 k4, .string s4, .int .u64 n4, .slice A4 a4 c4, .slice B4 b4 d4, txt m5, .int .i64 k5, .string s5, .int .u64 n5, .slice A5 a5 c5, .slice B5 b5 d5] 122)) (VOut H (objV [(m1, v1), (m2, v2), (m3, v3), (m4, v4), (m5, v5)]) (w.alloc (.cells #[txt m1, .int .i64 k1, .string s1, .int .u64 n1, .slice A1 a1 c1, .slice B1 b1 d1, txt m2, .int .i64 k2, .string s2, .int .u64 n2, .slice A2 a2 c2, .slice B2 b2 d2, txt m3, .int .i64 k3, .string s3, .int .u64 n3, .slice A3 a3 c3, .slice B3 b3 d3, txt m4, .int .i64 k4, .string s4, .int .u64 n4, .slice A4 a4 c4, .slice B4 b4 d4, txt m5, .int .i64 k5, .string s5, .int .u64 n5, .slice A5 a5 c5, .slice B5 b5 d5] 122))) := by
  have hps : ∀ q ∈ [((m1, v1), [txt m1, .int .i64 k1, .string s1, .int .u64 n1, .slice A1 a1 c1, .slice B1 b1 d1]), ((m2, v2), [txt m2, .int .i64 k2, .string s2, .int .u64 n2, .slice A2 a2 c2, .slice B2 b2 d2]), ((m3, v3), [txt m3, .int .i64 k3, .string s3, .int .u64 n3, .slice A3 a3 c3, .slice B3 b3 d3]), ((m4, v4), [txt m4, .int .i64 k4, .string s4, .int .u64 n4, .slice A4 a4 c4, .slice B4 b4 d4]), ((m5, v5), [txt m5, .int .i64 k5, .string s5, .int .u64 n5, .slice A5 a5 c5, .slice B5 b5 d5])], EM (fun b => H ≤ b) (w.alloc (.cells #[txt m1, .int .i64 k1, .string s1, .int .u64 n1, .slice A1 a1 c1, .slice B1 b1 d1, txt m2, .int .i64 k2, .string s2, .int .u64 n2, .slice A2 a2 c2, .slice B2 b2 d2, txt m3, .int .i64 k3, .string s3, .int .u64 n3, .slice A3 a3 c3, .slice B3 b3 d3, txt m4, .int .i64 k4, .string s4, .int .u64 n4, .slice A4 a4 c4, .slice B4 b4 d4, txt m5, .int .i64 k5, .string s5, .int .u64 n5, .slice A5 a5 c5, .slice B5 b5 d5] 122)) q.1 q.2 := by
    intro q hq
    simp only [List.mem_cons, List.not_mem_nil, or_false] at hq
    rcases hq with rfl | rfl | rfl | rfl | rfl
    · exact ⟨_, rfl, h1.keep ((Only.refl _ _).alloc _)⟩
    · exact ⟨_, rfl, h2.keep ((Only.refl _ _).alloc _)⟩
    · exact ⟨_, rfl, h3.keep ((Only.refl _ _).alloc _)⟩
    · exact ⟨_, rfl, h4.keep ((Only.refl _ _).alloc _)⟩
    · exact ⟨_, rfl, h5.keep ((Only.refl _ _).alloc _)⟩
  exact object_any (ms := [(m1, v1), (m2, v2), (m3, v3), (m4, v4), (m5, v5)]) (c := 5) (rowAt_of [((m1, v1), [txt m1, .int .i64 k1, .string s1, .int .u64 n1, .slice A1 a1 c1, .slice B1 b1 d1]), ((m2, v2), [txt m2, .int .i64 k2, .string s2, .int .u64 n2, .slice A2 a2 c2, .slice B2 b2 d2]), ((m3, v3), [txt m3, .int .i64 k3, .string s3, .int .u64 n3, .slice A3 a3 c3, .slice B3 b3 d3]), ((m4, v4), [txt m4, .int .i64 k4, .string s4, .int .u64 n4, .slice A4 a4 c4, .slice B4 b4 d4]), ((m5, v5), [txt m5, .int .i64 k5, .string s5, .int .u64 n5, .slice A5 a5 c5, .slice B5 b5 d5])] (Blk.new w [txt m1, .int .i64 k1, .string s1, .int .u64 n1, .slice A1 a1 c1, .slice B1 b1 d1, txt m2, .int .i64 k2, .string s2, .int .u64 n2, .slice A2 a2 c2, .slice B2 b2 d2, txt m3, .int .i64 k3, .string s3, .int .u64 n3, .slice A3 a3 c3, .slice B3 b3 d3, txt m4, .int .i64 k4, .string s4, .int .u64 n4, .slice A4 a4 c4, .slice B4 b4 d4, txt m5, .int .i64 k5, .string s5, .int .u64 n5, .slice A5 a5 c5, .slice B5 b5 d5] 122) rfl rfl hps) (Nat.le_of_ble_eq_true rfl) (Nat.le_trans hH ((Only.refl (fun _ => False) w).alloc _).size)
set_option maxRecDepth 100000 in
set_option maxHeartbeats 1600000 in
theorem putCons_any {Y : Nat → Prop} {A : Option Addr} {c : Nat} {l : List Bytes} {w : World} (hR : RowAt ED 32 Y w A l) (hl : l.length ≤ 3000000) (hG : Gl w) (hT : (consT l).length ≤ 1000000000000) :
    Calls Tryz.prog 22 #[.slice A l.length c] w (TxtPut (consT l) w) := by
  have HGW := Lib.hid (show GW 8 (objV [(nCons, listV (l.map wordV))]) (consT l) from cons_gw hl)
  have HT := Lib.hid hT
  have HG := Lib.hid hG
  have HR := Lib.hid hR
  have HL := Lib.hid hl
  clear hR hl
  clear hG hT
  go_enter Tryz.func22, Tryz.ntmps22
  go_wp2_with (first
    | (go_at_call 58; refine (list_hash HR.out HL.out).mono ?_; rintro e w2 ⟨ho2, cs2, rfl, hj2⟩; obtain ⟨k1, s1, n1, A1, a1, c1, B1, b1, d1, rfl⟩ := hj2.out5; have HO2 := Lib.hid ho2; have HJ2 := Lib.hid hj2; clear ho2 hj2)
    | (go_at_call 53; refine (obj1 (H := w.heap.size) (m1 := nCons) HJ2.out HO2.out.size).mono ?_; rintro e w3 ⟨ho3, cs3, rfl, hj3⟩; obtain ⟨k3, s3, n3, A3, a3, c3, B3, b3, d3, rfl⟩ := hj3.out5; have HO3 := Lib.hid ((HO2.out.alloc _).trans ho3); have HJ3 := Lib.hid hj3; clear ho3 hj3)
    | (go_at_call 52; refine (text_put HGW.out HT.out HO3.out HJ3.out HG.out).mono ?_; rintro e w4 ⟨ho4, A4, c4, rfl, hown4⟩; have HO4 := Lib.hid ho4; have HW4 := Lib.hid hown4; clear ho4 hown4))
  go_ret
  exact ⟨HO4.out, _, _, rfl, HW4.out⟩
set_option maxRecDepth 100000 in
set_option maxHeartbeats 1600000 in
theorem askChain_any {Y : Nat → Prop} {A : Option Addr} {c : Nat} {l : List Bytes} {w : World} (hR : RowAt EB 1 Y w A l) (hl : l.length ≤ 3000000) (hs : ∀ x ∈ l, x.length ≤ 1000000000) (hG : Gl w) (hT : (chT l).length ≤ 1000000000000) :
    Calls Tryz.prog 51 #[.slice A l.length c] w (TxtPut (chT l) w) := by
  have HGW := Lib.hid (show GW 8 (objV [(nChain, listV (l.map wordV))]) (chT l) from ch_gw hl)
  have HT := Lib.hid hT
  have HG := Lib.hid hG
  have HR := Lib.hid hR
  have HL := Lib.hid hl
  have HS := Lib.hid hs
  clear hR hl hs
  clear hG hT
  go_enter Tryz.func51, Tryz.ntmps51
  go_wp2_with (first
    | (go_at_call 77; refine (list_bytes HR.out HL.out HS.out).mono ?_; rintro e w2 ⟨ho2, cs2, rfl, hj2⟩; obtain ⟨k1, s1, n1, A1, a1, c1, B1, b1, d1, rfl⟩ := hj2.out5; have HO2 := Lib.hid ho2; have HJ2 := Lib.hid hj2; clear ho2 hj2)
    | (go_at_call 53; refine (obj1 (H := w.heap.size) (m1 := nChain) HJ2.out HO2.out.size).mono ?_; rintro e w3 ⟨ho3, cs3, rfl, hj3⟩; obtain ⟨k3, s3, n3, A3, a3, c3, B3, b3, d3, rfl⟩ := hj3.out5; have HO3 := Lib.hid ((HO2.out.alloc _).trans ho3); have HJ3 := Lib.hid hj3; clear ho3 hj3)
    | (go_at_call 52; refine (text_put HGW.out HT.out HO3.out HJ3.out HG.out).mono ?_; rintro e w4 ⟨ho4, A4, c4, rfl, hown4⟩; have HO4 := Lib.hid ho4; have HW4 := Lib.hid hown4; clear ho4 hown4))
  go_ret
  exact ⟨HO4.out, _, _, rfl, HW4.out⟩
set_option maxRecDepth 100000 in
set_option maxHeartbeats 1600000 in
theorem putEnt_any {Y : Nat → Prop} {A : Option Addr} {c : Nat} {l : List (Bytes × Bytes)} {w : World} (hR : RowAt EI 2 Y w A l) (hl : l.length ≤ 3000000) (hs : ∀ x ∈ l, x.1.length ≤ 1000000000 ∧ x.2.length ≤ 1000000000) (hG : Gl w) (hT : (entT l).length ≤ 1000000000000) :
    Calls Tryz.prog 24 #[.slice A l.length c] w (TxtPut (entT l) w) := by
  have HGW := Lib.hid (show GW 8 (objV [(nEnt, listV (l.map itemV))]) (entT l) from ent_gw hl)
  have HT := Lib.hid hT
  have HG := Lib.hid hG
  have HR := Lib.hid hR
  have HL := Lib.hid hl
  have HS := Lib.hid hs
  clear hR hl hs
  clear hG hT
  go_enter Tryz.func24, Tryz.ntmps24
  go_wp2_with (first
    | (go_at_call 59; refine (list_items HR.out HL.out HS.out).mono ?_; rintro e w2 ⟨ho2, cs2, rfl, hj2⟩; obtain ⟨k1, s1, n1, A1, a1, c1, B1, b1, d1, rfl⟩ := hj2.out5; have HO2 := Lib.hid ho2; have HJ2 := Lib.hid hj2; clear ho2 hj2)
    | (go_at_call 53; refine (obj1 (H := w.heap.size) (m1 := nEnt) HJ2.out HO2.out.size).mono ?_; rintro e w3 ⟨ho3, cs3, rfl, hj3⟩; obtain ⟨k3, s3, n3, A3, a3, c3, B3, b3, d3, rfl⟩ := hj3.out5; have HO3 := Lib.hid ((HO2.out.alloc _).trans ho3); have HJ3 := Lib.hid hj3; clear ho3 hj3)
    | (go_at_call 52; refine (text_put HGW.out HT.out HO3.out HJ3.out HG.out).mono ?_; rintro e w4 ⟨ho4, A4, c4, rfl, hown4⟩; have HO4 := Lib.hid ho4; have HW4 := Lib.hid hown4; clear ho4 hown4))
  go_ret
  exact ⟨HO4.out, _, _, rfl, HW4.out⟩
set_option maxRecDepth 100000 in
set_option maxHeartbeats 1600000 in
theorem putErr_any {n : Nat} {w : World} (hn : n ≤ 2147483647) (hG : Gl w) (hT : (errT n).length ≤ 1000000000000) :
    Calls Tryz.prog 25 #[.int .i64 (n : Int)] w (TxtPut (errT n) w) := by
  have HGW := Lib.hid (show GW 8 (objV [(nErr, numV n)]) (errT n) from err_gw (by omega))
  have HT := Lib.hid hT
  have HG := Lib.hid hG
  have HN := Lib.hid hn
  have hn1 : (0 : Int) ≤ (n : Int) := by omega
  have hn2 : (n : Int) ≤ 2147483647 := by omega
  clear hn
  clear hG hT
  go_enter Tryz.func25, Tryz.ntmps25
  go_wp2_with (first
    | (go_at_call 54; refine (numV_any (n := n)).mono ?_; rintro e w2 ⟨ho2, cs2, rfl, hj2⟩; obtain ⟨k1, s1, n1, A1, a1, c1, B1, b1, d1, rfl⟩ := hj2.out5; have HO2 := Lib.hid ho2; have HJ2 := Lib.hid hj2; clear ho2 hj2)
    | (go_at_call 53; refine (obj1 (H := w.heap.size) (m1 := nErr) HJ2.out HO2.out.size).mono ?_; rintro e w3 ⟨ho3, cs3, rfl, hj3⟩; obtain ⟨k3, s3, n3, A3, a3, c3, B3, b3, d3, rfl⟩ := hj3.out5; have HO3 := Lib.hid ((HO2.out.alloc _).trans ho3); have HJ3 := Lib.hid hj3; clear ho3 hj3)
    | (go_at_call 52; refine (text_put HGW.out HT.out HO3.out HJ3.out HG.out).mono ?_; rintro e w4 ⟨ho4, A4, c4, rfl, hown4⟩; have HO4 := Lib.hid ho4; have HW4 := Lib.hid hown4; clear ho4 hown4))
  go_ret
  exact ⟨HO4.out, _, _, rfl, HW4.out⟩
set_option maxRecDepth 100000 in
set_option maxHeartbeats 1600000 in
theorem putPrf_any {Y : Nat → Prop} {A : Option Addr} {c n : Nat} {l : List Bytes} {w : World} (hR : RowAt ED 32 Y w A l) (hl : l.length ≤ 3000000) (hn : n < 18446744073709551616) (hG : Gl w) (hT : (prfT n l).length ≤ 1000000000000) :
    Calls Tryz.prog 23 #[.int .u64 n, .slice A l.length c] w (TxtPut (prfT n l) w) := by
  have HGW := Lib.hid (show GW 8 (objV [(nIdx, numV n), (nPath, listV (l.map wordV))]) (prfT n l) from prf_gw hn hl)
  have HT := Lib.hid hT
  have HG := Lib.hid hG
  have HR := Lib.hid hR
  have HL := Lib.hid hl
  clear hG hT hR hl hn
  go_enter Tryz.func23, Tryz.ntmps23
  go_wp2_with (first
    | (go_at_call 54; refine (numV_any (n := n)).mono ?_; rintro e w1 ⟨ho1, cs1, rfl, hj1⟩; obtain ⟨k1, s1, n1, A1, a1, c1, B1, b1, d1, rfl⟩ := hj1.out5; have HO1 := Lib.hid ho1; have HJ1 := Lib.hid hj1; have HR1 := Lib.hid (show RowAt ED 32 (fun _ => True) w1 A l from fun i a ha => (HR.out i a ha).elim fun b hb => hb.elim fun o ho => ho.elim fun cs hcs => ⟨b, o, cs, hcs.1, rangeAt.keep hcs.2.1 ho1, hcs.2.2.1, hcs.2.2.2⟩); clear ho1 hj1)
    | (go_at_call 58; refine (list_hash HR1.out HL.out).mono ?_; rintro e w2 ⟨ho2, cs2, rfl, hj2⟩; obtain ⟨k2, s2, n2, A2, a2, c2, B2, b2, d2, rfl⟩ := hj2.out5; have HO2 := Lib.hid (HO1.out.trans ho2); have HJ12 := Lib.hid (HJ1.out.keep ho2); have HJ2 := Lib.hid (hj2.mono (Y := fun b => w.heap.size ≤ b) (fun b _ hb => Nat.le_trans HO1.out.size hb)); clear ho2 hj2)
    | (go_at_call 53; refine (obj2 (H := w.heap.size) (m1 := nIdx) (m2 := nPath) HJ12.out HJ2.out HO2.out.size).mono ?_; rintro e w3 ⟨ho3, cs3, rfl, hj3⟩; obtain ⟨k3, s3, n3, A3, a3, c3, B3, b3, d3, rfl⟩ := hj3.out5; have HO3 := Lib.hid ((HO2.out.alloc _).trans ho3); have HJ3 := Lib.hid hj3; clear ho3 hj3)
    | (go_at_call 52; refine (text_put HGW.out HT.out HO3.out HJ3.out HG.out).mono ?_; rintro e w4 ⟨ho4, A4, c4, rfl, hown4⟩; have HO4 := Lib.hid ho4; have HW4 := Lib.hid hown4; clear ho4 hown4))
  go_ret
  exact ⟨HO4.out, _, _, rfl, HW4.out⟩
end Go.Proofs.YtjehnejgojgahaaGreatDoor

/- Y7 -/
namespace Go.Proofs.YtjehnejgojgahaaGreatDoor
open Go.RowKit
set_option linter.unusedVariables false
set_option linter.unusedSimpArgs false

theorem under26x : Tryz.prog.underlying 26 = some (.array 64 5) := by kernel_rfl
theorem num0_any {w : World} : Calls Tryz.prog 54 #[.int .u64 0] w (VOut w.heap.size (numV 0) w) := numV_any (n := 0)
theorem word0_any {w : World} : Calls Tryz.prog 56 #[.slice none 0 0] w (VOut w.heap.size (wordV []) w) := wordV_any (A := none) (c := 0) (l := []) (fun i x h => by simp at h) (Nat.le_refl _) (by simp)
theorem wordM_any {A : Option Addr} {c : Nat} {s : Bytes} {w : World} (hs : s.length = 64) (hB : BytesAt w A (mk4 ++ s)) (hc : 68 ≤ c) : Calls Tryz.prog 56 #[.slice A 68 c] w (VOut w.heap.size (wordV (mk4 ++ s)) w) := by
  have hl : (mk4 ++ s).length = 68 := by simp [mk4, hs]
  have := wordV_any (A := A) (c := c) hB (by omega) (by omega)
  rw [hl] at this
  exact this
theorem Blk.range3 {w : World} {g : Nat} {a b c : List Value} {T : TypeId} (h : Blk w g (a ++ b ++ c) T) : w.rangeAt g a.length b := by
  intro j y hy
  have hj := (List.getElem?_eq_some_iff.1 hy).1
  refine h.cell _ ?_
  rw [List.append_assoc, List.getElem?_append_right (by omega), Nat.add_sub_cancel_left, List.getElem?_append_left hj]
  exact hy
set_option maxRecDepth 100000 in
set_option maxHeartbeats 12800000 in
theorem putSct_any {i s : Bytes} {n : Nat} {w : World} (hn : n < 18446744073709551616) (hi : i.length = 32) (hs : s.length = 64) (hG : Gl w) : Calls Tryz.prog 20 #[.agg (sctC i n s).toArray] w (TxtPut (sctT i n s) w) := by
  have HGW := Lib.hid (show GW 8 (objV [(nVer, numV 0), (nId, wordV i), (nTime, numV n), (nExt, wordV []), (nSig, wordV (mk4 ++ s))]) (sctT i n s) from sct_gw hn)
  have HT := Lib.hid (show (sctT i n s).length ≤ 1000000000000 by have := sctT_len hn hi hs; omega)
  have HG := Lib.hid hG
  have HI := Lib.hid hi
  have HS := Lib.hid hs
  have hi24 := info24l hi
  have hi26 := info26l hs
  have HR := Lib.hid (fun (w' : World) (g : Nat) (h : Blk w' g (sctC i n s) 28) => (show w'.rangeAt g 0 (u8s i) ∧ w'.cell? ⟨g, 32, none⟩ = some (.int .u64 n) ∧ w'.rangeAt g 33 (u8s s) from by
    have h1 : Blk w' g ([] ++ u8s i ++ (.int .u64 n :: u8s s)) 28 := h
    have h2 : Blk w' g (u8s i ++ [.int .u64 n] ++ u8s s) 28 := by
      have e : sctC i n s = u8s i ++ [.int .u64 n] ++ u8s s := by simp [sctC]
      rw [← e]; exact h
    have h3 : Blk w' g ((u8s i ++ [.int .u64 n]) ++ u8s s ++ []) 28 := by rw [List.append_nil]; exact h2
    have k2 := h2.range3 0 _ rfl
    have k3 := h3.range3
    rw [u8s_length, hi] at k2
    rw [List.length_append, u8s_length, hi] at k3
    exact ⟨h1.range3, k2, k3⟩))
  clear hn hi hs
  clear hG
  go_enter Tryz.func20, Tryz.ntmps20
  go_upto_region 1 with (refine wpList_box_blk rfl 28 1 (.tmp 0) rfl rfl rfl ?_; intro w1 hb1 ho1 hs1; have HB1 := Lib.hid hb1; have HO1 := Lib.hid ho1; clear hb1 ho1 hs1)
  have HK := Lib.hid (fun w' (h : Only (fun _ => False) w1 w') => (show w'.rangeAt w.heap.size 0 (u8s i) ∧ w'.cell? ⟨w.heap.size, 32, none⟩ = some (.int .u64 n) ∧ w'.rangeAt w.heap.size 33 (u8s s) from HR.out w' w.heap.size (HB1.out.only h id)))
  generalize w.heap.size = g at HB1 HK ⊢
  have HOO0 := Lib.hid ((Only.refl (fun _ => False) w1).drew)
  refine wp_region_held_drew (S := fun w' => w'.rangeAt g 0 (u8s i) ∧ w'.cell? ⟨g, 32, none⟩ = some (.int .u64 n) ∧ w'.rangeAt g 33 (u8s s)) (by kernel_rfl) (HK.out _ ((Only.refl _ _).drew)) (fun hHeld => ?_)
  refine wpAnyH_take (i := 2) (oi := { dst := some 5, op := Op.fieldAddr 28 (Operand.tmp 1) 0, type := 0, pos := "message.go:64", after := #[], guard := none }) (v := .pointer (some ⟨g, 0, none⟩)) rfl (by kernel_rfl) (by kernel_rfl) (by kernel_rfl) (fun _ _ _ h => h) (Or.inl ⟨by rfl, ?y2⟩) (by assumption) ?r2
  case y2 => intro w hSw; go_simp
  try simp only [Act.put, List.setIfInBounds_toArray, List.set_cons_zero, List.set_cons_succ]
  refine wpAnyH_take (i := 3) (oi := { dst := some 6, op := Op.load 24 (Operand.tmp 5), type := 24, pos := "message.go:64", after := #[{ on := 2, ground := Ground.data }], guard := none }) (v := .agg (u8s i).toArray) rfl (by kernel_rfl) (by kernel_rfl) (by kernel_rfl) (fun _ _ _ h => h) (yieldsIf_load_mid (by rfl) 24 (.tmp 5) rfl g 0 rfl (u8s i) _ (fun w h => h.1) under24x rfl hi24) (by assumption) ?r3
  try simp only [Act.put, List.setIfInBounds_toArray, List.set_cons_zero, List.set_cons_succ]
  refine wpAnyH_take (i := 6) (oi := { dst := some 9, op := Op.fieldAddr 28 (Operand.tmp 1) 1, type := 0, pos := "message.go:64", after := #[], guard := none }) (v := .pointer (some ⟨g, 32, none⟩)) rfl (by kernel_rfl) (by kernel_rfl) (by kernel_rfl) (fun _ _ _ h => h) (Or.inl ⟨by rfl, ?y6⟩) (by assumption) ?r6
  case y6 => intro w hSw; go_simp
  try simp only [Act.put, List.setIfInBounds_toArray, List.set_cons_zero, List.set_cons_succ]
  refine wpAnyH_take (i := 7) (oi := { dst := some 10, op := Op.load 25 (Operand.tmp 9), type := 25, pos := "message.go:64", after := #[{ on := 6, ground := Ground.data }], guard := none }) (v := .int .u64 n) rfl (by kernel_rfl) (by kernel_rfl) (by kernel_rfl) (fun _ _ _ h => h) (Or.inl ⟨by rfl, ?y7⟩) (by assumption) ?r7
  case y7 => intro w hSw; go_simp
  try simp only [Act.put, List.setIfInBounds_toArray, List.set_cons_zero, List.set_cons_succ]
  refine wpAnyH_take (i := 12) (oi := { dst := some 15, op := Op.fieldAddr 28 (Operand.tmp 1) 2, type := 0, pos := "message.go:64", after := #[], guard := none }) (v := .pointer (some ⟨g, 33, none⟩)) rfl (by kernel_rfl) (by kernel_rfl) (by kernel_rfl) (fun _ _ _ h => h) (Or.inl ⟨by rfl, ?y12⟩) (by assumption) ?r12
  case y12 => intro w hSw; go_simp
  try simp only [Act.put, List.setIfInBounds_toArray, List.set_cons_zero, List.set_cons_succ]
  refine wpAnyH_take (i := 13) (oi := { dst := some 16, op := Op.load 26 (Operand.tmp 15), type := 26, pos := "message.go:64", after := #[{ on := 12, ground := Ground.data }], guard := none }) (v := .agg (u8s s).toArray) rfl (by kernel_rfl) (by kernel_rfl) (by kernel_rfl) (fun _ _ _ h => h) (yieldsIf_load_mid (by rfl) 26 (.tmp 15) rfl g 33 rfl (u8s s) _ (fun w h => h.2.2) under26x rfl hi26) (by assumption) ?r13
  try simp only [Act.put, List.setIfInBounds_toArray, List.set_cons_zero, List.set_cons_succ]
  refine wpAnyH_ready (rs := [0]) (by kernel_rfl) (by simp) ?_
  refine AllReadyH.cons (o := { dst := some 3, op := Op.call { callee := Callee.value (Operand.func 54), args := #[Operand.const (Value.int IntKind.u64 0)], argTypes := #[25] }, type := 79, pos := "message.go:64", after := #[], guard := none }) rfl (fun K hK => ?_) AllReadyH.nil
  go_simp
  (go_at_call 54; refine (num0_any).mono ?_; rintro e y1 ⟨ho, cs1, rfl, hj⟩; obtain ⟨k1, s1, n1, A1, a1, c1, B1, b1, d1, rfl⟩ := hj.out5; have HT1 := Lib.hid ho; have HJ1 := Lib.hid (hj.mono (Y := fun b => w1.heap.size ≤ b) (fun b _ hb => Nat.le_trans (HOO0.out).size hb)); have HOO1 := Lib.hid (HOO0.out.trans ho); clear ho hj)
  refine hK.out _ _ (HK.out _ HOO1.out) (fun hHeld0 => ?_)
  clear hK K
  try simp only [Act.put, List.setIfInBounds_toArray, List.set_cons_zero, List.set_cons_succ]
  refine wpAnyH_take (i := 1) (oi := { dst := some 4, op := Op.build 122 #[(0, Operand.const (Value.string { data := #[115, 99, 116, 95, 118, 101, 114, 115, 105, 111, 110] })), (1, Operand.tmp 3)], type := 122, pos := "message.go:64", after := #[{ on := 0, ground := Ground.data }], guard := none }) (v := .agg #[.string ⟨#[115, 99, 116, 95, 118, 101, 114, 115, 105, 111, 110]⟩, .int .i64 k1, .string s1, .int .u64 n1, .slice A1 a1 c1, .slice B1 b1 d1]) rfl (by kernel_rfl) (by kernel_rfl) (by kernel_rfl) (fun _ _ _ h => h) (Or.inl ⟨by rfl, ?y1⟩) (by assumption) ?r1
  case y1 => intro w hSw; go_simp
  try simp only [Act.put, List.setIfInBounds_toArray, List.set_cons_zero, List.set_cons_succ]
  refine wpAnyH_ready (rs := [4]) (by kernel_rfl) (by simp) ?_
  refine AllReadyH.cons (o := { dst := some 7, op := Op.call { callee := Callee.value (Operand.func 55), args := #[Operand.tmp 6], argTypes := #[24] }, type := 79, pos := "message.go:64", after := #[{ on := 3, ground := Ground.data }, { on := 0, ground := Ground.chain }], guard := none }) rfl (fun K hK => ?_) AllReadyH.nil
  go_simp
  (go_at_call 55; refine (hashV_any HI.out).mono ?_; rintro e y2 ⟨ho, cs2, rfl, hj⟩; obtain ⟨k2, s2, n2, A2, a2, c2, B2, b2, d2, rfl⟩ := hj.out5; have HT2 := Lib.hid ho; have HJ2 := Lib.hid (hj.mono (Y := fun b => w1.heap.size ≤ b) (fun b _ hb => Nat.le_trans (HOO1.out).size hb)); have HOO2 := Lib.hid (HOO1.out.trans ho); clear ho hj)
  refine hK.out _ _ (HK.out _ HOO2.out) (fun hHeld4 => ?_)
  clear hK K
  try simp only [Act.put, List.setIfInBounds_toArray, List.set_cons_zero, List.set_cons_succ]
  refine wpAnyH_take (i := 5) (oi := { dst := some 8, op := Op.build 122 #[(0, Operand.const (Value.string { data := #[105, 100] })), (1, Operand.tmp 7)], type := 122, pos := "message.go:64", after := #[{ on := 4, ground := Ground.data }], guard := none }) (v := .agg #[.string ⟨#[105, 100]⟩, .int .i64 k2, .string s2, .int .u64 n2, .slice A2 a2 c2, .slice B2 b2 d2]) rfl (by kernel_rfl) (by kernel_rfl) (by kernel_rfl) (fun _ _ _ h => h) (Or.inl ⟨by rfl, ?y5⟩) (by assumption) ?r5
  case y5 => intro w hSw; go_simp
  try simp only [Act.put, List.setIfInBounds_toArray, List.set_cons_zero, List.set_cons_succ]
  refine wpAnyH_ready (rs := [8]) (by kernel_rfl) (by simp) ?_
  refine AllReadyH.cons (o := { dst := some 11, op := Op.call { callee := Callee.value (Operand.func 54), args := #[Operand.tmp 10], argTypes := #[25] }, type := 79, pos := "message.go:64", after := #[{ on := 7, ground := Ground.data }, { on := 4, ground := Ground.chain }], guard := none }) rfl (fun K hK => ?_) AllReadyH.nil
  go_simp
  (go_at_call 54; refine (numV_any (n := n)).mono ?_; rintro e y3 ⟨ho, cs3, rfl, hj⟩; obtain ⟨k3, s3, n3, A3, a3, c3, B3, b3, d3, rfl⟩ := hj.out5; have HT3 := Lib.hid ho; have HJ3 := Lib.hid (hj.mono (Y := fun b => w1.heap.size ≤ b) (fun b _ hb => Nat.le_trans (HOO2.out).size hb)); have HOO3 := Lib.hid (HOO2.out.trans ho); clear ho hj)
  refine hK.out _ _ (HK.out _ HOO3.out) (fun hHeld8 => ?_)
  clear hK K
  try simp only [Act.put, List.setIfInBounds_toArray, List.set_cons_zero, List.set_cons_succ]
  refine wpAnyH_take (i := 9) (oi := { dst := some 12, op := Op.build 122 #[(0, Operand.const (Value.string { data := #[116, 105, 109, 101, 115, 116, 97, 109, 112] })), (1, Operand.tmp 11)], type := 122, pos := "message.go:64", after := #[{ on := 8, ground := Ground.data }], guard := none }) (v := .agg #[.string ⟨#[116, 105, 109, 101, 115, 116, 97, 109, 112]⟩, .int .i64 k3, .string s3, .int .u64 n3, .slice A3 a3 c3, .slice B3 b3 d3]) rfl (by kernel_rfl) (by kernel_rfl) (by kernel_rfl) (fun _ _ _ h => h) (Or.inl ⟨by rfl, ?y9⟩) (by assumption) ?r9
  case y9 => intro w hSw; go_simp
  try simp only [Act.put, List.setIfInBounds_toArray, List.set_cons_zero, List.set_cons_succ]
  refine wpAnyH_ready (rs := [10]) (by kernel_rfl) (by simp) ?_
  refine AllReadyH.cons (o := { dst := some 13, op := Op.call { callee := Callee.value (Operand.func 56), args := #[Operand.const (Value.slice none 0 0)], argTypes := #[22] }, type := 79, pos := "message.go:64", after := #[{ on := 8, ground := Ground.chain }], guard := none }) rfl (fun K hK => ?_) AllReadyH.nil
  go_simp
  (go_at_call 56; refine (word0_any).mono ?_; rintro e y4 ⟨ho, cs4, rfl, hj⟩; obtain ⟨k4, s4, n4, A4, a4, c4, B4, b4, d4, rfl⟩ := hj.out5; have HT4 := Lib.hid ho; have HJ4 := Lib.hid (hj.mono (Y := fun b => w1.heap.size ≤ b) (fun b _ hb => Nat.le_trans (HOO3.out).size hb)); have HOO4 := Lib.hid (HOO3.out.trans ho); clear ho hj)
  refine hK.out _ _ (HK.out _ HOO4.out) (fun hHeld10 => ?_)
  clear hK K
  try simp only [Act.put, List.setIfInBounds_toArray, List.set_cons_zero, List.set_cons_succ]
  refine wpAnyH_take (i := 11) (oi := { dst := some 14, op := Op.build 122 #[(0, Operand.const (Value.string { data := #[101, 120, 116, 101, 110, 115, 105, 111, 110, 115] })), (1, Operand.tmp 13)], type := 122, pos := "message.go:64", after := #[{ on := 10, ground := Ground.data }], guard := none }) (v := .agg #[.string ⟨#[101, 120, 116, 101, 110, 115, 105, 111, 110, 115]⟩, .int .i64 k4, .string s4, .int .u64 n4, .slice A4 a4 c4, .slice B4 b4 d4]) rfl (by kernel_rfl) (by kernel_rfl) (by kernel_rfl) (fun _ _ _ h => h) (Or.inl ⟨by rfl, ?y11⟩) (by assumption) ?r11
  case y11 => intro w hSw; go_simp
  try simp only [Act.put, List.setIfInBounds_toArray, List.set_cons_zero, List.set_cons_succ]
  refine wpAnyH_ready (rs := [14]) (by kernel_rfl) (by simp) ?_
  refine AllReadyH.cons (o := { dst := some 17, op := Op.call { callee := Callee.value (Operand.func 57), args := #[Operand.tmp 16], argTypes := #[26] }, type := 22, pos := "message.go:64", after := #[{ on := 13, ground := Ground.data }, { on := 10, ground := Ground.chain }], guard := none }) rfl (fun K hK => ?_) AllReadyH.nil
  go_simp
  (go_at_call 57; refine (mark_any HS.out).mono ?_; rintro e y5 ⟨ho, A9, c9, rfl, hb9, hc9⟩; have HT5 := Lib.hid ho; have HOO5 := Lib.hid (HOO4.out.trans ho); have HB9 := Lib.hid hb9; have HC9 := Lib.hid hc9; clear ho hb9 hc9)
  refine hK.out _ _ (HK.out _ HOO5.out) (fun hHeld14 => ?_)
  clear hK K
  try simp only [Act.put, List.setIfInBounds_toArray, List.set_cons_zero, List.set_cons_succ]
  refine wpAnyH_ready (rs := [15]) (by kernel_rfl) (by simp) ?_
  refine AllReadyH.cons (o := { dst := some 18, op := Op.call { callee := Callee.value (Operand.func 56), args := #[Operand.tmp 17], argTypes := #[22] }, type := 79, pos := "message.go:64", after := #[{ on := 14, ground := Ground.data }, { on := 14, ground := Ground.chain }], guard := none }) rfl (fun K hK => ?_) AllReadyH.nil
  go_simp
  (go_at_call 56; refine (wordM_any HS.out HB9.out HC9.out).mono ?_; rintro e y6 ⟨ho, cs6, rfl, hj⟩; obtain ⟨k5, s5, n5, A5, a5, c5, B5, b5, d5, rfl⟩ := hj.out5; have HT6 := Lib.hid ho; have HJ5 := Lib.hid (hj.mono (Y := fun b => w1.heap.size ≤ b) (fun b _ hb => Nat.le_trans (HOO5.out).size hb)); have HOO6 := Lib.hid (HOO5.out.trans ho); clear ho hj)
  refine hK.out _ _ (HK.out _ HOO6.out) (fun hHeld15 => ?_)
  clear hK K
  try simp only [Act.put, List.setIfInBounds_toArray, List.set_cons_zero, List.set_cons_succ]
  refine wpAnyH_take (i := 16) (oi := { dst := some 19, op := Op.build 122 #[(0, Operand.const (Value.string { data := #[115, 105, 103, 110, 97, 116, 117, 114, 101] })), (1, Operand.tmp 18)], type := 122, pos := "message.go:64", after := #[{ on := 15, ground := Ground.data }], guard := none }) (v := .agg #[.string ⟨#[115, 105, 103, 110, 97, 116, 117, 114, 101]⟩, .int .i64 k5, .string s5, .int .u64 n5, .slice A5 a5 c5, .slice B5 b5 d5]) rfl (by kernel_rfl) (by kernel_rfl) (by kernel_rfl) (fun _ _ _ h => h) (Or.inl ⟨by rfl, ?y16⟩) (by assumption) ?r16
  case y16 => intro w hSw; go_simp
  try simp only [Act.put, List.setIfInBounds_toArray, List.set_cons_zero, List.set_cons_succ]
  refine wpAnyH_ready (rs := [17]) (by kernel_rfl) (by simp) ?_
  refine AllReadyH.cons (o := { dst := some 20, op := Op.buildSlice 154 5 #[(0, Operand.tmp 4), (1, Operand.tmp 8), (2, Operand.tmp 12), (3, Operand.tmp 14), (4, Operand.tmp 19)], type := 154, pos := "message.go:64", after := #[{ on := 1, ground := Ground.data }, { on := 5, ground := Ground.data }, { on := 9, ground := Ground.data }, { on := 11, ground := Ground.data }, { on := 16, ground := Ground.data }], guard := none }) rfl (fun K hK => ?_) AllReadyH.nil
  go_simp
  refine hK.out _ _ (HK.out _ (HOO6.out.alloc _)) (fun hHeld17 => ?_)
  clear hK K
  try simp only [Act.put, List.setIfInBounds_toArray, List.set_cons_zero, List.set_cons_succ]
  refine wpAnyH_ready (rs := [18]) (by kernel_rfl) (by simp) ?_
  refine AllReadyH.cons (o := { dst := some 21, op := Op.call { callee := Callee.value (Operand.func 53), args := #[Operand.tmp 20], argTypes := #[154] }, type := 79, pos := "message.go:64", after := #[{ on := 17, ground := Ground.data }, { on := 15, ground := Ground.chain }], guard := none }) rfl (fun K hK => ?_) AllReadyH.nil
  go_simp
  (go_at_call 53; refine (obj5 (H := w1.heap.size) (m1 := nVer) (m2 := nId) (m3 := nTime) (m4 := nExt) (m5 := nSig) (((((HJ1.out.keep HT2.out).keep HT3.out).keep HT4.out).keep HT5.out).keep HT6.out) ((((HJ2.out.keep HT3.out).keep HT4.out).keep HT5.out).keep HT6.out) (((HJ3.out.keep HT4.out).keep HT5.out).keep HT6.out) ((HJ4.out.keep HT5.out).keep HT6.out) HJ5.out HOO6.out.size).mono ?_; rintro e y7 ⟨ho, cs7, rfl, hj⟩; obtain ⟨k30, s30, n30, A30, a30, c30, B30, b30, d30, rfl⟩ := hj.out5; have HOO7 := Lib.hid ((HOO6.out.alloc _).trans ho); have HJ30 := Lib.hid hj; clear ho hj)
  refine hK.out _ _ (HK.out _ HOO7.out) (fun hHeld18 => ?_)
  clear hK K
  try simp only [Act.put, List.setIfInBounds_toArray, List.set_cons_zero, List.set_cons_succ]
  refine wpAnyH_ready (rs := [19]) (by kernel_rfl) (by simp) ?_
  refine AllReadyH.cons (o := { dst := some 22, op := Op.call { callee := Callee.value (Operand.func 52), args := #[Operand.tmp 21], argTypes := #[79] }, type := 22, pos := "message.go:64", after := #[{ on := 18, ground := Ground.data }, { on := 18, ground := Ground.chain }], guard := none }) rfl (fun K hK => ?_) AllReadyH.nil
  go_simp
  (go_at_call 52; refine (text_put HGW.out HT.out HOO7.out HJ30.out (HG.out.only HO1.out (fun _ _ => id))).mono ?_; rintro e y8 ⟨ho, A8, c8, rfl, hown⟩; have HOO8 := Lib.hid ho; have HW := Lib.hid hown; clear ho hown)
  refine hK.out _ _ (HK.out _ HOO8.out) (fun hHeld19 => ?_)
  clear hK K
  try simp only [Act.put, List.setIfInBounds_toArray, List.set_cons_zero, List.set_cons_succ]
  refine wpAnyH_ready (rs := [20]) (by kernel_rfl) (by simp) ?_
  refine AllReadyH.cons (o := { dst := some 2, op := Op.assign (Operand.tmp 22), type := 22, pos := "message.go:64", after := #[{ on := 19, ground := Ground.data }, { on := 19, ground := Ground.chain }, { on := 0, ground := Ground.phase }, { on := 1, ground := Ground.phase }, { on := 2, ground := Ground.phase }, { on := 3, ground := Ground.phase }, { on := 4, ground := Ground.phase }, { on := 5, ground := Ground.phase }, { on := 6, ground := Ground.phase }, { on := 7, ground := Ground.phase }, { on := 8, ground := Ground.phase }, { on := 9, ground := Ground.phase }, { on := 10, ground := Ground.phase }, { on := 11, ground := Ground.phase }, { on := 12, ground := Ground.phase }, { on := 13, ground := Ground.phase }, { on := 14, ground := Ground.phase }, { on := 15, ground := Ground.phase }, { on := 16, ground := Ground.phase }, { on := 17, ground := Ground.phase }, { on := 18, ground := Ground.phase }, { on := 19, ground := Ground.phase }], guard := none }) rfl (fun K hK => ?_) AllReadyH.nil
  go_simp
  refine hK.out _ _ (HK.out _ HOO8.out) (fun hHeld20 => ?_)
  clear hK K
  try simp only [Act.put, List.setIfInBounds_toArray, List.set_cons_zero, List.set_cons_succ]
  refine wpAnyH_done (by kernel_rfl) ?_ _
  go_wp2
  go_ret
  exact ⟨HO1.out.trans HOO8.out, _, _, rfl, HW.out.mono HO1.out.size⟩
set_option maxRecDepth 100000 in
set_option maxHeartbeats 12800000 in
theorem putHead_any {r s : Bytes} {n m : Nat} {w : World} (hn : n < 18446744073709551616) (hm : m < 18446744073709551616) (hr : r.length = 32) (hs : s.length = 64) (hG : Gl w) : Calls Tryz.prog 21 #[.agg (headC n m r s).toArray] w (TxtPut (headT n m r s) w) := by
  have HGW := Lib.hid (show GW 8 (objV [(nSize, numV n), (nTime, numV m), (nRoot, wordV r), (nHsig, wordV (mk4 ++ s))]) (headT n m r s) from head_gw hn hm)
  have HT := Lib.hid (show (headT n m r s).length ≤ 1000000000000 by have := headT_len hn hm hr hs; omega)
  have HG := Lib.hid hG
  have HI := Lib.hid hr
  have HS := Lib.hid hs
  have hi24 := info24l hr
  have hi26 := info26l hs
  have HR := Lib.hid (fun (w' : World) (g : Nat) (h : Blk w' g (headC n m r s) 35) => (show w'.cell? ⟨g, 0, none⟩ = some (.int .u64 n) ∧ w'.cell? ⟨g, 1, none⟩ = some (.int .u64 m) ∧ w'.rangeAt g 2 (u8s r) ∧ w'.rangeAt g 34 (u8s s) from by
    have h2 : Blk w' g ([.int .u64 n, .int .u64 m] ++ u8s r ++ u8s s) 35 := h
    have h3 : Blk w' g (([.int .u64 n, .int .u64 m] ++ u8s r) ++ u8s s ++ []) 35 := by rw [List.append_nil]; exact h2
    have k3 := h3.range3
    rw [List.length_append, u8s_length, hr] at k3
    exact ⟨h.cell 0 rfl, h.cell 1 rfl, h2.range3, k3⟩))
  clear hn hm hr hs
  clear hG
  go_enter Tryz.func21, Tryz.ntmps21
  go_upto_region 1 with (refine wpList_box_blk rfl 35 1 (.tmp 0) rfl rfl rfl ?_; intro w1 hb1 ho1 hs1; have HB1 := Lib.hid hb1; have HO1 := Lib.hid ho1; clear hb1 ho1 hs1)
  have HK := Lib.hid (fun w' (h : Only (fun _ => False) w1 w') => (show w'.cell? ⟨w.heap.size, 0, none⟩ = some (.int .u64 n) ∧ w'.cell? ⟨w.heap.size, 1, none⟩ = some (.int .u64 m) ∧ w'.rangeAt w.heap.size 2 (u8s r) ∧ w'.rangeAt w.heap.size 34 (u8s s) from HR.out w' w.heap.size (HB1.out.only h id)))
  generalize w.heap.size = g at HB1 HK ⊢
  have HOO0 := Lib.hid ((Only.refl (fun _ => False) w1).drew)
  refine wp_region_held_drew (S := fun w' => w'.cell? ⟨g, 0, none⟩ = some (.int .u64 n) ∧ w'.cell? ⟨g, 1, none⟩ = some (.int .u64 m) ∧ w'.rangeAt g 2 (u8s r) ∧ w'.rangeAt g 34 (u8s s)) (by kernel_rfl) (HK.out _ ((Only.refl _ _).drew)) (fun hHeld => ?_)
  refine wpAnyH_take (i := 0) (oi := { dst := some 3, op := Op.fieldAddr 35 (Operand.tmp 1) 0, type := 0, pos := "message.go:69", after := #[], guard := none }) (v := .pointer (some ⟨g, 0, none⟩)) rfl (by kernel_rfl) (by kernel_rfl) (by kernel_rfl) (fun _ _ _ h => h) (Or.inl ⟨by rfl, ?y0⟩) (by assumption) ?r0
  case y0 => intro w hSw; go_simp
  try simp only [Act.put, List.setIfInBounds_toArray, List.set_cons_zero, List.set_cons_succ]
  refine wpAnyH_take (i := 1) (oi := { dst := some 4, op := Op.load 25 (Operand.tmp 3), type := 25, pos := "message.go:69", after := #[{ on := 0, ground := Ground.data }], guard := none }) (v := .int .u64 n) rfl (by kernel_rfl) (by kernel_rfl) (by kernel_rfl) (fun _ _ _ h => h) (Or.inl ⟨by rfl, ?y1⟩) (by assumption) ?r1
  case y1 => intro w hSw; go_simp
  try simp only [Act.put, List.setIfInBounds_toArray, List.set_cons_zero, List.set_cons_succ]
  refine wpAnyH_take (i := 4) (oi := { dst := some 7, op := Op.fieldAddr 35 (Operand.tmp 1) 1, type := 0, pos := "message.go:69", after := #[], guard := none }) (v := .pointer (some ⟨g, 1, none⟩)) rfl (by kernel_rfl) (by kernel_rfl) (by kernel_rfl) (fun _ _ _ h => h) (Or.inl ⟨by rfl, ?y4⟩) (by assumption) ?r4
  case y4 => intro w hSw; go_simp
  try simp only [Act.put, List.setIfInBounds_toArray, List.set_cons_zero, List.set_cons_succ]
  refine wpAnyH_take (i := 5) (oi := { dst := some 8, op := Op.load 25 (Operand.tmp 7), type := 25, pos := "message.go:69", after := #[{ on := 4, ground := Ground.data }], guard := none }) (v := .int .u64 m) rfl (by kernel_rfl) (by kernel_rfl) (by kernel_rfl) (fun _ _ _ h => h) (Or.inl ⟨by rfl, ?y5⟩) (by assumption) ?r5
  case y5 => intro w hSw; go_simp
  try simp only [Act.put, List.setIfInBounds_toArray, List.set_cons_zero, List.set_cons_succ]
  refine wpAnyH_take (i := 8) (oi := { dst := some 11, op := Op.fieldAddr 35 (Operand.tmp 1) 2, type := 0, pos := "message.go:69", after := #[], guard := none }) (v := .pointer (some ⟨g, 2, none⟩)) rfl (by kernel_rfl) (by kernel_rfl) (by kernel_rfl) (fun _ _ _ h => h) (Or.inl ⟨by rfl, ?y8⟩) (by assumption) ?r8
  case y8 => intro w hSw; go_simp
  try simp only [Act.put, List.setIfInBounds_toArray, List.set_cons_zero, List.set_cons_succ]
  refine wpAnyH_take (i := 9) (oi := { dst := some 12, op := Op.load 24 (Operand.tmp 11), type := 24, pos := "message.go:69", after := #[{ on := 8, ground := Ground.data }], guard := none }) (v := .agg (u8s r).toArray) rfl (by kernel_rfl) (by kernel_rfl) (by kernel_rfl) (fun _ _ _ h => h) (yieldsIf_load_mid (by rfl) 24 (.tmp 11) rfl g 2 rfl (u8s r) _ (fun w h => h.2.2.1) under24x rfl hi24) (by assumption) ?r9
  try simp only [Act.put, List.setIfInBounds_toArray, List.set_cons_zero, List.set_cons_succ]
  refine wpAnyH_take (i := 12) (oi := { dst := some 15, op := Op.fieldAddr 35 (Operand.tmp 1) 3, type := 0, pos := "message.go:69", after := #[], guard := none }) (v := .pointer (some ⟨g, 34, none⟩)) rfl (by kernel_rfl) (by kernel_rfl) (by kernel_rfl) (fun _ _ _ h => h) (Or.inl ⟨by rfl, ?y12⟩) (by assumption) ?r12
  case y12 => intro w hSw; go_simp
  try simp only [Act.put, List.setIfInBounds_toArray, List.set_cons_zero, List.set_cons_succ]
  refine wpAnyH_take (i := 13) (oi := { dst := some 16, op := Op.load 26 (Operand.tmp 15), type := 26, pos := "message.go:69", after := #[{ on := 12, ground := Ground.data }], guard := none }) (v := .agg (u8s s).toArray) rfl (by kernel_rfl) (by kernel_rfl) (by kernel_rfl) (fun _ _ _ h => h) (yieldsIf_load_mid (by rfl) 26 (.tmp 15) rfl g 34 rfl (u8s s) _ (fun w h => h.2.2.2) under26x rfl hi26) (by assumption) ?r13
  try simp only [Act.put, List.setIfInBounds_toArray, List.set_cons_zero, List.set_cons_succ]
  refine wpAnyH_ready (rs := [2]) (by kernel_rfl) (by simp) ?_
  refine AllReadyH.cons (o := { dst := some 5, op := Op.call { callee := Callee.value (Operand.func 54), args := #[Operand.tmp 4], argTypes := #[25] }, type := 79, pos := "message.go:69", after := #[{ on := 1, ground := Ground.data }], guard := none }) rfl (fun K hK => ?_) AllReadyH.nil
  go_simp
  (go_at_call 54; refine (numV_any (n := n)).mono ?_; rintro e y1 ⟨ho, cs1, rfl, hj⟩; obtain ⟨k1, s1, n1, A1, a1, c1, B1, b1, d1, rfl⟩ := hj.out5; have HT1 := Lib.hid ho; have HJ1 := Lib.hid (hj.mono (Y := fun b => w1.heap.size ≤ b) (fun b _ hb => Nat.le_trans (HOO0.out).size hb)); have HOO1 := Lib.hid (HOO0.out.trans ho); clear ho hj)
  refine hK.out _ _ (HK.out _ HOO1.out) (fun hHeld2 => ?_)
  clear hK K
  try simp only [Act.put, List.setIfInBounds_toArray, List.set_cons_zero, List.set_cons_succ]
  refine wpAnyH_take (i := 3) (oi := { dst := some 6, op := Op.build 122 #[(0, Operand.const (Value.string { data := #[116, 114, 101, 101, 95, 115, 105, 122, 101] })), (1, Operand.tmp 5)], type := 122, pos := "message.go:69", after := #[{ on := 2, ground := Ground.data }], guard := none }) (v := .agg #[.string ⟨#[116, 114, 101, 101, 95, 115, 105, 122, 101]⟩, .int .i64 k1, .string s1, .int .u64 n1, .slice A1 a1 c1, .slice B1 b1 d1]) rfl (by kernel_rfl) (by kernel_rfl) (by kernel_rfl) (fun _ _ _ h => h) (Or.inl ⟨by rfl, ?y3⟩) (by assumption) ?r3
  case y3 => intro w hSw; go_simp
  try simp only [Act.put, List.setIfInBounds_toArray, List.set_cons_zero, List.set_cons_succ]
  refine wpAnyH_ready (rs := [6]) (by kernel_rfl) (by simp) ?_
  refine AllReadyH.cons (o := { dst := some 9, op := Op.call { callee := Callee.value (Operand.func 54), args := #[Operand.tmp 8], argTypes := #[25] }, type := 79, pos := "message.go:69", after := #[{ on := 5, ground := Ground.data }, { on := 2, ground := Ground.chain }], guard := none }) rfl (fun K hK => ?_) AllReadyH.nil
  go_simp
  (go_at_call 54; refine (numV_any (n := m)).mono ?_; rintro e y2 ⟨ho, cs2, rfl, hj⟩; obtain ⟨k2, s2, n2, A2, a2, c2, B2, b2, d2, rfl⟩ := hj.out5; have HT2 := Lib.hid ho; have HJ2 := Lib.hid (hj.mono (Y := fun b => w1.heap.size ≤ b) (fun b _ hb => Nat.le_trans (HOO1.out).size hb)); have HOO2 := Lib.hid (HOO1.out.trans ho); clear ho hj)
  refine hK.out _ _ (HK.out _ HOO2.out) (fun hHeld6 => ?_)
  clear hK K
  try simp only [Act.put, List.setIfInBounds_toArray, List.set_cons_zero, List.set_cons_succ]
  refine wpAnyH_take (i := 7) (oi := { dst := some 10, op := Op.build 122 #[(0, Operand.const (Value.string { data := #[116, 105, 109, 101, 115, 116, 97, 109, 112] })), (1, Operand.tmp 9)], type := 122, pos := "message.go:69", after := #[{ on := 6, ground := Ground.data }], guard := none }) (v := .agg #[.string ⟨#[116, 105, 109, 101, 115, 116, 97, 109, 112]⟩, .int .i64 k2, .string s2, .int .u64 n2, .slice A2 a2 c2, .slice B2 b2 d2]) rfl (by kernel_rfl) (by kernel_rfl) (by kernel_rfl) (fun _ _ _ h => h) (Or.inl ⟨by rfl, ?y7⟩) (by assumption) ?r7
  case y7 => intro w hSw; go_simp
  try simp only [Act.put, List.setIfInBounds_toArray, List.set_cons_zero, List.set_cons_succ]
  refine wpAnyH_ready (rs := [10]) (by kernel_rfl) (by simp) ?_
  refine AllReadyH.cons (o := { dst := some 13, op := Op.call { callee := Callee.value (Operand.func 55), args := #[Operand.tmp 12], argTypes := #[24] }, type := 79, pos := "message.go:69", after := #[{ on := 9, ground := Ground.data }, { on := 6, ground := Ground.chain }], guard := none }) rfl (fun K hK => ?_) AllReadyH.nil
  go_simp
  (go_at_call 55; refine (hashV_any HI.out).mono ?_; rintro e y3 ⟨ho, cs3, rfl, hj⟩; obtain ⟨k3, s3, n3, A3, a3, c3, B3, b3, d3, rfl⟩ := hj.out5; have HT3 := Lib.hid ho; have HJ3 := Lib.hid (hj.mono (Y := fun b => w1.heap.size ≤ b) (fun b _ hb => Nat.le_trans (HOO2.out).size hb)); have HOO3 := Lib.hid (HOO2.out.trans ho); clear ho hj)
  refine hK.out _ _ (HK.out _ HOO3.out) (fun hHeld10 => ?_)
  clear hK K
  try simp only [Act.put, List.setIfInBounds_toArray, List.set_cons_zero, List.set_cons_succ]
  refine wpAnyH_take (i := 11) (oi := { dst := some 14, op := Op.build 122 #[(0, Operand.const (Value.string { data := #[115, 104, 97, 50, 53, 54, 95, 114, 111, 111, 116, 95, 104, 97, 115, 104] })), (1, Operand.tmp 13)], type := 122, pos := "message.go:69", after := #[{ on := 10, ground := Ground.data }], guard := none }) (v := .agg #[.string ⟨#[115, 104, 97, 50, 53, 54, 95, 114, 111, 111, 116, 95, 104, 97, 115, 104]⟩, .int .i64 k3, .string s3, .int .u64 n3, .slice A3 a3 c3, .slice B3 b3 d3]) rfl (by kernel_rfl) (by kernel_rfl) (by kernel_rfl) (fun _ _ _ h => h) (Or.inl ⟨by rfl, ?y11⟩) (by assumption) ?r11
  case y11 => intro w hSw; go_simp
  try simp only [Act.put, List.setIfInBounds_toArray, List.set_cons_zero, List.set_cons_succ]
  refine wpAnyH_ready (rs := [14]) (by kernel_rfl) (by simp) ?_
  refine AllReadyH.cons (o := { dst := some 17, op := Op.call { callee := Callee.value (Operand.func 57), args := #[Operand.tmp 16], argTypes := #[26] }, type := 22, pos := "message.go:69", after := #[{ on := 13, ground := Ground.data }, { on := 10, ground := Ground.chain }], guard := none }) rfl (fun K hK => ?_) AllReadyH.nil
  go_simp
  (go_at_call 57; refine (mark_any HS.out).mono ?_; rintro e y4 ⟨ho, A9, c9, rfl, hb9, hc9⟩; have HT4 := Lib.hid ho; have HOO4 := Lib.hid (HOO3.out.trans ho); have HB9 := Lib.hid hb9; have HC9 := Lib.hid hc9; clear ho hb9 hc9)
  refine hK.out _ _ (HK.out _ HOO4.out) (fun hHeld14 => ?_)
  clear hK K
  try simp only [Act.put, List.setIfInBounds_toArray, List.set_cons_zero, List.set_cons_succ]
  refine wpAnyH_ready (rs := [15]) (by kernel_rfl) (by simp) ?_
  refine AllReadyH.cons (o := { dst := some 18, op := Op.call { callee := Callee.value (Operand.func 56), args := #[Operand.tmp 17], argTypes := #[22] }, type := 79, pos := "message.go:69", after := #[{ on := 14, ground := Ground.data }, { on := 14, ground := Ground.chain }], guard := none }) rfl (fun K hK => ?_) AllReadyH.nil
  go_simp
  (go_at_call 56; refine (wordM_any HS.out HB9.out HC9.out).mono ?_; rintro e y5 ⟨ho, cs5, rfl, hj⟩; obtain ⟨k4, s4, n4, A4, a4, c4, B4, b4, d4, rfl⟩ := hj.out5; have HT5 := Lib.hid ho; have HJ4 := Lib.hid (hj.mono (Y := fun b => w1.heap.size ≤ b) (fun b _ hb => Nat.le_trans (HOO4.out).size hb)); have HOO5 := Lib.hid (HOO4.out.trans ho); clear ho hj)
  refine hK.out _ _ (HK.out _ HOO5.out) (fun hHeld15 => ?_)
  clear hK K
  try simp only [Act.put, List.setIfInBounds_toArray, List.set_cons_zero, List.set_cons_succ]
  refine wpAnyH_take (i := 16) (oi := { dst := some 19, op := Op.build 122 #[(0, Operand.const (Value.string { data := #[116, 114, 101, 101, 95, 104, 101, 97, 100, 95, 115, 105, 103, 110, 97, 116, 117, 114, 101] })), (1, Operand.tmp 18)], type := 122, pos := "message.go:69", after := #[{ on := 15, ground := Ground.data }], guard := none }) (v := .agg #[.string ⟨#[116, 114, 101, 101, 95, 104, 101, 97, 100, 95, 115, 105, 103, 110, 97, 116, 117, 114, 101]⟩, .int .i64 k4, .string s4, .int .u64 n4, .slice A4 a4 c4, .slice B4 b4 d4]) rfl (by kernel_rfl) (by kernel_rfl) (by kernel_rfl) (fun _ _ _ h => h) (Or.inl ⟨by rfl, ?y16⟩) (by assumption) ?r16
  case y16 => intro w hSw; go_simp
  try simp only [Act.put, List.setIfInBounds_toArray, List.set_cons_zero, List.set_cons_succ]
  refine wpAnyH_ready (rs := [17]) (by kernel_rfl) (by simp) ?_
  refine AllReadyH.cons (o := { dst := some 20, op := Op.buildSlice 154 4 #[(0, Operand.tmp 6), (1, Operand.tmp 10), (2, Operand.tmp 14), (3, Operand.tmp 19)], type := 154, pos := "message.go:69", after := #[{ on := 3, ground := Ground.data }, { on := 7, ground := Ground.data }, { on := 11, ground := Ground.data }, { on := 16, ground := Ground.data }], guard := none }) rfl (fun K hK => ?_) AllReadyH.nil
  go_simp
  refine hK.out _ _ (HK.out _ (HOO5.out.alloc _)) (fun hHeld17 => ?_)
  clear hK K
  try simp only [Act.put, List.setIfInBounds_toArray, List.set_cons_zero, List.set_cons_succ]
  refine wpAnyH_ready (rs := [18]) (by kernel_rfl) (by simp) ?_
  refine AllReadyH.cons (o := { dst := some 21, op := Op.call { callee := Callee.value (Operand.func 53), args := #[Operand.tmp 20], argTypes := #[154] }, type := 79, pos := "message.go:69", after := #[{ on := 17, ground := Ground.data }, { on := 15, ground := Ground.chain }], guard := none }) rfl (fun K hK => ?_) AllReadyH.nil
  go_simp
  (go_at_call 53; refine (obj4 (H := w1.heap.size) (m1 := nSize) (m2 := nTime) (m3 := nRoot) (m4 := nHsig) ((((HJ1.out.keep HT2.out).keep HT3.out).keep HT4.out).keep HT5.out) (((HJ2.out.keep HT3.out).keep HT4.out).keep HT5.out) ((HJ3.out.keep HT4.out).keep HT5.out) HJ4.out HOO5.out.size).mono ?_; rintro e y6 ⟨ho, cs6, rfl, hj⟩; obtain ⟨k30, s30, n30, A30, a30, c30, B30, b30, d30, rfl⟩ := hj.out5; have HOO6 := Lib.hid ((HOO5.out.alloc _).trans ho); have HJ30 := Lib.hid hj; clear ho hj)
  refine hK.out _ _ (HK.out _ HOO6.out) (fun hHeld18 => ?_)
  clear hK K
  try simp only [Act.put, List.setIfInBounds_toArray, List.set_cons_zero, List.set_cons_succ]
  refine wpAnyH_ready (rs := [19]) (by kernel_rfl) (by simp) ?_
  refine AllReadyH.cons (o := { dst := some 22, op := Op.call { callee := Callee.value (Operand.func 52), args := #[Operand.tmp 21], argTypes := #[79] }, type := 22, pos := "message.go:69", after := #[{ on := 18, ground := Ground.data }, { on := 18, ground := Ground.chain }], guard := none }) rfl (fun K hK => ?_) AllReadyH.nil
  go_simp
  (go_at_call 52; refine (text_put HGW.out HT.out HOO6.out HJ30.out (HG.out.only HO1.out (fun _ _ => id))).mono ?_; rintro e y7 ⟨ho, A8, c8, rfl, hown⟩; have HOO7 := Lib.hid ho; have HW := Lib.hid hown; clear ho hown)
  refine hK.out _ _ (HK.out _ HOO7.out) (fun hHeld19 => ?_)
  clear hK K
  try simp only [Act.put, List.setIfInBounds_toArray, List.set_cons_zero, List.set_cons_succ]
  refine wpAnyH_ready (rs := [20]) (by kernel_rfl) (by simp) ?_
  refine AllReadyH.cons (o := { dst := some 2, op := Op.assign (Operand.tmp 22), type := 22, pos := "message.go:69", after := #[{ on := 19, ground := Ground.data }, { on := 19, ground := Ground.chain }, { on := 0, ground := Ground.phase }, { on := 1, ground := Ground.phase }, { on := 2, ground := Ground.phase }, { on := 3, ground := Ground.phase }, { on := 4, ground := Ground.phase }, { on := 5, ground := Ground.phase }, { on := 6, ground := Ground.phase }, { on := 7, ground := Ground.phase }, { on := 8, ground := Ground.phase }, { on := 9, ground := Ground.phase }, { on := 10, ground := Ground.phase }, { on := 11, ground := Ground.phase }, { on := 12, ground := Ground.phase }, { on := 13, ground := Ground.phase }, { on := 14, ground := Ground.phase }, { on := 15, ground := Ground.phase }, { on := 16, ground := Ground.phase }, { on := 17, ground := Ground.phase }, { on := 18, ground := Ground.phase }, { on := 19, ground := Ground.phase }], guard := none }) rfl (fun K hK => ?_) AllReadyH.nil
  go_simp
  refine hK.out _ _ (HK.out _ HOO7.out) (fun hHeld20 => ?_)
  clear hK K
  try simp only [Act.put, List.setIfInBounds_toArray, List.set_cons_zero, List.set_cons_succ]
  refine wpAnyH_done (by kernel_rfl) ?_ _
  go_wp2
  go_ret
  exact ⟨HO1.out.trans HOO7.out, _, _, rfl, HW.out.mono HO1.out.size⟩
end Go.Proofs.YtjehnejgojgahaaGreatDoor

/- Z3 -/
namespace Go.Proofs.YtjehnejgojgahaaGreatDoor
open Go.RowKit
set_option linter.unusedVariables false
set_option linter.unusedSimpArgs false

theorem rowAt_own {α : Type} {E : (Nat → Prop) → World → α → List Value → Prop} {size : Nat} (hE : EncOK size E) {T : TypeId} {H : Nat} {w : World} {A : Option Addr} {n c : Nat} {l : List α} (h : RowOwn E size T H w (.slice A n c) l) :
    RowAt E size (fun b => H ≤ b) w A l := by
  obtain ⟨xs, h1, h2⟩ := h
  intro i a ha
  have hi := (List.getElem?_eq_some_iff.1 ha).1
  have he := h2.2 i a ha
  have hlen : ((xs.drop (size * i)).take size).length = size := hE.len he
  rcases h1.2 with ⟨e, hn⟩ | ⟨g, cap, cur, e, hb, hgg, _⟩
  · omega
  · cases e
    refine ⟨g, 0, _, rfl, ?_, hlen, hE.only he (Only.refl (fun _ => False) w) (fun b _ hy => ⟨id, hy.1⟩)⟩
    intro j y hy
    have hj := (List.getElem?_eq_some_iff.1 hy).1
    rw [List.getElem?_take, if_pos (by omega), List.getElem?_drop] at hy
    have := World.ownsRow.cells h1 (g := g) rfl (size * i + j) y hy
    rw [show 0 + i * size + j = size * i + j by rw [Nat.zero_add, Nat.mul_comm]]
    unfold Addr.add at this
    by_cases h0 : size * i + j = 0
    · rw [if_pos h0] at this; rw [h0]; exact this
    · rw [if_neg h0] at this; simpa using this
/-- A text put, short. -/
def PutOK (t : Bytes) (w : World) (e : Ending) (w' : World) : Prop :=
  Only (fun _ => False) w w' ∧ ∃ A c, e = .returned (.slice A t.length c) ∧ BytesAt w' A t ∧ t.length ≤ c ∧ ∀ b o, A = some ⟨b, o, none⟩ → b < w'.heap.size
theorem own_low {w : World} {base : Nat} {A : Option Addr} {n c : Nat} {l : Bytes} (h : OwnB w base (.slice A n c) l) : ∀ b o, A = some ⟨b, o, none⟩ → b < w.heap.size := by
  intro b o e
  subst e
  exact (h.lt b rfl).2
theorem txt_ok {t : Bytes} {w w' : World} {e : Ending} (hl : t.length ≤ 1048576) (h : TxtPut t w e w') : PutOK t w e w' := by
  obtain ⟨h1, A, c, rfl, h2⟩ := h
  have ht : outT t = t := if_pos hl
  rw [ht] at h2 ⊢
  exact ⟨h1, A, c, rfl, h2.bytes.2, h2.capB, own_low h2⟩
/-- A text that may be too long. -/
theorem txt_any {t : Bytes} {w w' : World} {e : Ending} (h : TxtPut t w e w') : PutOK (outT t) w e w' := by
  obtain ⟨h1, A, c, rfl, h2⟩ := h
  exact ⟨h1, A, c, rfl, h2.bytes.2, h2.capB, own_low h2⟩
def OutIs (v : Value) (w : World) (e : Ending) (w' : World) : Prop := Only (fun _ => False) w w' ∧ e = .returned v
def RowOut {α : Type} (E : (Nat → Prop) → World → α → List Value → Prop) (size : Nat) (err : Int) (l : List α) (w : World) (e : Ending) (w' : World) : Prop :=
  Only (fun _ => False) w w' ∧ ∃ A c, e = .returned (.tuple #[.slice A l.length c, .int .i64 err]) ∧ RowAt E size (fun b => w.heap.size ≤ b) w' A l
variable {A : Option Addr} {c : Nat} {w : World}
theorem sct_take {i s : Bytes} {n : Nat} (hn : n < 18446744073709551616) (hi : i.length = 32) (hs : s.length = 64) (hI : Inp w A (sctT i n s)) (hc : (sctT i n s).length ≤ c) :
    Calls Tryz.prog 5 #[.slice A (sctT i n s).length c] w (OutIs (.tuple #[.agg (sctC i n s).toArray, .int .i64 0]) w) := by
  refine (takeSct_any hI hc).mono ?_
  rintro e w' ⟨ho, rfl⟩
  obtain ⟨h1, h2⟩ := sct_back (n := n) hn hi hs
  rw [h1, h2]
  exact ⟨ho, rfl⟩
theorem head_take {r s : Bytes} {n m : Nat} (hn : n < 18446744073709551616) (hm : m < 18446744073709551616) (hr : r.length = 32) (hs : s.length = 64) (hI : Inp w A (headT n m r s)) (hc : (headT n m r s).length ≤ c) :
    Calls Tryz.prog 7 #[.slice A (headT n m r s).length c] w (OutIs (.tuple #[.agg (headC n m r s).toArray, .int .i64 0]) w) := by
  refine (takeHd_any hI hc).mono ?_
  rintro e w' ⟨ho, rfl⟩
  obtain ⟨h1, h2⟩ := head_back (n := n) (m := m) hn hm hr hs
  rw [h1, h2]
  exact ⟨ho, rfl⟩
theorem sct_take7 {i s : Bytes} {n : Nat} (hn : n < 18446744073709551616) (hi : i.length = 32) (hs : s.length = 64) (hI : Inp w A (sctT i n s)) (hc : (sctT i n s).length ≤ c) :
    Calls Tryz.prog 7 #[.slice A (sctT i n s).length c] w (OutIs (.tuple #[.agg zc35.toArray, .int .i64 5]) w) := by
  refine (takeHd_any hI hc).mono ?_
  rintro e w' ⟨ho, rfl⟩
  rw [sct_as_head (n := n) hn hi hs]
  exact ⟨ho, rfl⟩
theorem head_take5 {r s : Bytes} {n m : Nat} (hn : n < 18446744073709551616) (hm : m < 18446744073709551616) (hr : r.length = 32) (hs : s.length = 64) (hI : Inp w A (headT n m r s)) (hc : (headT n m r s).length ≤ c) :
    Calls Tryz.prog 5 #[.slice A (headT n m r s).length c] w (OutIs (.tuple #[.agg zc28.toArray, .int .i64 5]) w) := by
  refine (takeSct_any hI hc).mono ?_
  rintro e w' ⟨ho, rfl⟩
  rw [head_as_sct (n := n) (m := m) hn hm hr hs]
  exact ⟨ho, rfl⟩
theorem l_take {α : Type} {E : (Nat → Prop) → World → α → List Value → Prop} {size : Nat} (hE : EncOK size E) {T : TypeId} {bad : Bool} {l l2 : List α} {e0 : Int} {e : Ending} {w' : World} (h : LTake E size T bad l e0 w e w') (hb : bad = false) (hl : l = l2) : RowOut E size 0 l2 w e w' := by
  subst hb hl
  obtain ⟨ho, A, c, rfl, hr⟩ := h
  exact ⟨ho, A, c, rfl, rowAt_own hE hr⟩
theorem l_take0 {α : Type} {E : (Nat → Prop) → World → α → List Value → Prop} {size : Nat} {T : TypeId} {bad : Bool} {l : List α} {e0 : Int} {e : Ending} {w' : World} (h : LTake E size T bad l e0 w e w') (hb : bad = true) : RowOut E size e0 [] w e w' := by
  subst hb
  obtain ⟨ho, A, c, rfl, hr⟩ := h
  exact ⟨ho, A, c, rfl, fun i a ha => by simp at ha⟩
theorem cons_take {l : List Bytes} (hl : l.length ≤ 10000) (h : ∀ x ∈ l, x.length = 32) (hI : Inp w A (consT l)) (hc : (consT l).length ≤ c) : Calls Tryz.prog 9 #[.slice A (consT l).length c] w (RowOut ED 32 0 l w) :=
  (takeCons_any hI hc).mono (fun e w' h' => l_take encD h' (cons_back hl h).1 (cons_back hl h).2)
theorem ch_take {l : List Bytes} (hl : l.length ≤ 3000000) (ht : (chT l).length ≤ 1048576) (hI : Inp w A (chT l)) (hc : (chT l).length ≤ c) : Calls Tryz.prog 49 #[.slice A (chT l).length c] w (RowOut EB 1 0 l w) :=
  (readChain_any hI hc).mono (fun e w' h' => l_take encB h' (ch_back hl ht).1 (ch_back hl ht).2)
theorem ent_take {l : List (Bytes × Bytes)} (hl : l.length ≤ 3000000) (ht : (entT l).length ≤ 1048576) (hI : Inp w A (entT l)) (hc : (entT l).length ≤ c) : Calls Tryz.prog 14 #[.slice A (entT l).length c] w (RowOut EI 2 0 l w) :=
  (takeEnt_any hI hc).mono (fun e w' h' => l_take encI h' (ent_back hl ht).1 (ent_back hl ht).2)
theorem prf_take9 {n : Nat} (hn : n < 18446744073709551616) (hI : Inp w A (prfT n [])) (hc : (prfT n []).length ≤ c) : Calls Tryz.prog 9 #[.slice A (prfT n []).length c] w (RowOut ED 32 5 [] w) :=
  (takeCons_any hI hc).mono (fun e w' h' => l_take0 h' (prf_as_cons hn))
def PrfOut (n err : Int) (l : List Bytes) (w : World) (e : Ending) (w' : World) : Prop :=
  Only (fun _ => False) w w' ∧ ∃ A c, e = .returned (.tuple #[.int .u64 n, .slice A l.length c, .int .i64 err]) ∧ RowAt ED 32 (fun b => w.heap.size ≤ b) w' A l
theorem prf_take {n : Nat} {l : List Bytes} (hn : n < 18446744073709551616) (hl : l.length ≤ 10000) (h : ∀ x ∈ l, x.length = 32) (hI : Inp w A (prfT n l)) (hc : (prfT n l).length ≤ c) : Calls Tryz.prog 12 #[.slice A (prfT n l).length c] w (PrfOut n 0 l w) := by
  refine (takePrf_any hI hc).mono ?_
  rintro e w' ⟨ho, A', c', rfl, hr⟩
  obtain ⟨h1, h2, h3⟩ := prf_back hn hl h
  rw [h1] at hr ⊢
  simp only [Bool.false_eq_true, if_false, h2, h3] at hr ⊢
  exact ⟨ho, A', c', rfl, rowAt_own encD hr⟩
theorem cons_take12 (hI : Inp w A (consT [])) (hc : (consT []).length ≤ c) : Calls Tryz.prog 12 #[.slice A (consT []).length c] w (PrfOut 0 5 [] w) := by
  refine (takePrf_any hI hc).mono ?_
  rintro e w' ⟨ho, A', c', rfl, hr⟩
  rw [cons_as_prf] at hr ⊢
  exact ⟨ho, A', c', rfl, fun i a ha => by simp at ha⟩
theorem err_take {n : Nat} (hn : n ≤ 2147483647) (hI : Inp w A (errT n)) (hc : (errT n).length ≤ c) : Calls Tryz.prog 17 #[.slice A (errT n).length c] w (OutIs (.tuple #[.int .i64 n, .int .i64 0]) w) := by
  refine (takeErr_any hI hc).mono ?_
  rintro e w' ⟨ho, rfl⟩
  obtain ⟨h1, h2⟩ := err_back hn
  rw [h1, h2]
  exact ⟨ho, rfl⟩
theorem two_take : badL [91, 93] [nChain] nChain okB' = true := by
  have hg : GW 8 (listV []) [91, 93] := gw_list (m := 7) (l := ([] : List Unit)) (f := fun _ => numV 0) (g := fun _ => []) (by simp) (fun x hx => by simp at hx)
  unfold badL pBad
  rw [parseM_gw hg (by decide)]
  rfl
theorem two_read (hI : Inp w A [91, 93]) (hc : 2 ≤ c) : Calls Tryz.prog 49 #[.slice A 2 c] w (RowOut EB 1 43 [] w) :=
  (readChain_any (l := [91, 93]) hI hc).mono (fun e w' h' => l_take0 h' two_take)
end Go.Proofs.YtjehnejgojgahaaGreatDoor

/- Q6 -/
namespace Go.Proofs.YtjehnejgojgahaaGreatDoor
open Go.RowKit
set_option linter.unusedVariables false
set_option linter.unusedSimpArgs false

set_option maxRecDepth 100000 in
set_option maxHeartbeats 3200000 in
theorem same_any {Y Z : Nat → Prop} {A B : Option Addr} {c d : Nat} {l : List Bytes} {w : World} (hA : RowAt ED 32 Y w A l) (hB : RowAt ED 32 Z w B l) (hl : l.length ≤ 3000000) :
    Calls Tryz.prog 11 #[.slice A l.length c, .slice B l.length d] w (BoolAt true w) := by
  have HA := Lib.hid hA
  have HB := Lib.hid hB
  have HL := Lib.hid hl
  have hlz : (l.length : Int) ≤ 3000000 := by omega
  have q0 : ((l.length : Int) != (l.length : Int)) = false := by simp
  clear hA hB hl
  go_enter Tryz.func11, Tryz.ntmps11
  go_upto_region 4 with (fail)
  go_loopw [5] (fun s5 wr => ∃ j : Nat, j ≤ l.length ∧ s5 = .int .i64 (j : Int) ∧ Only (fun _ => False) w wr) (fun i _ => l.length - (intOf i).toNat)
  case atStart => exact ⟨0, by omega, rfl, Only.refl _ _⟩
  case round =>
    obtain ⟨j, hj, rfl, ho⟩ := hrel
    have HO := Lib.hid ho
    clear ho
    rcases Nat.lt_or_ge j l.length with hlt | hge
    · have q : decide ((j : Int) < (l.length : Int)) = true := by simp; omega
      have hjz : (j : Int) < (l.length : Int) := by omega
      obtain ⟨x, hx⟩ : ∃ x, l[j]? = some x := ⟨l[j], List.getElem?_eq_getElem hlt⟩
      obtain ⟨bA, oA, cs, rfl, hrg, _, hcs, hxl⟩ := HA.out j x hx
      subst hcs
      obtain ⟨bB, oB, cs, rfl, hrg2, _, hcs, _⟩ := HB.out j x hx
      subst hcs
      have HRG := Lib.hid hrg
      have HRG2 := Lib.hid hrg2
      have hneq := fun w => neq24 hxl w
      have HLT := Lib.hid hlt
      have hu24 := under24x
      have hi24 := info24l hxl
      clear hx hrg hrg2 hlt
      go_upto_region 6 with (fail)
      refine wp_region_held_drew (S := fun w' => w'.rangeAt bA (oA + j * 32) (u8s x) ∧ w'.rangeAt bB (oB + j * 32) (u8s x)) (by kernel_rfl) (⟨rangeAt.keep HRG.out HO.out.drew, rangeAt.keep HRG2.out HO.out.drew⟩) (fun hHeld => ?_)
      refine wpAnyH_take (i := 0) (oi := { dst := some 17, op := Op.move (Operand.tmp 0), type := 40, pos := "ref.go:81", after := #[], guard := none }) (v := .slice (some ⟨bA, oA, none⟩) l.length c) rfl (by kernel_rfl) (by kernel_rfl) (by kernel_rfl) (fun _ _ _ h => h) (Or.inl ⟨by rfl, ?y0⟩) (by assumption) ?r0
      case y0 => intro w hSw; go_simp
      try simp only [Act.put, List.setIfInBounds_toArray, List.set_cons_zero, List.set_cons_succ]
      refine wpAnyH_take (i := 1) (oi := { dst := some 18, op := Op.move (Operand.tmp 5), type := 3, pos := "ref.go:81", after := #[], guard := none }) (v := .int .i64 (j : Int)) rfl (by kernel_rfl) (by kernel_rfl) (by kernel_rfl) (fun _ _ _ h => h) (Or.inl ⟨by rfl, ?y1⟩) (by assumption) ?r1
      case y1 => intro w hSw; go_simp
      try simp only [Act.put, List.setIfInBounds_toArray, List.set_cons_zero, List.set_cons_succ]
      refine wpAnyH_take (i := 2) (oi := { dst := some 19, op := Op.indexAddr 40 (Operand.tmp 17) (Operand.tmp 18), type := 0, pos := "ref.go:81", after := #[{ on := 0, ground := Ground.data }, { on := 1, ground := Ground.data }], guard := none }) (v := .pointer (some ⟨bA, oA + j * 32, none⟩)) rfl (by kernel_rfl) (by kernel_rfl) (by kernel_rfl) (fun _ _ _ h => h) (Or.inl ⟨by rfl, ?y2⟩) (by assumption) ?r2
      case y2 => intro w hSw; go_simp
      try simp only [Act.put, List.setIfInBounds_toArray, List.set_cons_zero, List.set_cons_succ]
      refine wpAnyH_take (i := 3) (oi := { dst := some 20, op := Op.load 24 (Operand.tmp 19), type := 24, pos := "ref.go:81", after := #[{ on := 2, ground := Ground.data }], guard := none }) (v := .agg (u8s x).toArray) rfl (by kernel_rfl) (by kernel_rfl) (by kernel_rfl) (fun _ _ _ h => h) (yieldsIf_load_mid (by rfl) 24 (.tmp 19) rfl bA (oA + j * 32) rfl (u8s x) _ (fun w h => h.1) under24x rfl hi24) (by assumption) ?r3
      try simp only [Act.put, List.setIfInBounds_toArray, List.set_cons_zero, List.set_cons_succ]
      refine wpAnyH_take (i := 4) (oi := { dst := some 21, op := Op.move (Operand.tmp 1), type := 40, pos := "ref.go:81", after := #[], guard := none }) (v := .slice (some ⟨bB, oB, none⟩) l.length d) rfl (by kernel_rfl) (by kernel_rfl) (by kernel_rfl) (fun _ _ _ h => h) (Or.inl ⟨by rfl, ?y4⟩) (by assumption) ?r4
      case y4 => intro w hSw; go_simp
      try simp only [Act.put, List.setIfInBounds_toArray, List.set_cons_zero, List.set_cons_succ]
      refine wpAnyH_take (i := 5) (oi := { dst := some 22, op := Op.move (Operand.tmp 5), type := 3, pos := "ref.go:81", after := #[], guard := none }) (v := .int .i64 (j : Int)) rfl (by kernel_rfl) (by kernel_rfl) (by kernel_rfl) (fun _ _ _ h => h) (Or.inl ⟨by rfl, ?y5⟩) (by assumption) ?r5
      case y5 => intro w hSw; go_simp
      try simp only [Act.put, List.setIfInBounds_toArray, List.set_cons_zero, List.set_cons_succ]
      refine wpAnyH_take (i := 6) (oi := { dst := some 23, op := Op.indexAddr 40 (Operand.tmp 21) (Operand.tmp 22), type := 0, pos := "ref.go:81", after := #[{ on := 4, ground := Ground.data }, { on := 5, ground := Ground.data }], guard := none }) (v := .pointer (some ⟨bB, oB + j * 32, none⟩)) rfl (by kernel_rfl) (by kernel_rfl) (by kernel_rfl) (fun _ _ _ h => h) (Or.inl ⟨by rfl, ?y6⟩) (by assumption) ?r6
      case y6 => intro w hSw; go_simp
      try simp only [Act.put, List.setIfInBounds_toArray, List.set_cons_zero, List.set_cons_succ]
      refine wpAnyH_take (i := 7) (oi := { dst := some 24, op := Op.load 24 (Operand.tmp 23), type := 24, pos := "ref.go:81", after := #[{ on := 6, ground := Ground.data }], guard := none }) (v := .agg (u8s x).toArray) rfl (by kernel_rfl) (by kernel_rfl) (by kernel_rfl) (fun _ _ _ h => h) (yieldsIf_load_mid (by rfl) 24 (.tmp 23) rfl bB (oB + j * 32) rfl (u8s x) _ (fun w h => h.2) under24x rfl hi24) (by assumption) ?r7
      try simp only [Act.put, List.setIfInBounds_toArray, List.set_cons_zero, List.set_cons_succ]
      refine wpAnyH_take (i := 8) (oi := { dst := some 25, op := Op.binOp BinOp.neq 24 (Operand.tmp 20) (Operand.tmp 24) 24, type := 4, pos := "ref.go:81", after := #[{ on := 3, ground := Ground.data }, { on := 7, ground := Ground.data }], guard := none }) (v := .bool false) rfl (by kernel_rfl) (by kernel_rfl) (by kernel_rfl) (fun _ _ _ h => h) (Or.inl ⟨by rfl, ?y8⟩) (by assumption) ?r8
      case y8 => intro w hSw; go_simp
      try simp only [Act.put, List.setIfInBounds_toArray, List.set_cons_zero, List.set_cons_succ]
      refine wpAnyH_done (by kernel_rfl) ?_ _
      go_wp2
      go_roundw
      case rel => exact ⟨j + 1, by have := HLT.out; omega, by push_cast; rfl, HO.out.drew⟩
      case measure => have := HLT.out; simp [intOf]; omega
    · have q : decide ((j : Int) < (l.length : Int)) = false := by simp; omega
      go_wp2
      go_ret
      exact ⟨HO.out, rfl⟩
set_option maxRecDepth 100000 in
set_option maxHeartbeats 3200000 in
theorem items_any {Y Z : Nat → Prop} {A B : Option Addr} {c d : Nat} {l : List (Bytes × Bytes)} {w : World} (hA : RowAt EI 2 Y w A l) (hB : RowAt EI 2 Z w B l) (hl : l.length ≤ 3000000) :
    Calls Tryz.prog 16 #[.slice A l.length c, .slice B l.length d] w (BoolAt true w) := by
  have HA := Lib.hid hA
  have HB := Lib.hid hB
  have HL := Lib.hid hl
  have hlz : (l.length : Int) ≤ 3000000 := by omega
  have q0 : ((l.length : Int) != (l.length : Int)) = false := by simp
  clear hA hB hl
  go_enter Tryz.func16, Tryz.ntmps16
  go_upto_region 4 with (fail)
  go_loopw [5] (fun s5 wr => ∃ j : Nat, j ≤ l.length ∧ s5 = .int .i64 (j : Int) ∧ Only (fun _ => False) w wr) (fun i _ => l.length - (intOf i).toNat)
  case atStart => exact ⟨0, by omega, rfl, Only.refl _ _⟩
  case round =>
    obtain ⟨j, hj, rfl, ho⟩ := hrel
    have HO := Lib.hid ho
    clear ho
    rcases Nat.lt_or_ge j l.length with hlt | hge
    · have q : decide ((j : Int) < (l.length : Int)) = true := by simp; omega
      have hjz : (j : Int) < (l.length : Int) := by omega
      obtain ⟨x, hx⟩ : ∃ x, l[j]? = some x := ⟨l[j], List.getElem?_eq_getElem hlt⟩
      obtain ⟨bA, oA, cs, rfl, hrg, _, d1, d2, rfl, ⟨A1, c1, rfl, hb1, _, _⟩, ⟨A2, c2, rfl, hb2, _, _⟩⟩ := HA.out j x hx
      obtain ⟨bB, oB, cs, rfl, hrg2, _, d1, d2, rfl, ⟨B1, e1, rfl, hb3, _, _⟩, ⟨B2, e2, rfl, hb4, _, _⟩⟩ := HB.out j x hx
      obtain ⟨x1, x2⟩ := x
      simp only at hb1 hb2 hb3 hb4 hrg hrg2
      have HK := Lib.hid (fun w' (h : Only (fun _ => False) w w') => (show w'.cell? ⟨bA, oA + j * 2, none⟩ = some (.slice A1 x1.length c1) ∧ w'.cell? ⟨bA, oA + j * 2 + 1, none⟩ = some (.slice A2 x2.length c2) ∧ w'.cell? ⟨bB, oB + j * 2, none⟩ = some (.slice B1 x1.length e1) ∧ w'.cell? ⟨bB, oB + j * 2 + 1, none⟩ = some (.slice B2 x2.length e2) ∧
          (convert 22 9 (.slice A1 x1.length c1)).run Tryz.prog w' = .ok (.string ⟨x1.toArray⟩) w' ∧ (convert 22 9 (.slice A2 x2.length c2)).run Tryz.prog w' = .ok (.string ⟨x2.toArray⟩) w' ∧ (convert 22 9 (.slice B1 x1.length e1)).run Tryz.prog w' = .ok (.string ⟨x1.toArray⟩) w' ∧ (convert 22 9 (.slice B2 x2.length e2)).run Tryz.prog w' = .ok (.string ⟨x2.toArray⟩) w' from
        ⟨rangeAt.keep hrg h 0 _ rfl, rangeAt.keep hrg h 1 _ rfl, rangeAt.keep hrg2 h 0 _ rfl, rangeAt.keep hrg2 h 1 _ rfl, text_run rfl (hb1.only0 h (fun _ _ _ _ => id)), text_run rfl (hb2.only0 h (fun _ _ _ _ => id)), text_run rfl (hb3.only0 h (fun _ _ _ _ => id)), text_run rfl (hb4.only0 h (fun _ _ _ _ => id))⟩))
      have s1 : (x1 == x1) = true := by simp
      have s2 : (x2 == x2) = true := by simp
      have HLT := Lib.hid hlt
      clear hx hrg hrg2 hlt hb1 hb2 hb3 hb4
      go_upto_region 6 with (fail)
      go_region_held3 (fun w' => w'.cell? ⟨bA, oA + j * 2, none⟩ = some (.slice A1 x1.length c1) ∧ w'.cell? ⟨bA, oA + j * 2 + 1, none⟩ = some (.slice A2 x2.length c2) ∧ w'.cell? ⟨bB, oB + j * 2, none⟩ = some (.slice B1 x1.length e1) ∧ w'.cell? ⟨bB, oB + j * 2 + 1, none⟩ = some (.slice B2 x2.length e2) ∧ (convert 22 9 (.slice A1 x1.length c1)).run Tryz.prog w' = .ok (.string ⟨x1.toArray⟩) w' ∧ (convert 22 9 (.slice A2 x2.length c2)).run Tryz.prog w' = .ok (.string ⟨x2.toArray⟩) w' ∧ (convert 22 9 (.slice B1 x1.length e1)).run Tryz.prog w' = .ok (.string ⟨x1.toArray⟩) w' ∧ (convert 22 9 (.slice B2 x2.length e2)).run Tryz.prog w' = .ok (.string ⟨x2.toArray⟩) w') (exact HK.out _ HO.out.drew) (fail)
      all_goals
        go_wp2
        go_roundw
        case rel => exact ⟨j + 1, by have := HLT.out; omega, by push_cast; rfl, HO.out.drew⟩
        case measure => have := HLT.out; simp [intOf]; omega
    · have q : decide ((j : Int) < (l.length : Int)) = false := by simp; omega
      go_wp2
      go_ret
      exact ⟨HO.out, rfl⟩
end Go.Proofs.YtjehnejgojgahaaGreatDoor
