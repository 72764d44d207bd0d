/-
  A part of the proof of MessageBack (bulk at most 1048576): the texts Y1.
-/
import Derived.Test.YtjehnejgojgahaaGreatDoorU19
import Derived.Lib.SlBytesConst
import Derived.ArgAppend

/- Y1 -/
namespace Go.Proofs.YtjehnejgojgahaaGreatDoor
open Go.RowKit
set_option linter.unusedVariables false
set_option linter.unusedSimpArgs false

def mk4 : Bytes := [8, 7, 0, 64]
theorem own_lit {w : World} {g c : Nat} {l : Bytes} {base : Nat} (hb : Blk w g (u8s l) 5) (hc : c = l.length) (hle : base ≤ g) (hm : l.length ≤ 1000000) : OwnB w base (.slice (some ⟨g, 0, none⟩) l.length c) l := by
  subst hc
  refine ⟨by unfold cellsB; simp, .inr ⟨g, l.length, (u8s l).toArray, rfl, hle, hb, Nat.le_refl _, by unfold maxLen; omega, by simp [u8s_length], ?_⟩⟩
  rw [Nat.mul_one, List.take_of_length_le (by simp [u8s_length])]
  rfl
def MarkAt (s : Bytes) (w : World) (e : Ending) (w' : World) : Prop :=
  Only (fun _ => False) w w' ∧ ∃ A c, e = .returned (.slice A 68 c) ∧ BytesAt w' A (mk4 ++ s) ∧ 68 ≤ c
set_option maxRecDepth 100000 in
set_option maxHeartbeats 1600000 in
theorem mark_any {s : Bytes} {w : World} (hs : s.length = 64) : Calls Tryz.prog 57 #[.agg (u8s s).toArray] w (MarkAt s w) := by
  have HS := Lib.hid hs
  clear hs
  go_enter Tryz.func57, Tryz.ntmps57
  go_upto_region 1 with (refine wpList_box_blk rfl 26 1 (.tmp 0) rfl rfl rfl ?_; intro w1 hb1 ho1 hs1; have HB1 := Lib.hid hb1; have HO1 := Lib.hid ho1; have HS1 := Lib.hid hs1; clear hb1 ho1 hs1; generalize hg : w.heap.size = g1 at HB1 HS1 ⊢; have HG1 := Lib.hid hg; clear hg)
  have hcv := Lib.run_convert_bytes_const (P := Tryz.prog) w1 22 5 #[.int .u8 8, .int .u8 7, .int .u8 0, .int .u8 64] 4 4 under22 under5
  go_wp2_with (refine stop_append (t := 22) rfl ?_)
  refine ⟨?_⟩
  obtain ⟨i0, hi, hz0, hz1, hz2⟩ := info_parts info5
  have hold : ∀ j u, (u8s mk4)[j]? = some u → (w1.alloc (.cells #[.int .u8 8, .int .u8 7, .int .u8 0, .int .u8 64] 5 (4, 4 + 1))).cell? ((⟨w1.heap.size, 0, none⟩ : Addr).add j) = some u := by
    intro j u hj
    rw [Addr.add_mid, Nat.zero_add, World.cell?_alloc_mark]
    rw [← hj, ← List.getElem?_toArray]; rfl
  refine wpList_append_grows _ rfl (.tmp 4) (.tmp 5) 22 rfl 5 i0 (.int .u8 0) 1 1 under22 hi hz0 hz1 hz2 rfl (by decide) (some ⟨w1.heap.size, 0, none⟩) 4 4 (u8s mk4) rfl (by simp) rfl (fun b hb => by cases hb; exact hold) ⟨g1, 0, none⟩ 64 64 (u8s s) rfl (by rw [u8s_length, HS.out]) (news_of (HB1.out.alloc _)) (by simpa using u8s_one s) (by decide) (by unfold maxLen; omega) (by omega) ?_
  intro v3 w3 hown hgr
  have ho2 : OwnB w3 w.heap.size v3 (mk4 ++ s) := by
    unfold OwnB
    rw [show (mk4 ++ s).length = 4 + 64 by rw [List.length_append, HS.out]; rfl, show cellsB (mk4 ++ s) = u8s mk4 ++ u8s s by unfold cellsB u8s; simp]
    exact own_mono hown (by have := HG1.out; have := HS1.out; simp; omega)
  have HOWN := Lib.hid ho2
  have HGR := Lib.hid hgr
  obtain ⟨A3, c3, rfl⟩ := ho2.form
  have HCP := Lib.hid (show 68 ≤ c3 by
    have h68 : (mk4 ++ s).length = 68 := by rw [List.length_append, HS.out]; rfl
    rw [h68] at hown
    rcases hown.2 with ⟨e, h0⟩ | ⟨g, cap', cur, e, _, _, hle, _⟩
    · omega
    · cases e; exact hle)
  have hl68 : (mk4 ++ s).length = 68 := by rw [List.length_append, HS.out]; rfl
  rw [hl68]
  clear hown hgr hi hz0 hz1 hz2 hold hcv ho2
  go_wp2
  go_ret
  refine ⟨?_, A3, c3, rfl, HOWN.out.bytes.2, HCP.out⟩
  exact (HO1.out.alloc _).then (Only.ofGrown HGR.out) (fun i hi e => by cases e)
end Go.Proofs.YtjehnejgojgahaaGreatDoor
