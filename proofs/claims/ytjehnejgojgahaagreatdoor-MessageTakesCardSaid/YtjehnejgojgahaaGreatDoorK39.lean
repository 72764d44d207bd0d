/-
  A part of the proof of MessageTakes: the texts C0.
-/
import Derived.Test.YtjehnejgojgahaaGreatDoorK08
import Derived.Test.YtjehnejgojgahaaGreatDoorK24
import Derived.Test.YtjehnejgojgahaaGreatDoorRows
import Derived.Lib.LaidU8T
import Derived.PinnedBridge
import Derived.Shelf.Vars
namespace Go.Proofs.YtjehnejgojgahaaGreatDoor
set_option linter.unusedVariables false
set_option linter.unusedSimpArgs false
open Go.RowKit Go.Lib
theorem tabIs_of_reads {P : Program} {W : World} {name : String} {k : IntKind} {zs : List Int} {g : Nat} {t e : TypeId} {n : Nat}
  (hg : P.globalNamed name = some g) (hty : (P.globals[g]?).map (·.type) = some t) (ht : P.underlying t = some (.array n e)) (he : P.underlying e = some (.int k)) (hce : P.cellsOf e = 1) (hct : P.cellsOf t = n)
  (h : VarReads P W name (tabData k zs)) : TabIs P W name k zs := by
 obtain ⟨g', t', cs, fuel, p, hg', ht', hvar, hd⟩ := h
 obtain rfl := Option.some.inj (hg.symm.trans hg')
 obtain rfl := Option.some.inj (hty.symm.trans ht')
 unfold TabIs
 rw [hvar, ← cells_of_tab ht he hce hct hd]
theorem iface_of_reads {P : Program} {W : World} {name nm : String} {d : DataW Unit} {g : Nat} {t : TypeId} {ms : Array (String × TypeId)}
  (hg : P.globalNamed name = some g) (hty : (P.globals[g]?).map (·.type) = some t) (hu : P.underlying t = some (.interface ms)) (h : VarReads P W name (.iface nm d)) : ∃ T p, W.cell? ⟨g, 0, none⟩ = some (.iface T p) := by
 obtain ⟨g', t', cs, fuel, p, hg', ht', hvar, hd⟩ := h
 obtain rfl := Option.some.inj (hg.symm.trans hg')
 obtain rfl := Option.some.inj (hty.symm.trans ht')
 have hc := World.var?_cell hg hvar 0
 cases fuel with
 | zero => simp [DataW.trod] at hd
 | succ fuel =>
  unfold DataW.trod at hd
  rw [hu] at hd
  match hcs : cs.toList, hd with
  | [.iface T v], _ =>
   refine ⟨T, v, ?_⟩
   rw [hc, ← Array.getElem?_toList, hcs]
   rfl
  | [.nilIface], hd => simp at hd
theorem pow_eq : (Rows.laid_internal_strconv_uint64pow10 : DataW Unit) = tabData .u64 pow10Tab := by kernel_rfl
theorem acc_eq : (Rows.laid_unicode_utf8_acceptRanges : DataW Unit) = acceptData := by kernel_rfl
theorem u8types : U8Types Tryz.prog Tryz.laysValid_ren := ⟨by kernel_rfl, by kernel_rfl, by kernel_rfl, by kernel_rfl⟩
theorem u8extra : U8Extra Tryz.prog Tryz.laysValid_ren := ⟨by kernel_rfl, by kernel_rfl, by kernel_rfl, by kernel_rfl, by kernel_rfl, by kernel_rfl, by kernel_rfl⟩
theorem gl_of {W : World} (hL : laidMetH Tryz.prog Rows.messageBackUptoRow.laid W) (hsh : W.ShapedOpen Tryz.prog) (hsz : 8 ≤ W.heap.size) : Gl W := by
 refine Gl.of ⟨hsz, ?_, ?_, ?_, ?_, ?_⟩
 ·exact iface_of_reads (g := 4) (t := 193) (by kernel_rfl) (by kernel_rfl) Tryz.underlying193 (laidMet.reads hL (.tail _ (.tail _ (.tail _ (.tail _ (.tail _ (.head _)))))))
 ·exact iface_of_reads (g := 5) (t := 193) (by kernel_rfl) (by kernel_rfl) Tryz.underlying193 (laidMet.reads hL (.tail _ (.tail _ (.tail _ (.tail _ (.head _))))))
 ·exact cell_of_shapedOpen_int (zero := #[.int .i64 0]) (t := 3) hsh (of_decide_eq_true (by kernel_rfl)) (by kernel_rfl) rfl (by kernel_rfl) (by kernel_rfl) Tryz.underlying3
 ·refine utf8Tabs_of_readsT (ρ := Tryz.laysValid_ren) u8types u8extra ?_ ?_
  ·rw [← Pinned.utf8First_eq]
   exact laidMet.reads hL (.tail _ (.tail _ (.tail _ (.tail _ (.tail _ (.tail _ (.head _)))))))
  ·rw [← acc_eq]
   exact laidMet.reads hL (.tail _ (.tail _ (.tail _ (.head _))))
 ·refine tabIs_of_reads (g := 3) (t := 257) (e := 25) (n := 20) (by kernel_rfl) (by kernel_rfl) (by kernel_rfl) (by kernel_rfl) (by kernel_rfl) (by kernel_rfl) ?_
  rw [← pow_eq]
  exact laidMet.reads hL (.tail _ (.tail _ (.head _)))
end Go.Proofs.YtjehnejgojgahaaGreatDoor
