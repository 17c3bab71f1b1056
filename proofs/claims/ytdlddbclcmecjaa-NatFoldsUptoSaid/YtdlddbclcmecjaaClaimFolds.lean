/-
  NatFoldsUpto: Sum and Product of a list are the document's, what is handed in stays as it was: where the list and what it holds are together of bulk at most 1048576.
-/
import Derived.Test.YtdlddbclcmecjaaRows
import Derived.WalkKit
import Derived.JoinedCond
import Derived.Test.YtdlddbclcmecjaaLawFolds
import Derived.Test.YtdlddbclcmecjaaVc26
namespace Go.Proofs.Ytdlddbclcmecjaa.natFolds
open Go.ChangeShapes Go.WideShapes Go.ChangeAt Go.RowKit
set_option linter.unusedVariables false

theorem own : ownKnob Try.prog.godebug = none := by kernel_rfl

set_option maxRecDepth 100000 in
theorem lifted (os : Os) (started : os.Started) (H : Type) (enc : TypeId × Value → H) (F : Stop.Interp) :
    ReturnsInHanded {} Try.checked os 10 .any ((Rows.OpenSpec.upto Rows.natFoldsSpec).pre6 enc Try.prog Try.f10 [] false) (((Rows.OpenSpec.upto Rows.natFoldsSpec).at F).post enc Try.prog Try.f10 false true false false) := by
  refine Go.Vc.law_lifted_upto (C := Try.checked) own started (by kernel_rfl) Try.func10
    (OpenSpec.witness (enc := enc) (C := Try.checked) (s := (Rows.OpenSpec.upto Rows.natFoldsSpec)) (k := Rows.uptoSmall) rfl false ⟨#[], #[.slice none 0 0], []⟩ 8 (by kernel_rfl) (by kernel_rfl) (by kernel_rfl) (x := ([.nil], [], [])) (by kernel_rfl) rfl (by kernel_rfl)) (by kernel_rfl) ?_ rfl ?_ rfl Try.underlying4 ?_
  · intro t h
    rw [Try.params10] at h
    simp at h
    rcases h with rfl
    all_goals exact ⟨by kernel_rfl, of_decide_eq_true (by kernel_rfl)⟩
  · intro ds h
    rcases ds with _ | ⟨d0, _ | ⟨d1, _⟩⟩
    all_goals first | rfl | (rw [Try.params10] at h; simp at h)
  · intro w args ds p hval hA hsz hbk
    rw [Try.params10] at hA hval hsz
    obtain ⟨v0, vs0, d0, ds0, p0, q0, hargs, rfl, rfl, h0, r0⟩ := trodAll_cons hA
    obtain ⟨rfl, rfl, rfl⟩ := trodAll_nil r0
    obtain rfl : args = #[v0] := by cases args; simp_all
    obtain ⟨a0, ra0, wa0⟩ := Go.Vc.inB_slice Try.underlying78 (Go.Vc.rdB_slice Try.underlying78 (by kernel_rfl) (by decide) (of_decide_eq_true (by kernel_rfl)) (Go.Vc.rdB_slice Try.underlying24 (by kernel_rfl) (by decide) (of_decide_eq_true (by kernel_rfl)) (Go.Vc.RdB.of <| Go.Vc.rd_int Try.underlying99))) (hval 0 78 v0 rfl rfl) h0 (List.all_eq_true.2 fun n hn => List.all_eq_true.1 hsz n (DataW.weights_mem_each (j := 0) rfl rfl n hn)) (Nat.le_trans (Go.Vc.bulk_part (List.mem_of_getElem? (i := 0) rfl)) hbk)
    rw [show Try.prog.bytesOf 24 = 24 by kernel_rfl] at wa0
    have hreach := Go.Vc.reach_le
    refine ⟨[.ro false 1 (Go.Vc.encR 1 (Go.Vc.encI .u32)) a0], Go.Vc.NatFolds_true a0 (wa0.1.2) (fun x hx => (wa0.2 x hx).1.2), rfl, fun i v hv => ?_⟩
    cases i with
    | zero => simp at hv; subst hv; exact ra0
    | succ i =>
      simp at hv

theorem over : Rows.natFoldsUptoRow.holds Try.pinned (Rows.OpenSpec.upto Rows.natFoldsSpec) :=
  OpenClaim.holds_of_cond 10 Try.f10 rfl rfl rfl rfl rfl rfl rfl ⟨rfl, rfl, rfl, rfl, rfl⟩ rfl rfl rfl rfl rfl (by kernel_rfl) Try.func10 (by kernel_rfl)
    (of_decide_eq_true (by kernel_rfl)) (by unfold Func.isWrapper; first | (rw [if_pos (by decide +kernel)]; kernel_rfl) | (rw [if_neg (by decide +kernel)]; exact ⟨rfl, rfl⟩))
    (fun os started H enc _ F => lifted os started H enc F)

end Go.Proofs.Ytdlddbclcmecjaa.natFolds

namespace Go.Proofs.Ytdlddbclcmecjaa
theorem NatFoldsUptoProved : Rows.NatFoldsUptoSaid := natFolds.over
#print axioms NatFoldsUptoProved
end Go.Proofs.Ytdlddbclcmecjaa

