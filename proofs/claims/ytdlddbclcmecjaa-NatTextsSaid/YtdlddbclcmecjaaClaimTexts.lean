/-
  NatTexts: Print of Parse is the text in small letters without zeros ahead, Parse of Print and FromBytes of Bytes are the number, for any text and any two bases, without conditions.
-/
import Derived.Test.YtdlddbclcmecjaaRows
import Derived.WalkKit
import Derived.Test.YtdlddbclcmecjaaLawTexts
import Derived.Test.YtdlddbclcmecjaaVc24
namespace Go.Proofs.Ytdlddbclcmecjaa.natTexts
open Go.ChangeShapes Go.WideShapes Go.ChangeAt Go.RowKit
set_option linter.unusedVariables false

theorem own : ownKnob Try.prog.godebug = none := by kernel_rfl

set_option maxRecDepth 100000 in
theorem lifted (os : Os) (started : os.Started) (H : Type) (enc : TypeId × Value → H) :
    ReturnsInHanded {} Try.checked os 19 .any (Rows.natTextsSpec.pre6 enc Try.prog Try.f19 [] false) (Rows.natTextsSpec.post enc Try.prog Try.f19 false true false false) := by
  refine Go.Vc.law_lifted (C := Try.checked) own started (by kernel_rfl) Try.func19
    (ChangeSpec.witness6 (enc := enc) (C := Try.checked) false ⟨#[], #[.string ⟨#[]⟩, .int .i64 0, .int .i64 0], []⟩ 8 (by kernel_rfl) (by kernel_rfl) (by kernel_rfl) (by kernel_rfl)) (by kernel_rfl) ?_ rfl ?_ rfl Try.underlying4 ?_
  · intro t h
    rw [Try.params19] at h
    simp at h
    rcases h with rfl | rfl
    all_goals exact ⟨by kernel_rfl, of_decide_eq_true (by kernel_rfl)⟩
  · intro ds h
    rcases ds with _ | ⟨d0, _ | ⟨d1, _ | ⟨d2, _ | ⟨d3, _⟩⟩⟩⟩
    all_goals first | rfl | (rw [Try.params19] at h; simp at h)
  · intro w args ds p hval hA hsz
    rw [Try.params19] at hA hval hsz
    obtain ⟨v0, vs0, d0, ds0, p0, q0, hargs, rfl, rfl, h0, r0⟩ := trodAll_cons hA
    obtain ⟨v1, vs1, d1, ds1, p1, q1, rfl, rfl, rfl, h1, r1⟩ := trodAll_cons r0
    obtain ⟨v2, vs2, d2, ds2, p2, q2, rfl, rfl, rfl, h2, r2⟩ := trodAll_cons r1
    obtain ⟨rfl, rfl, rfl⟩ := trodAll_nil r2
    obtain rfl : args = #[v0, v1, v2] := by cases args; simp_all
    obtain ⟨a0, ra0, wa0⟩ := Go.Vc.in_str Try.underlying9 (hval 0 9 v0 rfl rfl) h0 (List.all_eq_true.2 fun n hn => List.all_eq_true.1 hsz n (DataW.weights_mem_each (j := 0) rfl rfl n hn))
    obtain ⟨a1, ra1, wa1⟩ := Go.Vc.in_int Try.underlying3 (hval 1 3 v1 rfl rfl) h1
    obtain ⟨a2, ra2, wa2⟩ := Go.Vc.in_int Try.underlying3 (hval 2 3 v2 rfl rfl) h2
    have hreach := Go.Vc.reach_le
    refine ⟨[.str a0, .int .i64 a1, .int .i64 a2], Go.Vc.NatTexts_true a0 a1 a2, rfl, fun i v hv => ?_⟩
    cases i with
    | zero => simp at hv; subst hv; exact ra0
    | succ i =>
      cases i with
      | zero => simp at hv; subst hv; exact ra1
      | succ i =>
        cases i with
        | zero => simp at hv; subst hv; exact ra2
        | succ i =>
          simp at hv

theorem over : Rows.natTextsRow.holds Try.pinned (OpenSpec.ofChange Rows.natTextsSpec) :=
  OpenClaim.holds_of_wide 19 Try.f19 rfl rfl rfl rfl rfl rfl rfl ⟨rfl, rfl, rfl, rfl, rfl⟩ rfl rfl rfl rfl rfl (by kernel_rfl) Try.func19 (by kernel_rfl)
    (of_decide_eq_true (by kernel_rfl)) (by unfold Func.isWrapper; first | (rw [if_pos (by decide +kernel)]; kernel_rfl) | (rw [if_neg (by decide +kernel)]; exact ⟨rfl, rfl⟩))
    (fun os started H enc _ => lifted os started H enc)

end Go.Proofs.Ytdlddbclcmecjaa.natTexts

namespace Go.Proofs.Ytdlddbclcmecjaa
theorem NatTextsProved : Rows.NatTextsSaid := natTexts.over
#print axioms NatTextsProved
end Go.Proofs.Ytdlddbclcmecjaa

