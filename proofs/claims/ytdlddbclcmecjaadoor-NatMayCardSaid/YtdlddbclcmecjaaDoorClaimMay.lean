/-
  NatMay: May, Uint, Bits, Ones, Tail and bit i are the document's, for any list of limbs and any i, without conditions; what is handed in stays as it was. The card: the table of TrailingZeros32 starts as the program's text lays it.
-/
import Derived.Test.YtdlddbclcmecjaaDoorCards
import Derived.Test.YtdlddbclcmecjaaDoorTie
import Derived.WalkKit
import Derived.Test.YtdlddbclcmecjaaDoorLawMay
import Derived.Test.YtdlddbclcmecjaaDoorVc27
namespace Go.Proofs.YtdlddbclcmecjaaDoor.natMay
open Go.ChangeShapes Go.WideShapes Go.ChangeAt Go.RowKit
set_option linter.unusedVariables false

theorem own : ownKnob Tryd.prog.godebug = none := by kernel_rfl

theorem gTab : Tryd.prog.globalNamed "math/bits.deBruijn32tab" = some 0 := by kernel_rfl
theorem gTabType : (Tryd.prog.globals[0]?).map (·.type) = some 59 := by kernel_rfl
theorem cellsT : Tryd.prog.cellsOf 59 = 32 := by kernel_rfl
theorem cells5 : Tryd.prog.cellsOf 5 = 1 := by kernel_rfl

def tab : List Int := [0, 1, 28, 2, 29, 14, 24, 3, 30, 22, 20, 15, 25, 17, 4, 8, 31, 27, 13, 23, 21, 19, 16, 7, 26, 12, 18, 6, 11, 5, 10, 9]
theorem glob {W : World} (h : laidMetH Tryd.prog Rows.natMayRow.laid W) : Go.Vc.Glob W ∧ ∀ b, Go.Vc.gblk b → b < W.heap.size := by
  have ht : Lib.TabIs Tryd.prog W "math/bits.deBruijn32tab" .u8 tab := Lib.tabIs_of_head (rest := []) gTab gTabType Tryd.underlying59 Tryd.underlying5 cells5 cellsT h
  have hc : ∀ i, i < 32 → W.cell? ⟨0, i, none⟩ = some (.int .u8 (tab.getD i 0)) := fun i hi => ht.cell gTab i hi
  refine ⟨fun i v hv => ?_, fun b hb => ?_⟩
  · have hl := (List.getElem?_eq_some_iff.1 hv).1
    rw [hc i hl]; congr 2
    show (tab[i]?).getD 0 = v
    rw [show tab[i]? = some v from hv]; rfl
  · have h0 := (Go.Vc.spot_none (hc 0 (by omega))).2
    have hb : b = 0 := hb
    subst hb; exact h0

noncomputable def laidWorld (os : Os) : World :=
  { World.holding Tryd.prog os ⟨#[], #[], []⟩ with heap := (World.holding Tryd.prog os ⟨#[], #[], []⟩).heap.modify 0 fun
      | .cells _ t frozen => .cells (tab.map fun z => Value.int .u8 z).toArray t frozen
      | o => o }
theorem laid_met (os : Os) : laidMet Tryd.prog Rows.natMayRow.laid ((laidWorld os).forCall (fun _ _ => 0) ⟨#[], #[.slice none 0 0, .int .i64 0], []⟩).memory :=
  laidMet_of_run' 8 (by kernel_rfl) (by kernel_rfl)
theorem reads (os : Os) {H : Type} (enc : TypeId × Value → H) : ∃ places, DataW.whole enc Tryd.prog ((laidWorld os).forCall (fun _ _ => 0) ⟨#[], #[.slice none 0 0, .int .i64 0], []⟩).memory Tryd.f3.params.toList Rows.natMaySpec.vars false (#[.slice none 0 0, .int .i64 0] : Array Value).toList 8 = some ([.nil, .lit (.int .i64 0)], [], places) :=
  ⟨[], by kernel_rfl⟩

set_option maxRecDepth 100000 in
theorem lifted (os : Os) (started : os.Started) (H : Type) (enc : TypeId × Value → H) (F : Stop.Interp) :
    ReturnsInHanded {} Tryd.checked os 3 .any ((OpenSpec.ofChange Rows.natMaySpec).preRow enc Tryd.prog Tryd.f3 Rows.natMayRow.domain false Rows.natMayRow.laid) (((OpenSpec.ofChange Rows.natMaySpec).at F).post enc Tryd.prog Tryd.f3 false true false false) := by
  obtain ⟨places, hx⟩ := reads os enc
  refine Go.Vc.law_lifted_row (C := Tryd.checked) own started (by kernel_rfl) Tryd.func3
    (witness_row_at (enc := enc) (C := Tryd.checked) (s := (OpenSpec.ofChange Rows.natMaySpec)) false (laidWorld os) #[.slice none 0 0, .int .i64 0] rfl (by kernel_rfl) (by kernel_rfl) (by kernel_rfl)
      (OpenSpec.preRow_of_cond 8 hx (by kernel_rfl) (fun k hk => by cases hk) (by kernel_rfl) (laid_met os))) (by kernel_rfl) ?_ rfl ?_ rfl Tryd.underlying4 (fun W h => glob h) ?_
  · intro t h
    rw [Tryd.params3] at h
    simp at h
    rcases h with rfl | rfl
    all_goals exact ⟨by kernel_rfl, of_decide_eq_true (by kernel_rfl)⟩
  · intro ds h
    rcases ds with _ | ⟨d0, _ | ⟨d1, _ | ⟨d2, _⟩⟩⟩
    all_goals first | rfl | (rw [Tryd.params3] at h; simp at h)
  · intro w args ds p hval hA hsz
    rw [Tryd.params3] at hA hval hsz
    obtain ⟨v0, vs0, d0, ds0, p0, q0, hargs, rfl, rfl, h0, r0⟩ := trodAll_cons hA
    obtain ⟨v1, vs1, d1, ds1, p1, q1, rfl, rfl, rfl, h1, r1⟩ := trodAll_cons r0
    obtain ⟨rfl, rfl, rfl⟩ := trodAll_nil r1
    obtain rfl : args = #[v0, v1] := by cases args; simp_all
    obtain ⟨a0, ra0, wa0⟩ := Go.Vc.in_slice Tryd.underlying23 (Go.Vc.rd_slice Tryd.underlying23 (by kernel_rfl) (by decide) (of_decide_eq_true (by kernel_rfl)) (Go.Vc.rd_int Tryd.underlying46)) (hval 0 23 v0 rfl rfl) h0 (List.all_eq_true.2 fun n hn => List.all_eq_true.1 hsz n (DataW.weights_mem_each (j := 0) rfl rfl n hn))
    rw [show Tryd.prog.bytesOf 46 = 4 by kernel_rfl] at wa0
    obtain ⟨a1, ra1, wa1⟩ := Go.Vc.in_int Tryd.underlying3 (hval 1 3 v1 rfl rfl) h1
    have hreach := Go.Vc.reach_le
    refine ⟨[.ro false 1 (Go.Vc.encI .u32) a0, .int .i64 a1], Go.Vc.NatMay_true a0 a1 (by omega), rfl, fun i v hv => ?_⟩
    cases i with
    | zero => simp at hv; subst hv; exact ra0
    | succ i =>
      cases i with
      | zero => simp at hv; subst hv; exact ra1
      | succ i =>
        simp at hv

theorem said : Rows.NatMaySaid :=
  OpenClaim.holds_of_cond 3 Tryd.f3 rfl rfl rfl rfl rfl rfl rfl ⟨rfl, rfl, rfl, rfl, rfl⟩ rfl rfl rfl rfl rfl (by kernel_rfl) Tryd.func3 (by kernel_rfl)
    (of_decide_eq_true (by kernel_rfl)) (by unfold Func.isWrapper; first | (rw [if_pos (by decide +kernel)]; kernel_rfl) | (rw [if_neg (by decide +kernel)]; exact ⟨rfl, rfl⟩))
    (fun os started H enc _ F => by rw [OpenClaim.pre_eq_preRow]; exact lifted os started H enc F)

theorem plain (f : FuncId) (fn : Func) (hf : Tryd.pinned.checked.prog.funcNamed "slope/slopelaw1.NatMay" = some f) (hfn : Tryd.pinned.checked.prog.funcs[f]? = some fn) :
    false = Tryd.pinned.checked.prog.looks [] ∧ ∀ (j : Nat) t, fn.params[j]? = some t → Tryd.pinned.checked.prog.wantsStandIn t = false := by
  obtain rfl : f = 3 := Option.some.inj ((show Tryd.prog.funcNamed "slope/slopelaw1.NatMay" = some 3 by kernel_rfl).symm.trans hf) |>.symm
  obtain rfl : fn = Tryd.f3 := (Option.some.inj (Tryd.func3.symm.trans hfn)).symm
  refine ⟨by kernel_rfl, fun j t ht => ?_⟩
  rw [Tryd.params3] at ht
  have ht := Array.mem_of_getElem? ht
  simp at ht
  rcases ht with rfl | rfl
  all_goals first | exact (show Tryd.prog.wantsStandIn _ = false by kernel_rfl)

end Go.Proofs.YtdlddbclcmecjaaDoor.natMay

namespace Go.Proofs.YtdlddbclcmecjaaDoor
theorem NatMayCardProved : Rows.NatMayCardSaid :=
  Claim7.holds_tied_plain_at .later [] _ _ _ _ natMay.said (fun _ h => by cases h) (by kernel_rfl) (fun _ h => by cases h) natMay_row_tie rfl ⟨rfl, rfl⟩ (by kernel_rfl) rfl natMay.plain (by kernel_rfl)
#print axioms NatMayCardProved
end Go.Proofs.YtdlddbclcmecjaaDoor

