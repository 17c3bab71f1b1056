/-
  Vc21: from a contract to the frame of a statement.
-/
import Derived.Test.YtdlddbclcmecjaaDoorVc20
import Derived.RowKit3
set_option linter.unusedVariables false
set_option linter.unusedSimpArgs false
namespace Go.Vc
open Go

theorem grown_of_ext {bor : Nat → Prop} {w w' : World} (hb : ∀ b, ¬ bor b) (h : Ext bor w w') : Go.RowKit.Grown w w' := by
  refine ⟨⟨h.os, h.output, fun i hi => ?_⟩, h.froz, h.size⟩
  rw [h.block i hi (hb i)]
  cases w.heap[i]? with
  | none => rfl
  | some o => cases o <;> first | rfl | exact ⟨rfl, rfl, rfl, fun _ _ => rfl⟩ | exact .inr ⟨rfl, rfl⟩

def inCtx (w : World) : Ctx := handCtx w (fun _ => False) (fun _ => none) []

theorem no_owned (b : Nat) : ¬ owned [] (fun _ => none) b := fun ⟨_, h, _⟩ => h rfl

theorem calls_of_spec {P : Program} {f : FuncId} {args : List AV} {w : World} {xs : Array Value} (h : FSpec0 P f args fun r => r = .bool true) (hg : Glob w ∧ ∀ b, gblk b → b < w.heap.size) (hs : xs.size = args.length)
    (hr : ∀ i v, args[i]? = some v → RepV (inCtx w) v (xs.getD i undef)) : Calls P f xs w fun e w' => e = .returned (.bool true) ∧ Go.RowKit.Grown w w' := by
  refine (h w (fun _ => False) (fun _ => none) xs ⟨hs, hr, fun i j g c d hi => absurd rfl hi, fun i g c hi => absurd rfl hi, (fun i ob hi => by cases hi), hg.1, fun b hb => ⟨hg.2 b hb, no_owned b⟩⟩).mono ?_
  rintro e w' ⟨r, hp', x, ρ', rfl, ⟨rfl, rfl⟩, hb⟩
  have hx : x = .bool true := hb.rep
  subst hx
  exact ⟨rfl, grown_of_ext no_owned hb.ext⟩

theorem inK_of_wf {k : IntKind} {n : Int} (h : (Lit.int k n).wf = true) : inK k n := by
  cases k <;> simp [Lit.wf, IntKind.min, IntKind.max, IntKind.signed, IntKind.bits] at h <;> simp only [inK] <;> omega

end Go.Vc
