/-
  Handing in copies, and asking whether they are as they were: calls.
-/
import Derived.Test.YtdlddbclcmecjaaDoorNat3
import Derived.Test.YtdlddbclcmecjaaDoorVc22
set_option linter.unusedVariables false
set_option linter.unusedSimpArgs false
namespace Go.Vc
open Go
open Go.Proofs

theorem lends_given (L : List (List Int)) : lends (given L) (given L) (given L) := by
  simp [lends, lend, given, hget, subL, sub, List.replicate_succ]

theorem given_ne {L : List (List Int)} {i : Nat} (h : hget (given L) i ≠ none) : i = 1000 ∨ i = 1001 ∨ i = 1002 := by
  unfold given at h
  simp only [hget] at h
  by_cases e1 : 1000 = i
  · omega
  · by_cases e2 : 1001 = i
    · omega
    · by_cases e3 : 1002 = i
      · omega
      · rw [if_neg e1, if_neg e2, if_neg e3] at h; exact absurd rfl h
theorem given_has (L : List (List Int)) {i : Nat} (h : i = 1000 ∨ i = 1001 ∨ i = 1002) : hget (given L) i ≠ none := by
  rcases h with rfl | rfl | rfl <;> simp [given, hget]

theorem after_given (env : Env) (L L' : List (List Int)) (d : Nat) (r : AV) : after ⟨env, given L⟩ (given L) (some d) r (given L') = ⟨eset (killE 1001 (killE 1002 env)) d r, given L'⟩ := by
  simp only [given, after, killM, killMH, hupd, hset, hget, OB.fixed, killH, killO, killC, put_some, reduceIte, Nat.reduceEqDiff, Nat.reduceLT, Bool.not_true, Bool.not_false, Bool.false_eq_true, List.map_cons, List.map_nil, reduceCtorEq, List.replicate_succ, List.replicate_zero]

theorem callGive {Q : St → Prop} {k : List It} {env : Env} {d : Nat} {fr : Bool} {a : List Int} (L : List (List Int)) (ha : (a.length + 6) * 4 ≤ 140737488355328) (hL : (L.length + 1) * 24 ≤ 140737488355328)
    (hk : run Tryd.prog Q k ⟨eset (killE 1001 (killE 1002 env)) d (uL true a), given (L ++ [a ++ marks])⟩) : callK Tryd.prog Q k (some d) ⟨env, given L⟩ 5 [.bptr 1000 0, uL fr a] :=
  callL1 (Given_Nat fr a L ha hL) (subs_bptr (by simp [given, hget]) (subs_ro subs_nil)) (lends_given L) (fun i hi => .inl (given_has L (given_ne hi))) (by rw [after_given]; exact hk)

theorem callIntact {Q : St → Prop} {k : List It} {env : Env} {d : Nat} (L : List (List Int)) (hL : L.length ≤ 281474976710656)
    (hk : run Tryd.prog Q k ⟨eset (killE 1001 (killE 1002 env)) d (.bool true), given L⟩) : callK Tryd.prog Q k (some d) ⟨env, given L⟩ 17 [.bptr 1000 0] :=
  callL1 (Given_Intact L hL) (subs_bptr (by simp [given, hget]) subs_nil) (lends_given L) (fun i hi => .inl hi) (by rw [after_given]; exact hk)

/-! ### rows beside it -/
theorem hget_append (h X : Heap) (i : Nat) : hget (h ++ X) i = match hget h i with | some o => some o | none => hget X i := by
  induction h with
  | nil => rfl
  | cons p t ih =>
    obtain ⟨j, o⟩ := p
    simp only [List.cons_append, hget, ih]
    by_cases e : j = i <;> simp [e]
theorem given_none (L : List (List Int)) {i : Nat} (h : i < 1000) : hget (given L) i = none := by
  cases h1 : hget (given L) i with
  | none => rfl
  | some o => have := given_ne (L := L) (i := i) (by rw [h1]; simp); omega
theorem given_get (L : List (List Int)) (X : Heap) {i : Nat} (h : i < 1000) : hget (given L ++ X) i = hget X i := by rw [hget_append, given_none L h]
theorem hset_append (h X : Heap) (i : Nat) (o : OB) (hn : hget h i = none) : hset (h ++ X) i o = h ++ hset X i o := by
  induction h with
  | nil => rfl
  | cons p t ih =>
    obtain ⟨j, q⟩ := p
    simp only [hget] at hn
    by_cases e : j = i
    · simp [e] at hn
    · rw [if_neg e] at hn
      simp only [List.cons_append, hset, if_neg e, ih hn]
theorem given_set (L : List (List Int)) (X : Heap) {i : Nat} (o : OB) (h : i < 1000) : hset (given L ++ X) i o = given L ++ hset X i o := hset_append _ _ _ _ (given_none L h)
theorem given_set0 (L : List (List Int)) {i : Nat} (o : OB) (h : i < 1000) : hset (given L) i o = given L ++ [(i, o)] := by
  have := given_set L [] (i := i) o h
  rwa [List.append_nil] at this
theorem killH_nil (i : Nat) : killH i [] = [] := rfl
theorem killH_cons (i j : Nat) (o : OB) (t : Heap) : killH i ((j, o) :: t) = (j, killO i o) :: killH i t := rfl
theorem given_kill (L : List (List Int)) (X : Heap) {i : Nat} (h : i < 1000) : killH i (given L ++ X) = given L ++ killH i X := by
  have e1 : ¬ 1001 = i := by omega
  have e2 : ¬ 1002 = i := by omega
  simp only [given, List.cons_append, List.nil_append, killH, List.map_cons, List.map_nil, killO, killC, e1, e2, if_false, List.map_replicate, List.map_append]

theorem after_givenX (env : Env) (L L' : List (List Int)) (X : Heap) (d : Nat) (r : AV) : after ⟨env, given L ++ X⟩ (given L) (some d) r (given L') = ⟨eset (killE 1001 (killE 1002 env)) d r, given L' ++ killH 1001 (killH 1002 X)⟩ := by
  simp only [given, after, killM, killMH, hupd, hset, hget, OB.fixed, killH, killO, killC, put_some, reduceIte, Nat.reduceEqDiff, Nat.reduceLT, Bool.not_true, Bool.not_false, Bool.false_eq_true, List.map_cons, List.map_nil, reduceCtorEq, List.replicate_succ, List.replicate_zero, List.cons_append, List.nil_append]

theorem lends_givenX (L : List (List Int)) (X : Heap) : lends (given L ++ X) (given L) (given L) := by
  simp [lends, lend, given, hget, subL, sub, List.replicate_succ]

theorem callGiveX {Q : St → Prop} {k : List It} {env : Env} {d : Nat} {fr : Bool} {a : List Int} (L : List (List Int)) (X : Heap) (ha : (a.length + 6) * 4 ≤ 140737488355328) (hL : (L.length + 1) * 24 ≤ 140737488355328)
    (hk : run Tryd.prog Q k ⟨eset (killE 1001 (killE 1002 env)) d (uL true a), given (L ++ [a ++ marks]) ++ killH 1001 (killH 1002 X)⟩) : callK Tryd.prog Q k (some d) ⟨env, given L ++ X⟩ 5 [.bptr 1000 0, uL fr a] :=
  callL1 (Given_Nat fr a L ha hL) (subs_bptr (by simp [given, hget]) (subs_ro subs_nil)) (lends_givenX L X) (fun i hi => .inl (given_has L (given_ne hi))) (by rw [after_givenX]; exact hk)
theorem callIntactX {Q : St → Prop} {k : List It} {env : Env} {d : Nat} (L : List (List Int)) (X : Heap) (hL : L.length ≤ 281474976710656)
    (hk : run Tryd.prog Q k ⟨eset (killE 1001 (killE 1002 env)) d (.bool true), given L ++ killH 1001 (killH 1002 X)⟩) : callK Tryd.prog Q k (some d) ⟨env, given L ++ X⟩ 17 [.bptr 1000 0] :=
  callL1 (Given_Intact L hL) (subs_bptr (by simp [given, hget]) subs_nil) (lends_givenX L X) (fun i hi => .inl hi) (by rw [after_givenX]; exact hk)

end Go.Vc
