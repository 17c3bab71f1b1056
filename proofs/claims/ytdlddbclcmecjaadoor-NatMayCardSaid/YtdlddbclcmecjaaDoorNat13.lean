/-
  And, Or, Xor, Not: the program's and the document's.
-/
import Derived.Test.YtdlddbclcmecjaaDoorNat12
set_option linter.unusedVariables false
set_option linter.unusedSimpArgs false
namespace Go.Vc
open Go
open Go.Proofs



def opN (w : Nat) (x y : Int) : Int := match w with
  | 0 => ((x.toNat &&& y.toNat : Nat) : Int)
  | 1 => ((x.toNat ||| y.toNat : Nat) : Int)
  | 2 => ((x.toNat ^^^ y.toNat : Nat) : Int)
  | _ => ((x.toNat ^^^ (x.toNat &&& y.toNat) : Nat) : Int)
def zipF (w : Nat) (a b : List Int) (i : Nat) : Int := opN w (a.getD i 0) (b.getD i 0)
def zipW (w : Nat) (a b : List Int) : List Int := (List.range (max a.length b.length)).map (zipF w a b)
def meetL (w : Nat) (a b : List Int) : List Int := if may a ∧ may b then limbs (val (zipW w a b)) else []
def meetE (a b : List Int) : Int := if may a ∧ may b then 0 else 20

theorem opN_u32 (w : Nat) {x y : Int} (hx : 0 ≤ x ∧ x < 4294967296) (hy : 0 ≤ y ∧ y < 4294967296) : 0 ≤ opN w x y ∧ opN w x y < 4294967296 := by
  have h1 : x.toNat < 2 ^ 32 := by omega
  have h2 : y.toNat < 2 ^ 32 := by omega
  have a1 := Nat.and_lt_two_pow x.toNat h2
  have a2 := Nat.or_lt_two_pow h1 h2
  have a3 := Nat.xor_lt_two_pow h1 h2
  have a4 := Nat.xor_lt_two_pow h1 a1
  unfold opN
  split <;> omega
theorem zipF_u32 (w : Nat) {a b : List Int} (la : lim a) (lb : lim b) (i : Nat) : 0 ≤ zipF w a b i ∧ zipF w a b i < 4294967296 := opN_u32 w (la.getD i) (lb.getD i)
theorem lim_zip (w : Nat) {a b : List Int} (la : lim a) (lb : lim b) (n : Nat) : lim ((List.range n).map (zipF w a b)) := fun x hx => by
  obtain ⟨i, _, rfl⟩ := List.mem_map.1 hx
  exact zipF_u32 w la lb i
theorem map_succ (f : Nat → Int) (n : Nat) : (List.range (n + 1)).map f = (List.range n).map f ++ [f n] := by rw [List.range_succ, List.map_append]; rfl

end Go.Vc
