/-
  Plain lemmas: association lists, and that few values can differ.
-/
import Derived.Test.YtfpchbpnoggogaaLib
set_option linter.unusedSimpArgs false
set_option linter.unusedVariables false
namespace Dec
open Go
theorem mget_mset {α β : Type} [DecidableEq α] (l : List (α × β)) (x y : α) (v : β) : mget (mset l x v) y = if y = x then some v else mget l y := by
 induction l with
 | nil => by_cases h : y = x <;> simp [mset, mget, h]
 | cons p r ih =>
  obtain ⟨k, u⟩ := p
  by_cases h : x = k
  ·subst h
   by_cases h2 : y = x <;> simp [mset, mget, h2]
  ·by_cases h2 : y = k
   ·subst h2
    have : ¬ y = x := fun e => h e.symm
    simp [mset, mget, h, this]
   ·simp only [mset, if_neg h, mget, if_neg h2, ih]
end Dec
