/-
Plain lemmas on loops and lists, no program in sight.
-/
import Derived.Test.YtljlpmfmfcljaaaDecA
set_option linter.unusedSimpArgs false
set_option linter.unusedVariables false
namespace Dec
open Go
theorem loop_count {B : Int → (Int → Prop) → Prop} (n : Nat) (P : Nat → Prop) (h0 : P 0)
    (h : ∀ i : Nat, i ≤ n → P i → ∀ X : Int → Prop, (i < n → P (i + 1) → X ((i : Int) + 1)) → B (i : Int) X) : Loop B 0 := by
  refine Loop.by (fun s => ∃ i : Nat, i ≤ n ∧ P i ∧ s = (i : Int)) (fun s => ((n : Int) - s).toNat) ⟨0, by omega, h0, rfl⟩ ?_
  rintro s ⟨i, hi, hP, rfl⟩ X hX
  exact h i hi hP X fun hlt hP' => hX _ ⟨i + 1, by omega, hP', by simp⟩ (by omega)
theorem getD_lt {α : Type} {l : List α} {i : Nat} (d : α) (h : i < l.length) : l.getD i d = l[i] := by simp [List.getD, h]
theorem getD_mem {α : Type} {l : List α} {i : Nat} {d : α} (h : i < l.length) : l.getD i d ∈ l := by rw [getD_lt d h]; exact List.getElem_mem h
theorem ext_getD {α : Type} (d : α) {a b : List α} (hl : a.length = b.length) (h : ∀ i, i < a.length → a.getD i d = b.getD i d) : a = b := by
  apply List.ext_getElem hl
  intro i h1 h2
  have := h i h1
  rwa [getD_lt d h1, getD_lt d h2] at this
end Dec
