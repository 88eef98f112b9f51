/-
Plain lemmas on loops and lists, no program in sight.
-/
import Derived.Test.YtljlpmfmfcljaaaDecA
set_option linter.unusedSimpArgs false
set_option linter.unusedVariables false
namespace Dec
open Go
theorem loop_state {τ : Type} {B : Int × τ → (Int × τ → Prop) → Prop} (n : Nat) (st : Nat → τ) (P : Nat → Prop) (h0 : P 0)
    (h : ∀ i : Nat, i ≤ n → P i → ∀ X : Int × τ → Prop, (i < n → P (i + 1) → X ((i : Int) + 1, st (i + 1))) → B ((i : Int), st i) X) : Loop B (0, st 0) := by
  refine Loop.by (fun s => ∃ i : Nat, i ≤ n ∧ P i ∧ s = ((i : Int), st i)) (fun s => ((n : Int) - s.1).toNat) ⟨0, by omega, h0, rfl⟩ ?_
  rintro s ⟨i, hi, hP, rfl⟩ X hX
  exact h i hi hP X fun hlt hP' => hX _ ⟨i + 1, by omega, hP', by simp⟩ (by simp only; omega)
theorem loop_count {B : Int → (Int → Prop) → Prop} (n : Nat) (P : Nat → Prop) (h0 : P 0)
    (h : ∀ i : Nat, i ≤ n → P i → ∀ X : Int → Prop, (i < n → P (i + 1) → X ((i : Int) + 1)) → B (i : Int) X) : Loop B 0 := by
  refine Loop.by (fun s => ∃ i : Nat, i ≤ n ∧ P i ∧ s = (i : Int)) (fun s => ((n : Int) - s).toNat) ⟨0, by omega, h0, rfl⟩ ?_
  rintro s ⟨i, hi, hP, rfl⟩ X hX
  exact h i hi hP X fun hlt hP' => hX _ ⟨i + 1, by omega, hP', by simp⟩ (by omega)
theorem loop_state' {τ : Type} {B : τ × Int → (τ × Int → Prop) → Prop} (n : Nat) (st : Nat → τ) (P : Nat → Prop) (h0 : P 0)
    (h : ∀ i : Nat, i ≤ n → P i → ∀ X : τ × Int → Prop, (i < n → P (i + 1) → X (st (i + 1), (i : Int) + 1)) → B (st i, (i : Int)) X) : Loop B (st 0, 0) := by
  refine Loop.by (fun s => ∃ i : Nat, i ≤ n ∧ P i ∧ s = (st i, (i : Int))) (fun s => ((n : Int) - s.2).toNat) ⟨0, by omega, h0, rfl⟩ ?_
  rintro s ⟨i, hi, hP, rfl⟩ X hX
  exact h i hi hP X fun hlt hP' => hX _ ⟨i + 1, by omega, hP', by simp⟩ (by simp only; omega)
theorem getD_lt {α : Type} {l : List α} {i : Nat} (d : α) (h : i < l.length) : l.getD i d = l[i] := by simp [List.getD, h]
theorem getD_mem {α : Type} {l : List α} {i : Nat} {d : α} (h : i < l.length) : l.getD i d ∈ l := by rw [getD_lt d h]; exact List.getElem_mem h
theorem getD_opt {α : Type} {l : List α} {i : Nat} {d : α} (h : i < l.length) : l[i]? = some (l.getD i d) := by simp [List.getD, h]
end Dec
