/-
Plain lemmas: association lists, and that few values can differ.
-/
import Derived.Test.YtckghdhnmpnljaaLib
set_option linter.unusedSimpArgs false
set_option linter.unusedVariables false
namespace Dec
open Go
theorem mget_mset {α β : Type} [DecidableEq α] (l : List (α × β)) (x y : α) (v : β) : mget (mset l x v) y = if y = x then some v else mget l y := by
  induction l with
  | nil => by_cases h : y = x <;> simp [mset, mget, h]
  | cons p r ih =>
    obtain ⟨k, u⟩ := p
    by_cases h : x = k
    · subst h
      by_cases h2 : y = x <;> simp [mset, mget, h2]
    · by_cases h2 : y = k
      · subst h2
        have : ¬ y = x := fun e => h e.symm
        simp [mset, mget, h, this]
      · simp only [mset, if_neg h, mget, if_neg h2, ih]
theorem pigeon : ∀ (N n : Nat) (f : Nat → Nat), (∀ i, i < n → f i < N) → (∀ i j, i < j → j < n → f i ≠ f j) → n ≤ N
  | N, 0, _, _, _ => Nat.zero_le _
  | 0, n + 1, f, h, _ => absurd (h 0 (by omega)) (by omega)
  | N + 1, n + 1, f, h, hd => by
    by_cases hk : ∃ k, k < n + 1 ∧ f k = N
    · obtain ⟨k, hk1, hk2⟩ := hk
      have := pigeon N n (fun i => f (if i < k then i else i + 1)) (fun i hi => by
        have h1 : (if i < k then i else i + 1) < n + 1 := by split <;> omega
        have h2 : (if i < k then i else i + 1) ≠ k := by split <;> omega
        have h3 := h _ h1
        have h4 : f (if i < k then i else i + 1) ≠ N := by
          intro e
          rw [← hk2] at e
          rcases Nat.lt_or_gt_of_ne h2 with h5 | h5
          · exact hd _ _ h5 hk1 e
          · exact hd _ _ h5 h1 e.symm
        show f (if i < k then i else i + 1) < N
        omega) (fun i j hij hj => hd _ _ (by split <;> split <;> omega) (by split <;> omega))
      omega
    · have := pigeon N (n + 1) f (fun i hi => by
        have h1 := h i hi
        have h2 : f i ≠ N := fun e => hk ⟨i, hi, e⟩
        omega) hd
      omega
end Dec
