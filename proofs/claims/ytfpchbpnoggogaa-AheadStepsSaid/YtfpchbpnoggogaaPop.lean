/-
  Counting below a bound, sets of names as words: plain Lean.
-/
import Derived.Test.YtfpchbpnoggogaaBits
set_option linter.unusedSimpArgs false
set_option linter.unusedVariables false
namespace Dec
open Go
open Classical in
noncomputable def howMany (P : Nat → Prop) : Nat → Nat
  | 0 => 0
  | t + 1 => howMany P t + if P t then 1 else 0
theorem howMany_le (P : Nat → Prop) : ∀ t, howMany P t ≤ t
  | 0 => Nat.le_refl _
  | t + 1 => by have := howMany_le P t; unfold howMany; split <;> omega
theorem howMany_mono {P Q : Nat → Prop} : ∀ t, (∀ i, i < t → P i → Q i) → howMany P t ≤ howMany Q t
  | 0, _ => Nat.le_refl _
  | t + 1, h => by
    have := howMany_mono t fun i hi => h i (by omega)
    have h2 := h t (by omega)
    unfold howMany
    by_cases hp : P t
    · rw [if_pos hp, if_pos (h2 hp)]; omega
    · rw [if_neg hp]; omega
theorem howMany_lt {P Q : Nat → Prop} : ∀ t, (∀ i, i < t → P i → Q i) → (∃ i, i < t ∧ Q i ∧ ¬ P i) → howMany P t < howMany Q t
  | 0, _, ⟨i, hi, _⟩ => absurd hi (by omega)
  | t + 1, h, ⟨i, hi, hq, hp⟩ => by
    have h0 := howMany_mono t fun i hi => h i (by omega)
    have h2 := h t (by omega)
    unfold howMany
    by_cases hit : i = t
    · subst hit
      rw [if_neg hp, if_pos hq]; omega
    · have := howMany_lt t (fun i hi => h i (by omega)) ⟨i, by omega, hq, hp⟩
      by_cases hpt : P t
      · rw [if_pos hpt, if_pos (h2 hpt)]; omega
      · rw [if_neg hpt]; omega
noncomputable def popc (s : Int) : Nat := howMany (fun i => bt s i = true) 32
theorem popc_le (s : Int) : popc s ≤ 32 := howMany_le _ _
theorem popc_lt {s t : Int} (hs : U32 s) (ht : U32 t) (h : ∀ i, bt s i = true → bt t i = true) (hne : t ≠ s) : popc s < popc t := by
  refine howMany_lt 32 (fun i _ => h i) ?_
  refine Classical.byContradiction fun hno => hne ?_
  refine u32_ext ht hs fun i hi => ?_
  cases hb : bt s i with
  | true => exact h i hb
  | false =>
    cases hc : bt t i with
    | false => rfl
    | true => exact absurd ⟨i, hi, hc, by rw [hb]; simp⟩ hno
theorem bt_or1 {s : Int} {n : Nat} (hs : U32 s) (hn : n < 32) (i : Nat) : bt (bOr .u32 s (bShl .u32 1 (n : Int))) i = (bt s i || decide (n = i)) := by
  rw [bt_or hs (u32_shl1 _), bt_shl1 hn]
end Dec
