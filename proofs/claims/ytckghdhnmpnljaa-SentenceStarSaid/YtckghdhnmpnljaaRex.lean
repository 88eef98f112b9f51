/-
Regular expressions as rows of nodes: what a node matches of a word (plain Lean, no program in sight).
-/
import Derived.Test.YtckghdhnmpnljaaLib
set_option linter.unusedSimpArgs false
set_option linter.unusedVariables false
namespace Rex
abbrev Nd := Int × (Int × Int)
abbrev nd (l : List Nd) (t : Nat) : Nd := l.getD t (0, (0, 0))
def OkN (k : Int) (t : Nat) (n : Nd) : Prop :=
  n.1 = 1 ∨ n.1 = 2 ∨ (n.1 = 3 ∧ 0 ≤ n.2.1 ∧ n.2.1 < k) ∨ ((n.1 = 4 ∨ n.1 = 5) ∧ (0 ≤ n.2.1 ∧ n.2.1 < (t : Int)) ∧ (0 ≤ n.2.2 ∧ n.2.2 < (t : Int))) ∨ (n.1 = 6 ∧ 0 ≤ n.2.1 ∧ n.2.1 < (t : Int))
structure Good (k : Int) (l : List Nd) : Prop where
  sym : 1 ≤ k ∧ k ≤ 3
  len : 1 ≤ l.length ∧ l.length ≤ 9
  ok : ∀ t, t < l.length → OkN k t (nd l t)
inductive Mat (l : List Nd) (w : List Int) : Nat → Nat → Nat → Prop
  | empty (t i : Nat) (h : (nd l t).1 = 2) (hi : i ≤ w.length) : Mat l w t i i
  | sym (t i : Nat) (h : (nd l t).1 = 3) (hi : w[i]? = some (nd l t).2.1) : Mat l w t i (i + 1)
  | cat (t i m j : Nat) (h : (nd l t).1 = 4) (h1 : Mat l w (nd l t).2.1.toNat i m) (h2 : Mat l w (nd l t).2.2.toNat m j) : Mat l w t i j
  | or1 (t i j : Nat) (h : (nd l t).1 = 5) (h1 : Mat l w (nd l t).2.1.toNat i j) : Mat l w t i j
  | or2 (t i j : Nat) (h : (nd l t).1 = 5) (h1 : Mat l w (nd l t).2.2.toNat i j) : Mat l w t i j
  | star0 (t i : Nat) (h : (nd l t).1 = 6) (hi : i ≤ w.length) : Mat l w t i i
  | star1 (t i m j : Nat) (h : (nd l t).1 = 6) (h1 : Mat l w t i m) (h2 : Mat l w (nd l t).2.1.toNat m j) : Mat l w t i j
section
variable {k : Int} {l : List Nd} {w : List Int}
theorem Mat.le {t i j : Nat} (h : Mat l w t i j) : i ≤ j ∧ j ≤ w.length := by
  induction h with
  | empty t i h hi => exact ⟨Nat.le_refl _, hi⟩
  | sym t i h hi =>
    refine ⟨by omega, Nat.lt_of_not_le fun hle => ?_⟩
    rw [List.getElem?_eq_none hle] at hi
    cases hi
  | cat t i m j h h1 h2 ih1 ih2 => omega
  | or1 t i j h h1 ih => exact ih
  | or2 t i j h h1 ih => exact ih
  | star0 t i h hi => exact ⟨Nat.le_refl _, hi⟩
  | star1 t i m j h h1 h2 ih1 ih2 => omega
theorem mat_iff {t i j : Nat} : Mat l w t i j ↔
    ((nd l t).1 = 2 ∧ i = j ∧ j ≤ w.length) ∨ ((nd l t).1 = 3 ∧ j = i + 1 ∧ w[i]? = some (nd l t).2.1) ∨
    ((nd l t).1 = 4 ∧ ∃ m, Mat l w (nd l t).2.1.toNat i m ∧ Mat l w (nd l t).2.2.toNat m j) ∨
    ((nd l t).1 = 5 ∧ (Mat l w (nd l t).2.1.toNat i j ∨ Mat l w (nd l t).2.2.toNat i j)) ∨
    ((nd l t).1 = 6 ∧ ((i = j ∧ j ≤ w.length) ∨ ∃ m, Mat l w t i m ∧ Mat l w (nd l t).2.1.toNat m j)) := by
  constructor
  · intro h
    cases h with
    | empty t i h hi => exact Or.inl ⟨h, rfl, hi⟩
    | sym t i h hi => exact Or.inr (Or.inl ⟨h, rfl, hi⟩)
    | cat t i m j h h1 h2 => exact Or.inr (Or.inr (Or.inl ⟨h, m, h1, h2⟩))
    | or1 t i j h h1 => exact Or.inr (Or.inr (Or.inr (Or.inl ⟨h, Or.inl h1⟩)))
    | or2 t i j h h1 => exact Or.inr (Or.inr (Or.inr (Or.inl ⟨h, Or.inr h1⟩)))
    | star0 t i h hi => exact Or.inr (Or.inr (Or.inr (Or.inr ⟨h, Or.inl ⟨rfl, hi⟩⟩)))
    | star1 t i m j h h1 h2 => exact Or.inr (Or.inr (Or.inr (Or.inr ⟨h, Or.inr ⟨m, h1, h2⟩⟩)))
  · rintro (⟨h, rfl, hi⟩ | ⟨h, rfl, hi⟩ | ⟨h, m, h1, h2⟩ | ⟨h, h1 | h1⟩ | ⟨h, ⟨rfl, hi⟩ | ⟨m, h1, h2⟩⟩)
    · exact .empty t i h hi
    · exact .sym t i h hi
    · exact .cat t i m j h h1 h2
    · exact .or1 t i j h h1
    · exact .or2 t i j h h1
    · exact .star0 t i h hi
    · exact .star1 t i m j h h1 h2
def St (R : Nat → Nat → Prop) : Nat → Nat → Nat → Prop
  | 0, i, j => i = j
  | k + 1, i, j => St R k i j ∨ ∃ m, St R k i m ∧ R m j
theorem St.more {R : Nat → Nat → Prop} {i j : Nat} : ∀ {a b : Nat}, a ≤ b → St R a i j → St R b i j
  | a, 0, h, hs => by have : a = 0 := by omega
                      subst this; exact hs
  | a, b + 1, h, hs => by
    by_cases e : a = b + 1
    · rw [← e]; exact hs
    · exact Or.inl (St.more (by omega) hs)
theorem star_steps {t i j : Nat} (hk : (nd l t).1 = 6) (h : Mat l w t i j) : St (fun m n => Mat l w (nd l t).2.1.toNat m n) (j - i) i j := by
  generalize ht : t = t' at h
  induction h with
  | empty t i h hi => subst ht; omega
  | sym t i h hi => subst ht; omega
  | cat t i m j h h1 h2 => subst ht; omega
  | or1 t i j h h1 => subst ht; omega
  | or2 t i j h h1 => subst ht; omega
  | star0 t i h hi => rw [Nat.sub_self]; rfl
  | star1 t' i m j h h1 h2 ih1 ih2 =>
    subst ht
    have ih := ih1 rfl
    have e1 := h1.le
    have e2 := h2.le
    by_cases e : m = j
    · subst e; exact ih
    · have : St (fun m n => Mat l w (nd l t).2.1.toNat m n) (m - i + 1) i j := Or.inr ⟨m, ih, h2⟩
      exact this.more (by omega)
theorem steps_star {t : Nat} (hk : (nd l t).1 = 6) : ∀ {n i j : Nat}, i ≤ w.length → St (fun m n => Mat l w (nd l t).2.1.toNat m n) n i j → Mat l w t i j
  | 0, i, j, hi, h => by
    have : i = j := h
    subst this
    exact .star0 t i hk hi
  | n + 1, i, j, hi, h => by
    rcases h with h | ⟨m, h1, h2⟩
    · exact steps_star hk hi h
    · exact .star1 t i m j hk (steps_star hk hi h1) h2
theorem star_left {t : Nat} (hk : (nd l t).1 = 6) {i m j : Nat} (h1 : Mat l w (nd l t).2.1.toNat i m) (h2 : Mat l w t m j) : Mat l w t i j := by
  have hi := h1.le
  generalize ht : t = t' at h2
  induction h2 with
  | empty t i h hi => subst ht; omega
  | sym t i h hi => subst ht; omega
  | cat t i m j h h1 h2 => subst ht; omega
  | or1 t i j h h1 => subst ht; omega
  | or2 t i j h h1 => subst ht; omega
  | star0 t' m h hm => subst ht; exact .star1 _ i i m h (.star0 _ i h (by omega)) h1
  | star1 t' m n j h h3 h4 ih1 ih2 =>
    subst ht
    exact .star1 _ i n j h (ih1 h1 hi rfl) h4
theorem star_unfold {t : Nat} (hk : (nd l t).1 = 6) {i j : Nat} (h : Mat l w t i j) : (i = j ∧ j ≤ w.length) ∨ ∃ m, Mat l w (nd l t).2.1.toNat i m ∧ Mat l w t m j := by
  generalize ht : t = t' at h
  induction h with
  | empty t i h hi => subst ht; omega
  | sym t i h hi => subst ht; omega
  | cat t i m j h h1 h2 => subst ht; omega
  | or1 t i j h h1 => subst ht; omega
  | or2 t i j h h1 => subst ht; omega
  | star0 t i h hi => exact Or.inl ⟨rfl, hi⟩
  | star1 t' i m j h h1 h2 ih1 ih2 =>
    subst ht
    rcases ih1 rfl with ⟨rfl, _⟩ | ⟨n, h3, h4⟩
    · exact Or.inr ⟨j, h2, .star0 _ j h h2.le.2⟩
    · exact Or.inr ⟨n, h3, .star1 _ n m j h h4 h2⟩
theorem star_trans {t : Nat} (hk : (nd l t).1 = 6) {i m j : Nat} (h1 : Mat l w t i m) (h2 : Mat l w t m j) : Mat l w t i j := by
  generalize ht : t = t' at h2
  induction h2 with
  | empty t i h hi => subst ht; omega
  | sym t i h hi => subst ht; omega
  | cat t i m j h h1 h2 => subst ht; omega
  | or1 t i j h h1 => subst ht; omega
  | or2 t i j h h1 => subst ht; omega
  | star0 t' m h hm => subst ht; exact h1
  | star1 t' m n j h h3 h4 ih1 ih2 =>
    subst ht
    exact .star1 _ i n j h (ih1 h1 rfl) h4
/-! ### more nodes behind -/
theorem nd_app {l e : List Nd} {t : Nat} (h : t < l.length) : nd (l ++ e) t = nd l t := by
  simp only [nd, List.getD, List.getElem?_append_left h]
theorem refs {k : Int} {t : Nat} {n : Nd} (h : OkN k t n) : (n.1 = 4 ∨ n.1 = 5 → n.2.1.toNat < t ∧ n.2.2.toNat < t) ∧ (n.1 = 6 → n.2.1.toNat < t) := by
  unfold OkN at h
  constructor <;> intro h1 <;> omega
theorem mat_app {e : List Nd} (hok : ∀ t, t < l.length → OkN k t (nd l t)) {t i j : Nat} (ht : t < l.length) : Mat (l ++ e) w t i j ↔ Mat l w t i j := by
  constructor
  · intro h
    induction h with
    | empty t i h hi => rw [nd_app ht] at h; exact .empty t i h hi
    | sym t i h hi => rw [nd_app ht] at h hi; exact .sym t i h hi
    | cat t i m j h h1 h2 ih1 ih2 =>
      rw [nd_app ht] at h h1 h2 ih1 ih2
      have := (refs (hok t ht)).1 (Or.inl h)
      exact .cat t i m j h (ih1 (by omega)) (ih2 (by omega))
    | or1 t i j h h1 ih =>
      rw [nd_app ht] at h h1 ih
      have := (refs (hok t ht)).1 (Or.inr h)
      exact .or1 t i j h (ih (by omega))
    | or2 t i j h h1 ih =>
      rw [nd_app ht] at h h1 ih
      have := (refs (hok t ht)).1 (Or.inr h)
      exact .or2 t i j h (ih (by omega))
    | star0 t i h hi => rw [nd_app ht] at h; exact .star0 t i h hi
    | star1 t i m j h h1 h2 ih1 ih2 =>
      rw [nd_app ht] at h h2 ih2
      have := (refs (hok t ht)).2 h
      exact .star1 t i m j h (ih1 ht) (ih2 (by omega))
  · intro h
    induction h with
    | empty t i h hi => exact .empty t i (by rw [nd_app ht]; exact h) hi
    | sym t i h hi => exact .sym t i (by rw [nd_app ht]; exact h) (by rw [nd_app ht]; exact hi)
    | cat t i m j h h1 h2 ih1 ih2 =>
      have := (refs (hok t ht)).1 (Or.inl h)
      exact .cat t i m j (by rw [nd_app ht]; exact h) (by rw [nd_app ht]; exact ih1 (by omega)) (by rw [nd_app ht]; exact ih2 (by omega))
    | or1 t i j h h1 ih =>
      have := (refs (hok t ht)).1 (Or.inr h)
      exact .or1 t i j (by rw [nd_app ht]; exact h) (by rw [nd_app ht]; exact ih (by omega))
    | or2 t i j h h1 ih =>
      have := (refs (hok t ht)).1 (Or.inr h)
      exact .or2 t i j (by rw [nd_app ht]; exact h) (by rw [nd_app ht]; exact ih (by omega))
    | star0 t i h hi => exact .star0 t i (by rw [nd_app ht]; exact h) hi
    | star1 t i m j h h1 h2 ih1 ih2 =>
      have := (refs (hok t ht)).2 h
      exact .star1 t i m j (by rw [nd_app ht]; exact h) (ih1 ht) (by rw [nd_app ht]; exact ih2 (by omega))
/-! ### the reversal -/
end
end Rex
