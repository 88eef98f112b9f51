/-
  An entry of a map written in place: plain lemmas.
-/
import Derived.Test.YtfpchbpnoggogaaMaps
set_option linter.unusedSimpArgs false
set_option linter.unusedVariables false
namespace Dec
open Go

theorem mget_mtouch {α β : Type} [DecidableEq α] (l : List (α × β)) (x y : α) (d : β) : mget (mtouch l x d) y = if y = x then some ((mget l x).getD d) else mget l y := by
  have happ : ∀ l : List (α × β), mget l x = none → mget (l ++ [(x, d)]) y = if y = x then some d else mget l y := by
    intro l
    induction l with
    | nil => intro _; simp only [List.nil_append, mget]
    | cons p r ih =>
      obtain ⟨k, u⟩ := p
      intro h
      simp only [mget] at h
      by_cases h1 : x = k
      · rw [if_pos h1] at h; cases h
      · rw [if_neg h1] at h
        simp only [List.cons_append, mget]
        by_cases h2 : y = k
        · rw [if_pos h2, if_pos h2, if_neg (fun e => h1 (by rw [← e, h2]))]
        · rw [if_neg h2, if_neg h2, ih h]
  unfold mtouch
  cases h : mget l x with
  | none => simp only [Option.isSome_none, Bool.false_eq_true, if_false, happ l h, Option.getD_none]
  | some v =>
    simp only [Option.isSome_some, if_true, Option.getD_some]
    by_cases e : y = x
    · rw [e, h, if_pos rfl]
    · rw [if_neg e]

theorem midx_none {α β : Type} [DecidableEq α] : ∀ (l : List (α × β)) (x : α), mget l x = none → midx l x = none
  | [], _, _ => rfl
  | (k, u) :: r, x, h => by
    simp only [mget] at h
    by_cases h1 : x = k
    · rw [if_pos h1] at h; cases h
    · rw [if_neg h1] at h
      simp only [midx, if_neg h1, midx_none r x h, Option.map_none]

theorem midx_some {α β : Type} [DecidableEq α] : ∀ (l : List (α × β)) (x : α), (mget l x).isSome → ∃ i, midx l x = some i ∧ i < l.length ∧ ∀ v, l.modify i (fun e => (e.1, v)) = mset l x v
  | [], _, h => by simp [mget] at h
  | (k, u) :: r, x, h => by
    by_cases h1 : x = k
    · subst h1
      exact ⟨0, by simp [midx], by simp, fun v => by simp [mset]⟩
    · simp only [mget, if_neg h1] at h
      obtain ⟨i, h2, h3, h4⟩ := midx_some r x h
      refine ⟨i + 1, by simp [midx, h1, h2], by simpa using h3, fun v => ?_⟩
      simp only [mset, if_neg h1, List.modify_succ_cons, h4 v]

theorem mset_none {α β : Type} [DecidableEq α] : ∀ (l : List (α × β)) (x : α) (v : β), mget l x = none → mset l x v = l ++ [(x, v)]
  | [], _, _, _ => rfl
  | (k, u) :: r, x, v, h => by
    simp only [mget] at h
    by_cases h1 : x = k
    · rw [if_pos h1] at h; cases h
    · rw [if_neg h1] at h
      simp only [mset, if_neg h1, mset_none r x v h, List.cons_append]

theorem modify_last {α : Type} : ∀ (l : List α) (a : α) (f : α → α), (l ++ [a]).modify l.length f = l ++ [f a]
  | [], a, f => by simp
  | x :: l, a, f => by
    simp only [List.cons_append, List.length_cons, List.modify_succ_cons, modify_last l a f]

theorem mput_mset {α β : Type} [DecidableEq α] (l : List (α × β)) (x : α) (d v : β) : mputAt (mtouch l x d) (mplace l x).toNat v = mset l x v ∧ inIdx (mplace l x) (mtouch l x d).length := by
  unfold mputAt mplace mtouch
  cases h : mget l x with
  | none =>
    rw [midx_none l x h, mset_none l x v h]
    simp only [Option.isSome_none, Bool.false_eq_true, if_false, Option.getD_none, Int.toNat_natCast]
    exact ⟨modify_last l _ _, by omega, by simp only [List.length_append, List.length_singleton]; omega⟩
  | some u =>
    obtain ⟨i, h1, h2, h3⟩ := midx_some l x (by rw [h]; rfl)
    rw [h1]
    simp only [Option.isSome_some, if_true, Option.getD_some, Int.toNat_natCast]
    exact ⟨h3 v, by omega, by omega⟩

theorem mset_keys {α β : Type} [DecidableEq α] : ∀ (l : List (α × β)) (x : α) (v : β), (mset l x v).map Prod.fst = if (mget l x).isSome then l.map Prod.fst else l.map Prod.fst ++ [x]
  | [], x, v => rfl
  | (k, u) :: r, x, v => by
    by_cases h1 : x = k
    · subst h1
      simp [mset, mget]
    · simp only [mset, mget, if_neg h1, List.map_cons, mset_keys r x v]
      split <;> rfl

theorem mget_none_keys {α β : Type} [DecidableEq α] : ∀ (l : List (α × β)) (x : α), (mget l x).isSome = false → x ∉ l.map Prod.fst
  | [], x, _ => by simp
  | (k, u) :: r, x, h => by
    by_cases h1 : x = k
    · subst h1; simp [mget] at h
    · simp only [mget, if_neg h1] at h
      have := mget_none_keys r x h
      simp only [List.map_cons, List.mem_cons, not_or]
      exact ⟨h1, this⟩
end Dec
