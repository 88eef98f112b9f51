/-
  Grammars: what a row of signs derives over a stretch of a word (plain Lean, no program in sight).
-/
import Derived.Test.YtfpchbpnoggogaaLib
set_option linter.unusedSimpArgs false
set_option linter.unusedVariables false
namespace Cfg
abbrev Rules := List (Int × List Int)
inductive Row (K : Int) (R : Rules) (w : List Int) : List Int → Nat → Nat → Prop
 | nil (i : Nat) (h : i ≤ w.length) : Row K R w [] i i
 | sym (s : Int) (l : List Int) (i j : Nat) (hs : s < K) (hi : w[i]? = some s) (h : Row K R w l (i + 1) j) : Row K R w (s :: l) i j
 | name (s : Int) (l r : List Int) (i m j : Nat) (hs : ¬ s < K) (hr : (s - K, r) ∈ R) (h1 : Row K R w r i m) (h2 : Row K R w l m j) : Row K R w (s :: l) i j
def Der (K : Int) (R : Rules) (w : List Int) (A : Int) (i j : Nat) : Prop := ∃ l, (A, l) ∈ R ∧ Row K R w l i j
section
variable {K : Int} {R : Rules} {w : List Int}
theorem Row.move {w' : List Int} {d : Nat} (hw : ∀ i x, w[i]? = some x → w'[d + i]? = some x) (hl : d + w.length ≤ w'.length) {l : List Int} {i j : Nat} (h : Row K R w l i j) : Row K R w' l (d + i) (d + j) := by
 induction h with
 | nil i h => exact .nil _ (by omega)
 | sym s l i j hs hi h ih => exact .sym s l _ _ hs (hw _ _ hi) (by rw [Nat.add_assoc]; exact ih)
 | name s l r i m j hs hr h1 h2 ih1 ih2 => exact .name s l r _ _ _ hs hr ih1 ih2
theorem Row.left {u v : List Int} {l : List Int} {i j : Nat} (h : Row K R u l i j) : Row K R (u ++ v) l i j := by
 have := h.move (w' := u ++ v) (d := 0) (fun i x hx => by
  rw [Nat.zero_add, List.getElem?_append_left (by
   refine Nat.lt_of_not_le fun hle => ?_
   rw [List.getElem?_eq_none hle] at hx
   cases hx)]
  exact hx) (by simp)
 simpa using this
theorem Row.right {u v : List Int} {l : List Int} {i j : Nat} (h : Row K R v l i j) : Row K R (u ++ v) l (u.length + i) (u.length + j) := by
 refine h.move (fun i x hx => ?_) (by simp)
 rw [List.getElem?_append_right (by omega), Nat.add_sub_cancel_left]
 exact hx
theorem Row.word : ∀ (l : List Int) (i : Nat), (∀ k x, l[k]? = some x → w[i + k]? = some x ∧ x < K) → i + l.length ≤ w.length → Row K R w l i (i + l.length)
 | [], i, _, h => .nil i (by simpa using h)
 | s :: l, i, hw, h => by
  have h0 := hw 0 s rfl
  have := Row.word l (i + 1) (fun k x hk => by
   have := hw (k + 1) x (by simpa using hk)
   rw [show i + (k + 1) = i + 1 + k by omega] at this
   exact this) (by simp only [List.length_cons] at h; omega)
  rw [show i + 1 + l.length = i + (s :: l).length by simp only [List.length_cons]; omega] at this
  exact .sym s l i _ h0.2 h0.1 this
/-! ### a table of names over stretches -/
def SignS (K : Int) (w : List Int) (S : Int → Nat → Nat → Prop) (s : Int) (i j : Nat) : Prop := if s < K then j = i + 1 ∧ w[i]? = some s else S (s - K) i j
def RowS (K : Int) (w : List Int) (S : Int → Nat → Nat → Prop) : List Int → Nat → Nat → Prop
 | [], i, j => i = j
 | s :: l, i, j => ∃ m, i ≤ m ∧ m ≤ w.length ∧ SignS K w S s i m ∧ RowS K w S l m j
theorem RowS.row {S : Int → Nat → Nat → Prop} (hS : ∀ A i j, i ≤ j → j ≤ w.length → S A i j → Der K R w A i j) : ∀ {l : List Int} {i j : Nat}, i ≤ w.length → RowS K w S l i j → Row K R w l i j
 | [], i, j, hi, h => by
  simp only [RowS] at h
  subst h
  exact .nil i hi
 | s :: l, i, j, hi, h => by
  obtain ⟨m, h1, h2, h3, h4⟩ := h
  have ih := RowS.row hS h2 h4
  unfold SignS at h3
  by_cases hs : s < K
  ·rw [if_pos hs] at h3
   obtain ⟨rfl, h5⟩ := h3
   exact .sym s l i j hs h5 ih
  ·rw [if_neg hs] at h3
   obtain ⟨r, h5, h6⟩ := hS _ _ _ h1 h2 h3
   exact .name s l r i m j hs h5 h6 ih
theorem RowS.mono {S T : Int → Nat → Nat → Prop} (h : ∀ A i j, S A i j → T A i j) : ∀ {l : List Int} {i j : Nat}, RowS K w S l i j → RowS K w T l i j
 | [], i, j, h' => h'
 | s :: l, i, j, h' => by
  obtain ⟨m, h1, h2, h3, h4⟩ := h'
  refine ⟨m, h1, h2, ?_, RowS.mono h h4⟩
  unfold SignS at h3 ⊢
  by_cases hs : s < K
  ·rw [if_pos hs] at h3 ⊢; exact h3
  ·rw [if_neg hs] at h3 ⊢; exact h _ _ _ h3
end
end Cfg
