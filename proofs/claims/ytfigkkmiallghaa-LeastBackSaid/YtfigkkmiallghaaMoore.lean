/-
  Plain facts of machines: what parts two states is short.
-/
import Derived.Test.YtfigkkmiallghaaMSets
import Derived.Test.YtfigkkmiallghaaMaps
set_option linter.unusedSimpArgs false
set_option linter.unusedVariables false
namespace Dec
open Go Go.Proofs

def SymW (k : Int) (w : List Int) : Prop := ∀ s ∈ w, 0 ≤ s ∧ s < k
def accM (m : Mach) (q : Int) (w : List Int) : Bool := bt m.2.2.2.2 (runM m q w).toNat

open Classical in
/-- how many below T have P -/
noncomputable def howMany (P : Nat → Prop) : Nat → Nat
  | 0 => 0
  | t + 1 => howMany P t + if P t then 1 else 0

theorem howMany_le (P : Nat → Prop) : ∀ t, howMany P t ≤ t
  | 0 => Nat.le_refl _
  | t + 1 => by have := howMany_le P t; unfold howMany; split <;> omega

theorem howMany_mono {P Q : Nat → Prop} : ∀ t, (∀ i, i < t → P i → Q i) → howMany P t ≤ howMany Q t
  | 0, _ => Nat.le_refl _
  | t + 1, h => by
    have := howMany_mono t fun i hi => h i (by omega)
    have h2 := h t (by omega)
    unfold howMany
    by_cases hp : P t
    · rw [if_pos hp, if_pos (h2 hp)]; omega
    · rw [if_neg hp]; omega

theorem howMany_lt {P Q : Nat → Prop} : ∀ t, (∀ i, i < t → P i → Q i) → (∃ i, i < t ∧ Q i ∧ ¬ P i) → howMany P t < howMany Q t
  | 0, _, ⟨i, hi, _⟩ => absurd hi (by omega)
  | t + 1, h, ⟨i, hi, hq, hp⟩ => by
    have h0 := howMany_mono t fun i hi => h i (by omega)
    have h2 := h t (by omega)
    unfold howMany
    by_cases hit : i = t
    · subst hit
      rw [if_neg hp, if_pos hq]; omega
    · have := howMany_lt t (fun i hi => h i (by omega)) ⟨i, by omega, hq, hp⟩
      by_cases hpt : P t
      · rw [if_pos hpt, if_pos (h2 hpt)]; omega
      · rw [if_neg hpt]; omega

/-- the least of its class -/
def IsRep (E : Nat → Nat → Prop) (i : Nat) : Prop := ∀ j, j < i → ¬ E i j

theorem least_of {E : Nat → Nat → Prop} (hr : ∀ i, E i i) (htr : ∀ i j k, E i j → E j k → E i k) : ∀ i, ∃ r, r ≤ i ∧ E i r ∧ IsRep E r := by
  intro i
  induction i using Nat.strongRecOn with
  | _ i ih =>
    by_cases h : IsRep E i
    · exact ⟨i, Nat.le_refl _, hr i, h⟩
    · unfold IsRep at h
      simp only [Classical.not_forall, Classical.not_not] at h
      obtain ⟨j, hj, he⟩ := h
      obtain ⟨r, h1, h2, h3⟩ := ih j hj
      exact ⟨r, by omega, htr _ _ _ he h2, h3⟩

/-- more is told apart: there are more classes -/
theorem reps_lt {E E' : Nat → Nat → Prop} {t : Nat} (hr : ∀ i, E i i) (hs : ∀ i j, E i j → E j i) (htr : ∀ i j k, E i j → E j k → E i k) (hr' : ∀ i, E' i i) (hs' : ∀ i j, E' i j → E' j i) (htr' : ∀ i j k, E' i j → E' j k → E' i k)
    (hsub : ∀ i j, E' i j → E i j) (hx : ∃ i j, i < t ∧ j < t ∧ E i j ∧ ¬ E' i j) : howMany (IsRep E) t < howMany (IsRep E') t := by
  refine howMany_lt t (fun i _ h j hj he => h j hj (hsub _ _ he)) ?_
  obtain ⟨i, j, hi, hj, he, hne⟩ := hx
  obtain ⟨p, hp1, hp2, hp3⟩ := least_of hr' htr' i
  obtain ⟨q, hq1, hq2, hq3⟩ := least_of hr' htr' j
  have hpq : E p q := htr _ _ _ (hs _ _ (hsub _ _ hp2)) (htr _ _ _ he (hsub _ _ hq2))
  have hne2 : p ≠ q := by
    intro e
    subst e
    exact hne (htr' _ _ _ hp2 (hs' _ _ hq2))
  rcases Nat.lt_or_gt_of_ne hne2 with h | h
  · exact ⟨q, by omega, hq3, fun hrep => hrep p h (hs _ _ hpq)⟩
  · exact ⟨p, by omega, hp3, fun hrep => hrep q h hpq⟩

/-- the states of both machines, one behind the other -/
def accU (a b : Mach) (x : Nat) (w : List Int) : Bool := if x < a.1.toNat then accM a (x : Int) w else accM b ((x - a.1.toNat : Nat) : Int) w

def nextU (a b : Mach) (x : Nat) (s : Int) : Nat := if x < a.1.toNat then (nextM a (x : Int) s).toNat else a.1.toNat + (nextM b ((x - a.1.toNat : Nat) : Int) s).toNat

theorem accU_cons {a b : Mach} (ga : GoodM a) (gb : GoodM b) (hk : a.2.1 = b.2.1) {x : Nat} (hx : x < a.1.toNat + b.1.toNat) {s : Int} (hs : 0 ≤ s ∧ s < a.2.1) (w : List Int) : accU a b x (s :: w) = accU a b (nextU a b x s) w ∧ nextU a b x s < a.1.toNat + b.1.toNat := by
  have a1 := ga.1.1
  have b1 := gb.1.1
  unfold accU nextU
  by_cases h : x < a.1.toNat
  · have := next_good ga (q := (x : Int)) ⟨by omega, by omega⟩ hs
    have h2 : (nextM a (x : Int) s).toNat < a.1.toNat := by omega
    have e : (((nextM a (x : Int) s).toNat : Nat) : Int) = nextM a (x : Int) s := by omega
    simp only [if_pos h, if_pos h2, e]
    exact ⟨rfl, by omega⟩
  · have := next_good gb (q := ((x - a.1.toNat : Nat) : Int)) ⟨by omega, by omega⟩ (by rw [← hk]; exact hs)
    have h2 : ¬ a.1.toNat + (nextM b ((x - a.1.toNat : Nat) : Int) s).toNat < a.1.toNat := by omega
    have e : ((a.1.toNat + (nextM b ((x - a.1.toNat : Nat) : Int) s).toNat - a.1.toNat : Nat) : Int) = nextM b ((x - a.1.toNat : Nat) : Int) s := by omega
    simp only [if_neg h, if_neg h2, e]
    exact ⟨rfl, by omega⟩

/-- no word with fewer than k symbols parts them -/
def EqU (a b : Mach) (k : Nat) (x y : Nat) : Prop := ∀ w, SymW a.2.1 w → w.length < k → accU a b x w = accU a b y w

theorem moore {a b : Mach} (ga : GoodM a) (gb : GoodM b) (hk : a.2.1 = b.2.1) {x y : Nat} (hx : x < a.1.toNat + b.1.toNat) (hy : y < a.1.toNat + b.1.toNat) {w : List Int} (hw : SymW a.2.1 w) (hne : accU a b x w ≠ accU a b y w)
    (hmin : EqU a b w.length x y) : w.length + 2 ≤ a.1.toNat + b.1.toNat := by
  have T := a.1.toNat + b.1.toNat
  have stable : ∀ k, (∀ x y, x < a.1.toNat + b.1.toNat → y < a.1.toNat + b.1.toNat → EqU a b k x y → EqU a b (k + 1) x y) → ∀ j, ∀ x y, x < a.1.toNat + b.1.toNat → y < a.1.toNat + b.1.toNat → EqU a b (k + j) x y → EqU a b (k + j + 1) x y := by
    intro k h0 j
    induction j with
    | zero => exact h0
    | succ j ih =>
      intro x y hx hy he v hv hvl
      cases v with
      | nil => exact he [] hv (by simp; omega)
      | cons s v =>
        have hs := hv s (by simp)
        have hv' : SymW a.2.1 v := fun z hz => hv z (by simp [hz])
        obtain ⟨e1, n1⟩ := accU_cons ga gb hk hx hs v
        obtain ⟨e2, n2⟩ := accU_cons ga gb hk hy hs v
        rw [e1, e2]
        refine ih _ _ n1 n2 (fun u hu hul => ?_) v hv' (by simp at hvl; omega)
        have := he (s :: u) (fun z hz => by
          rw [List.mem_cons] at hz
          rcases hz with rfl | hz
          · exact hs
          · exact hu z hz) (by simp; omega)
        rwa [(accU_cons ga gb hk hx hs u).1, (accU_cons ga gb hk hy hs u).1] at this
  have strict : ∀ k, k ≤ w.length → ∃ x y, x < a.1.toNat + b.1.toNat ∧ y < a.1.toNat + b.1.toNat ∧ EqU a b k x y ∧ ¬ EqU a b (k + 1) x y := by
    intro k hkl
    refine Classical.byContradiction fun hno => ?_
    have h0 : ∀ x y, x < a.1.toNat + b.1.toNat → y < a.1.toNat + b.1.toNat → EqU a b k x y → EqU a b (k + 1) x y := by
      intro x y hx hy he
      refine Classical.byContradiction fun hn => hno ⟨x, y, hx, hy, he, hn⟩
    have := stable k h0 (w.length - k) x y hx hy (by rw [show k + (w.length - k) = w.length by omega]; exact hmin)
    exact hne (this w hw (by omega))
  have count : ∀ k, k ≤ w.length + 1 → k + 1 ≤ howMany (IsRep (EqU a b k)) (a.1.toNat + b.1.toNat) := by
    intro k
    induction k with
    | zero =>
      intro _
      have : howMany (fun _ => False) (a.1.toNat + b.1.toNat) < howMany (IsRep (EqU a b 0)) (a.1.toNat + b.1.toNat) :=
        howMany_lt _ (fun _ _ h => h.elim) ⟨0, by omega, (fun j hj => absurd hj (by omega)), id⟩
      omega
    | succ k ih =>
      intro hkl
      have h1 := ih (by omega)
      have h2 := reps_lt (E := EqU a b k) (E' := EqU a b (k + 1)) (t := a.1.toNat + b.1.toNat) (fun i v _ _ => rfl) (fun i j h v hv hl => (h v hv hl).symm) (fun i j l h h' v hv hl => (h v hv hl).trans (h' v hv hl))
        (fun i v _ _ => rfl) (fun i j h v hv hl => (h v hv hl).symm) (fun i j l h h' v hv hl => (h v hv hl).trans (h' v hv hl)) (fun i j h v hv hl => h v hv (by omega)) (strict k (by omega))
      omega
  have h1 := count (w.length + 1) (Nat.le_refl _)
  have h2 := howMany_le (IsRep (EqU a b (w.length + 1))) (a.1.toNat + b.1.toNat)
  omega
end Dec
