/-
  'EditMetric' in plain Lean.
-/
import Derived.Test.YtjjlefbbdnfjiaaGenH
import Derived.Test.YtjjlefbbdnfjiaaCover
set_option linter.unusedSimpArgs false
set_option linter.unusedVariables false
namespace Dec
open Go Go.Proofs

/-- how far the first i letters of f are from the first j of g -/
def Dst {α : Type} [DecidableEq α] (f g : Nat → α) : Nat → Nat → Nat
  | 0, j => j
  | i + 1, 0 => i + 1
  | i + 1, j + 1 => min (min (Dst f g (i + 1) j) (Dst f g i (j + 1)) + 1) (Dst f g i j + if f i = g j then 0 else 1)

section
variable {α : Type} [DecidableEq α]

theorem Dst_zero (f g : Nat → α) : ∀ i, Dst f g i 0 = i
  | 0 => by simp [Dst]
  | i + 1 => by simp [Dst]

theorem Dst_ss (f g : Nat → α) (i j : Nat) : Dst f g (i + 1) (j + 1) = min (min (Dst f g (i + 1) j) (Dst f g i (j + 1)) + 1) (Dst f g i j + if f i = g j then 0 else 1) := by
  rw [Dst]

theorem Dst_up (f g : Nat → α) (i j : Nat) : Dst f g (i + 1) j ≤ Dst f g i j + 1 := by
  cases j with
  | zero => rw [Dst_zero, Dst_zero]; omega
  | succ j => rw [Dst_ss]; omega

theorem Dst_right (f g : Nat → α) (i j : Nat) : Dst f g i (j + 1) ≤ Dst f g i j + 1 := by
  cases i with
  | zero => simp [Dst]
  | succ i => rw [Dst_ss]; omega

theorem Dst_symm (f g : Nat → α) : ∀ i j, Dst f g i j = Dst g f j i
  | 0, j => by rw [Dst_zero]; simp [Dst]
  | i + 1, 0 => by rw [Dst_zero]; simp [Dst]
  | i + 1, j + 1 => by
    rw [Dst_ss, Dst_ss, Dst_symm f g (i + 1) j, Dst_symm f g i (j + 1), Dst_symm f g i j, Nat.min_comm (Dst g f j (i + 1))]
    congr 2
    by_cases h : f i = g j
    · rw [if_pos h, if_pos h.symm]
    · rw [if_neg h, if_neg (fun e => h e.symm)]
termination_by i j => i + j

theorem Dst_low (f g : Nat → α) : ∀ i j, j ≤ Dst f g i j + i ∧ i ≤ Dst f g i j + j
  | 0, j => by simp [Dst]
  | i + 1, 0 => by simp [Dst]
  | i + 1, j + 1 => by
    have h1 := Dst_low f g (i + 1) j
    have h2 := Dst_low f g i (j + 1)
    have h3 := Dst_low f g i j
    rw [Dst_ss]
    split <;> omega
termination_by i j => i + j

theorem Dst_high (f g : Nat → α) : ∀ i j, Dst f g i j ≤ i + j
  | 0, j => by simp [Dst]
  | i + 1, j => by
    have := Dst_high f g i j
    have := Dst_up f g i j
    omega

theorem Dst_eq_zero (f g : Nat → α) : ∀ i j, Dst f g i j = 0 ↔ i = j ∧ ∀ k, k < i → f k = g k
  | 0, j => by simp [Dst]; omega
  | i + 1, 0 => by simp [Dst]
  | i + 1, j + 1 => by
    have ih := Dst_eq_zero f g i j
    rw [Dst_ss]
    by_cases h : f i = g j
    · rw [if_pos h, Nat.add_zero]
      constructor
      · intro e
        obtain ⟨e1, e2⟩ := ih.1 (by omega)
        refine ⟨by omega, fun k hk => ?_⟩
        by_cases hki : k < i
        · exact e2 k hki
        · have : k = i := by omega
          subst this
          subst e1
          exact h
      · rintro ⟨e1, e2⟩
        have := ih.2 ⟨by omega, fun k hk => e2 k (by omega)⟩
        omega
    · rw [if_neg h]
      constructor
      · intro e; omega
      · rintro ⟨e1, e2⟩
        have e3 : i = j := by omega
        subst e3
        exact absurd (e2 i (by omega)) h

theorem Dst_tri (f g h : Nat → α) : ∀ i j k, Dst f h i k ≤ Dst f g i j + Dst g h j k
  | 0, j, k => by
    have := Dst_low g h j k
    simp only [Dst]
    omega
  | i + 1, j, 0 => by
    have := Dst_low f g (i + 1) j
    rw [Dst_zero, Dst_zero]
    omega
  | i + 1, 0, k + 1 => by
    have := Dst_high f h (i + 1) (k + 1)
    rw [Dst_zero]
    simp only [Dst] at *
    omega
  | i + 1, j + 1, k + 1 => by
    have t1 := Dst_tri f g h i (j + 1) (k + 1)
    have t2 := Dst_tri f g h (i + 1) (j + 1) k
    have t3 := Dst_tri f g h (i + 1) j (k + 1)
    have t4 := Dst_tri f g h (i + 1) j k
    have t5 := Dst_tri f g h i j (k + 1)
    have t6 := Dst_tri f g h i j k
    have u1 := Dst_ss f g i j
    have u2 := Dst_ss g h j k
    have u3 := Dst_ss f h i k
    by_cases h1 : f i = g j
    · by_cases h2 : g j = h k
      · rw [if_pos h1] at u1
        rw [if_pos h2] at u2
        rw [if_pos (h1.trans h2)] at u3
        omega
      · rw [if_pos h1] at u1
        rw [if_neg h2] at u2
        rw [if_neg (fun e => h2 (h1.symm.trans e))] at u3
        omega
    · rw [if_neg h1] at u1
      by_cases h2 : g j = h k
      · rw [if_pos h2] at u2
        rw [if_neg (fun e => h1 (e.trans h2.symm))] at u3
        omega
      · rw [if_neg h2] at u2
        have : (if f i = h k then 0 else 1) ≤ 1 := by split <;> omega
        omega
termination_by i j k => i + j + k

/-- what both begin with does not count -/
theorem Dst_pre (f g f' g' : Nat → α) (m : Nat) (h0 : ∀ k, k < m → f k = g k) (h1 : ∀ k, f (m + k) = f' k) (h2 : ∀ k, g (m + k) = g' k) : ∀ i j, Dst f g (m + i) (m + j) = Dst f' g' i j := by
  have hz : Dst f g m m = 0 := (Dst_eq_zero f g m m).2 ⟨rfl, h0⟩
  have hr : ∀ j, Dst f g m (m + j) = j := by
    intro j
    have l := (Dst_low f g m (m + j)).1
    have u : Dst f g m (m + j) ≤ j := by
      clear l
      induction j with
      | zero => rw [Nat.add_zero, hz]; omega
      | succ j ih => have := Dst_right f g m (m + j); rw [← Nat.add_assoc]; omega
    omega
  have hu : ∀ i, Dst f g (m + i) m = i := by
    intro i
    have l := (Dst_low f g (m + i) m).2
    have u : Dst f g (m + i) m ≤ i := by
      clear l
      induction i with
      | zero => rw [Nat.add_zero, hz]; omega
      | succ i ih => have := Dst_up f g (m + i) m; rw [← Nat.add_assoc]; omega
    omega
  intro i
  induction i with
  | zero => intro j; rw [Nat.add_zero, hr]; simp [Dst]
  | succ i ih =>
    intro j
    induction j with
    | zero =>
      show Dst f g (m + (i + 1)) m = _
      rw [hu, Dst_zero]
    | succ j ihj =>
      rw [← Nat.add_assoc, ← Nat.add_assoc, Dst_ss, Dst_ss, h1, h2]
      rw [← ih j, ← ihj, ← ih (j + 1), ← Nat.add_assoc]
      rfl
end

theorem getD_of_some2 {l : List Int} {i : Nat} {x : Int} (h : l[i]? = some x) : l.getD i 0 = x := by simp [List.getD, h]

theorem VC20_of {u v : List Int} (hu : u.length ≤ 1000) (hv : v.length ≤ 1000) (hlong : longB [u, v] = false) {K : Int × Int → Prop} (h : K ((Dst (fun i => u[i]?) (fun j => v[j]?) u.length v.length : Nat), 0)) : VC20 u v K := by
  unfold VC20
  refine VC38_of (by simp) ?_
  rw [hlong]
  simp only [Bool.false_eq_true, if_false]
  refine ⟨fun e => by simp at e, fun _ => ⟨⟨by omega, by omega⟩, ⟨by omega, by omega⟩, ?_⟩⟩
  have hrl : (List.replicate ((v.length : Int) + 1).toNat (0 : Int)).length = v.length + 1 := by simp
  refine Loop.by (fun s : Int × List Int => ∃ j : Nat, s.1 = (j : Int) ∧ j ≤ v.length + 1 ∧ s.2.length = v.length + 1 ∧ ∀ k, k < j → s.2[k]? = some (k : Int)) (fun s => ((v.length : Int) + 1 - s.1).toNat) ⟨0, rfl, by omega, hrl, fun k hk => by omega⟩ ?_
  rintro ⟨j', row⟩ ⟨j, h1, h2, h3, h4⟩ X hX
  simp only at h1 h3 h4 ⊢
  subst h1
  unfold VC20_l3
  rw [hrl]
  refine ⟨fun hb => ?_, fun hb => ?_⟩
  · simp only [decide_eq_true_eq] at hb
    refine ⟨⟨by omega, by omega⟩, ⟨by omega, by omega⟩, hX _ ⟨j + 1, by simp, by omega, by simpa using h3, fun k hk => ?_⟩ (by simp only; omega)⟩
    simp only
    rw [Int.toNat_natCast]
    by_cases hkj : k < j
    · rw [List.getElem?_set_ne (by omega)]
      exact h4 k hkj
    · have : k = j := by omega
      subst this
      rw [List.getElem?_set_self (by omega)]
  · simp only [decide_eq_false_iff_not] at hb
    have hj : j = v.length + 1 := by omega
    subst hj
    unfold VC20_k1
    let D := Dst (fun i => u[i]?) (fun j => v[j]?)
    refine Loop.by (fun s : Int × List Int => ∃ i : Nat, s.1 = (i : Int) ∧ i ≤ u.length ∧ s.2.length = v.length + 1 ∧ ∀ k, k < v.length + 1 → s.2[k]? = some ((D i k : Nat) : Int)) (fun s => ((u.length : Int) - s.1).toNat) ⟨0, rfl, by omega, h3, fun k hk => by rw [h4 k hk]; simp [D, Dst]⟩ ?_
    rintro ⟨i', row2⟩ ⟨i, h5, h6, h7, h8⟩ Y hY
    simp only at h5 h7 h8 ⊢
    subst h5
    unfold VC20_l1 VC20_k2
    refine ⟨fun hb2 => ?_, fun hb2 => ?_⟩
    · simp only [decide_eq_true_eq] at hb2
      have tv : ((0 : Int)).toNat = 0 := rfl
      have d0 : D i 0 = i := Dst_zero _ _ i
      have d1 : D (i + 1) 0 = i + 1 := Dst_zero _ _ (i + 1)
      refine ⟨⟨by omega, hb2⟩, ⟨by omega, by omega⟩, ⟨by omega, by omega⟩, ⟨by omega, by omega⟩, ?_⟩
      rw [tv, getD_of_some2 (h8 0 (by omega))]
      refine Loop.by (fun s : Int × Int × List Int => ∃ j : Nat, s.2.1 = (j : Int) ∧ j ≤ v.length ∧ s.1 = ((D i j : Nat) : Int) ∧ s.2.2.length = v.length + 1 ∧ (∀ k, k ≤ j → s.2.2[k]? = some ((D (i + 1) k : Nat) : Int)) ∧ ∀ k, j < k → k < v.length + 1 → s.2.2[k]? = some ((D i k : Nat) : Int))
        (fun s => ((v.length : Int) - s.2.1).toNat) ⟨0, rfl, by omega, rfl, by simpa using h7, fun k hk => ?_, fun k hk hk2 => ?_⟩ ?_
      · have : k = 0 := by omega
        subst this
        simp only
        rw [List.getElem?_set_self (by omega), d1]
        simp
      · simp only
        rw [List.getElem?_set_ne (by omega)]
        exact h8 k hk2
      rintro ⟨last, j', row3⟩ ⟨j, g1, g2, g3, g4, g5, g6⟩ Z hZ
      simp only at g1 g3 g4 g5 g6 ⊢
      subst g1 g3
      unfold VC20_l2 VC20_k3 VC20_k4
      have b1 := Dst_high (fun i => u[i]?) (fun j => v[j]?) i j
      have b2 := Dst_high (fun i => u[i]?) (fun j => v[j]?) (i + 1) j
      have b3 := Dst_high (fun i => u[i]?) (fun j => v[j]?) i (j + 1)
      refine ⟨fun hb3 => ?_, fun hb3 => ?_⟩
      · simp only [decide_eq_true_eq] at hb3
        have e1 : row3.getD ((j : Int)).toNat 0 = ((D (i + 1) j : Nat) : Int) := by rw [Int.toNat_natCast]; exact getD_of_some2 (g5 j (Nat.le_refl _))
        have e2 : row3.getD ((j : Int) + 1).toNat 0 = ((D i (j + 1) : Nat) : Int) := by rw [show ((j : Int) + 1).toNat = j + 1 by omega]; exact getD_of_some2 (g6 (j + 1) (by omega) (by omega))
        rw [e1, e2]
        have tj : ((j : Int) + 1).toNat = j + 1 := by omega
        have next : ∀ best : Int, best = ((D (i + 1) (j + 1) : Nat) : Int) → (InR ((j : Int) + (1 : Int)) ∧ inIdx ((j : Int) + (1 : Int)) row3.length ∧ (InR ((j : Int) + (1 : Int)) ∧ inIdx ((j : Int) + (1 : Int)) row3.length ∧ (InR ((j : Int) + (1 : Int)) ∧ Z (((D i (j + 1) : Nat) : Int), ((j : Int) + (1 : Int)), (row3.set (((j : Int) + (1 : Int))).toNat best))))) := by
          rintro best rfl
          refine ⟨⟨by omega, by omega⟩, ⟨by omega, by omega⟩, ⟨by omega, by omega⟩, ⟨by omega, by omega⟩, ⟨by omega, by omega⟩, hZ _ ⟨j + 1, by simp, by omega, rfl, by simpa using g4, fun k hk => ?_, fun k hk hk2 => ?_⟩ (by simp only; omega)⟩
          · simp only [tj]
            by_cases hkj : k = j + 1
            · subst hkj
              rw [List.getElem?_set_self (by omega)]
            · rw [List.getElem?_set_ne (by omega)]
              exact g5 k (by omega)
          · simp only [tj]
            rw [List.getElem?_set_ne (by omega)]
            exact g6 k (by omega) hk2
        have hD : D (i + 1) (j + 1) = min (min (D (i + 1) j) (D i (j + 1)) + 1) (D i j + if u[i]? = v[j]? then 0 else 1) := Dst_ss _ _ i j
        have hcmp : (u.getD ((i : Int)).toNat 0 = v.getD ((j : Int)).toNat 0) ↔ u[i]? = v[j]? := by
          rw [Int.toNat_natCast, Int.toNat_natCast, getD_eq (show i < u.length by omega), getD_eq (show j < v.length by omega), List.getElem?_eq_getElem (show i < u.length by omega), List.getElem?_eq_getElem (show j < v.length by omega), Option.some.injEq]
        have hlow : imin ((D (i + 1) j : Nat) : Int) ((D i (j + 1) : Nat) : Int) = ((min (D (i + 1) j) (D i (j + 1)) : Nat) : Int) := by
          unfold imin
          omega
        have c1 : D i j ≤ i + j := b1
        have c2 : D (i + 1) j ≤ i + 1 + j := b2
        refine ⟨⟨by omega, by omega⟩, ⟨by omega, by omega⟩, ⟨by omega, by omega⟩, ⟨by omega, by omega⟩, ⟨?_, ?_⟩, fun he => ?_, fun he => ⟨⟨by omega, by omega⟩, ?_⟩⟩
        · rw [hlow]; omega
        · rw [hlow]; omega
        · simp only [decide_eq_true_eq] at he
          rw [if_pos (hcmp.1 he)] at hD
          refine next _ ?_
          rw [hlow]
          unfold imin
          omega
        · simp only [decide_eq_false_iff_not] at he
          rw [if_neg (fun e => he (hcmp.2 e))] at hD
          refine next _ ?_
          rw [hlow]
          unfold imin
          omega
      · simp only [decide_eq_false_iff_not] at hb3
        have hj : j = v.length := by omega
        subst hj
        refine ⟨⟨by omega, by omega⟩, hY _ ⟨i + 1, by simp, by omega, g4, fun k hk => g5 k (by omega)⟩ (by simp only; omega)⟩
    · simp only [decide_eq_false_iff_not] at hb2
      have hi : i = u.length := by omega
      subst hi
      refine ⟨⟨by omega, by omega⟩, ?_⟩
      rw [Int.toNat_natCast, getD_of_some2 (h8 v.length (by omega))]
      exact h

theorem VC20_long {u v : List Int} (hlong : longB [u, v] = true) {K : Int × Int → Prop} (h : K (0, 1)) : VC20 u v K := by
  unfold VC20
  refine VC38_of (by simp) ?_
  rw [hlong]
  simp only [if_true]
  exact ⟨fun _ => h, fun e => by simp at e⟩

theorem VC22_of {a b : List Int} (ha : a.length ≤ 1000000) (hb : b.length ≤ 1000000) {K : List Int → Prop} (h : K (a ++ b)) : VC22 a b K := by
  unfold VC22
  refine ⟨?_, ?_, ?_⟩
  · simp only [roomN, List.length_nil]; omega
  · simp only [roomN, List.nil_append]; omega
  · simpa using h

abbrev Far (u v : List Int) : Nat := Dst (fun i => u[i]?) (fun j => v[j]?) u.length v.length

theorem Far_zero {u v : List Int} : Far u v = 0 ↔ u = v := by
  rw [Far, Dst_eq_zero]
  constructor
  · rintro ⟨h1, h2⟩
    apply List.ext_getElem?
    intro i
    by_cases hi : i < u.length
    · exact h2 i hi
    · rw [List.getElem?_eq_none (by omega), List.getElem?_eq_none (by omega)]
  · rintro rfl
    exact ⟨rfl, fun _ _ => rfl⟩

theorem Far_pre (x u v : List Int) : Far (x ++ u) (x ++ v) = Far u v := by
  rw [Far, Far, List.length_append, List.length_append]
  refine Dst_pre _ _ _ _ x.length (fun k hk => ?_) (fun k => ?_) (fun k => ?_) _ _
  · rw [List.getElem?_append_left hk, List.getElem?_append_left hk]
  · rw [List.getElem?_append_right (by omega), Nat.add_sub_cancel_left]
  · rw [List.getElem?_append_right (by omega), Nat.add_sub_cancel_left]

theorem editMetric (u v x : List Int) : VC5 u v x (fun b => b = true) := by
  unfold VC5
  by_cases hl : longB [u, v] = true
  · refine VC20_long hl (VC16_of (by simp) ?_)
    rw [hl]
    simp
  have hl' : longB [u, v] = false := by simpa using hl
  have huv : u.length ≤ 60 ∧ v.length ≤ 60 := by simpa [longB] using hl'
  refine VC20_of (by omega) (by omega) hl' (VC16_of (by simp) ?_)
  rw [hl']
  refine ⟨fun e => (by cases e), fun _ => VC16_of (by simp) ?_⟩
  by_cases hx : longB [x] = true
  · rw [hx]
    simp
  have hx' : longB [x] = false := by simpa using hx
  have hxl : x.length ≤ 60 := by simpa [longB] using hx'
  have l1 : longB [v, u] = false := by simp [longB, huv]
  have l2 : longB [v, x] = false := by simp [longB, huv, hxl]
  have l3 : longB [u, x] = false := by simp [longB, huv, hxl]
  rw [hx']
  refine ⟨fun e => (by cases e), fun _ => VC20_of (by omega) (by omega) l1 (VC20_of (by omega) (by omega) l2 (VC20_of (by omega) (by omega) l3 ?_))⟩
  have hs : Far v u = Far u v := Dst_symm _ _ _ _
  have ht : Far u x ≤ Far u v + Far v x := Dst_tri _ _ _ _ _ _
  have hh := Dst_high (fun i => u[i]?) (fun j => v[j]?) u.length v.length
  have hh2 := Dst_high (fun i => v[i]?) (fun j => x[j]?) v.length x.length
  have e1 : (decide (((Far u v : Nat) : Int) = ((Far v u : Nat) : Int))) = true := by rw [hs]; simp
  have e2 : (decide (((Far u v : Nat) : Int) = 0)) = decide (u = v) := by
    apply decide_eq_decide.2
    rw [← Far_zero]
    omega
  have e3 : (decide (((Far u v : Nat) : Int) + ((Far v x : Nat) : Int) < ((Far u x : Nat) : Int))) = false := by
    apply decide_eq_false
    omega
  simp only [Far] at e1 e2 e3
  simp only [decide_true, Bool.not_true, Bool.or_self, Bool.false_or, e1, Bool.not_false]
  unfold gcall
  rw [if_pos rfl]
  refine VC21_of (by omega) ?_
  rw [e2, e3]
  simp only [bne_self_eq_false, Bool.or_self]
  refine ⟨fun _ => ⟨by omega, by omega⟩, fun e => (by cases e), fun _ => VC22_of (by omega) (by omega) (VC22_of (by omega) (by omega) ?_)⟩
  by_cases hc : longB [x ++ u, x ++ v] = true
  · refine VC20_long hc ?_
    rfl
  · refine VC20_of (by simp; omega) (by simp; omega) (by simpa using hc) ?_
    have := Far_pre x u v
    simp only [Far] at this
    rw [this]
    simp
end Dec
