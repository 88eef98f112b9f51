/-
  'EditShared' in plain Lean.
-/
import Derived.Test.YtjjlefbbdnfjiaaGenEa
import Derived.Test.YtjjlefbbdnfjiaaLynB
set_option linter.unusedSimpArgs false
set_option linter.unusedVariables false
namespace Dec
open Go Go.Proofs

/-- how far the first i letters of f are from the first j of g -/
def Dst {α : Type} [DecidableEq α] (f g : Nat → α) : Nat → Nat → Nat
  | 0, j => j
  | i + 1, 0 => i + 1
  | i + 1, j + 1 => min (min (Dst f g (i + 1) j) (Dst f g i (j + 1)) + 1) (Dst f g i j + if f i = g j then 0 else 1)

section
variable {α : Type} [DecidableEq α]

theorem Dst_zero (f g : Nat → α) : ∀ i, Dst f g i 0 = i
  | 0 => by simp [Dst]
  | i + 1 => by simp [Dst]

theorem Dst_ss (f g : Nat → α) (i j : Nat) : Dst f g (i + 1) (j + 1) = min (min (Dst f g (i + 1) j) (Dst f g i (j + 1)) + 1) (Dst f g i j + if f i = g j then 0 else 1) := by
  rw [Dst]

theorem Dst_up (f g : Nat → α) (i j : Nat) : Dst f g (i + 1) j ≤ Dst f g i j + 1 := by
  cases j with
  | zero => rw [Dst_zero, Dst_zero]; omega
  | succ j => rw [Dst_ss]; omega

theorem Dst_right (f g : Nat → α) (i j : Nat) : Dst f g i (j + 1) ≤ Dst f g i j + 1 := by
  cases i with
  | zero => simp [Dst]
  | succ i => rw [Dst_ss]; omega

theorem Dst_symm (f g : Nat → α) : ∀ i j, Dst f g i j = Dst g f j i
  | 0, j => by rw [Dst_zero]; simp [Dst]
  | i + 1, 0 => by rw [Dst_zero]; simp [Dst]
  | i + 1, j + 1 => by
    rw [Dst_ss, Dst_ss, Dst_symm f g (i + 1) j, Dst_symm f g i (j + 1), Dst_symm f g i j, Nat.min_comm (Dst g f j (i + 1))]
    congr 2
    by_cases h : f i = g j
    · rw [if_pos h, if_pos h.symm]
    · rw [if_neg h, if_neg (fun e => h e.symm)]
termination_by i j => i + j

theorem Dst_low (f g : Nat → α) : ∀ i j, j ≤ Dst f g i j + i ∧ i ≤ Dst f g i j + j
  | 0, j => by simp [Dst]
  | i + 1, 0 => by simp [Dst]
  | i + 1, j + 1 => by
    have h1 := Dst_low f g (i + 1) j
    have h2 := Dst_low f g i (j + 1)
    have h3 := Dst_low f g i j
    rw [Dst_ss]
    split <;> omega
termination_by i j => i + j

theorem Dst_high (f g : Nat → α) : ∀ i j, Dst f g i j ≤ i + j
  | 0, j => by simp [Dst]
  | i + 1, j => by
    have := Dst_high f g i j
    have := Dst_up f g i j
    omega

theorem Dst_eq_zero (f g : Nat → α) : ∀ i j, Dst f g i j = 0 ↔ i = j ∧ ∀ k, k < i → f k = g k
  | 0, j => by simp [Dst]; omega
  | i + 1, 0 => by simp [Dst]
  | i + 1, j + 1 => by
    have ih := Dst_eq_zero f g i j
    rw [Dst_ss]
    by_cases h : f i = g j
    · rw [if_pos h, Nat.add_zero]
      constructor
      · intro e
        obtain ⟨e1, e2⟩ := ih.1 (by omega)
        refine ⟨by omega, fun k hk => ?_⟩
        by_cases hki : k < i
        · exact e2 k hki
        · have : k = i := by omega
          subst this
          subst e1
          exact h
      · rintro ⟨e1, e2⟩
        have := ih.2 ⟨by omega, fun k hk => e2 k (by omega)⟩
        omega
    · rw [if_neg h]
      constructor
      · intro e; omega
      · rintro ⟨e1, e2⟩
        have e3 : i = j := by omega
        subst e3
        exact absurd (e2 i (by omega)) h

theorem Dst_tri (f g h : Nat → α) : ∀ i j k, Dst f h i k ≤ Dst f g i j + Dst g h j k
  | 0, j, k => by
    have := Dst_low g h j k
    simp only [Dst]
    omega
  | i + 1, j, 0 => by
    have := Dst_low f g (i + 1) j
    rw [Dst_zero, Dst_zero]
    omega
  | i + 1, 0, k + 1 => by
    have := Dst_high f h (i + 1) (k + 1)
    rw [Dst_zero]
    simp only [Dst] at *
    omega
  | i + 1, j + 1, k + 1 => by
    have t1 := Dst_tri f g h i (j + 1) (k + 1)
    have t2 := Dst_tri f g h (i + 1) (j + 1) k
    have t3 := Dst_tri f g h (i + 1) j (k + 1)
    have t4 := Dst_tri f g h (i + 1) j k
    have t5 := Dst_tri f g h i j (k + 1)
    have t6 := Dst_tri f g h i j k
    have u1 := Dst_ss f g i j
    have u2 := Dst_ss g h j k
    have u3 := Dst_ss f h i k
    by_cases h1 : f i = g j
    · by_cases h2 : g j = h k
      · rw [if_pos h1] at u1
        rw [if_pos h2] at u2
        rw [if_pos (h1.trans h2)] at u3
        omega
      · rw [if_pos h1] at u1
        rw [if_neg h2] at u2
        rw [if_neg (fun e => h2 (h1.symm.trans e))] at u3
        omega
    · rw [if_neg h1] at u1
      by_cases h2 : g j = h k
      · rw [if_pos h2] at u2
        rw [if_neg (fun e => h1 (e.trans h2.symm))] at u3
        omega
      · rw [if_neg h2] at u2
        have : (if f i = h k then 0 else 1) ≤ 1 := by split <;> omega
        omega
termination_by i j k => i + j + k

/-- what both begin with does not count -/
theorem Dst_pre (f g f' g' : Nat → α) (m : Nat) (h0 : ∀ k, k < m → f k = g k) (h1 : ∀ k, f (m + k) = f' k) (h2 : ∀ k, g (m + k) = g' k) : ∀ i j, Dst f g (m + i) (m + j) = Dst f' g' i j := by
  have hz : Dst f g m m = 0 := (Dst_eq_zero f g m m).2 ⟨rfl, h0⟩
  have hr : ∀ j, Dst f g m (m + j) = j := by
    intro j
    have l := (Dst_low f g m (m + j)).1
    have u : Dst f g m (m + j) ≤ j := by
      clear l
      induction j with
      | zero => rw [Nat.add_zero, hz]; omega
      | succ j ih => have := Dst_right f g m (m + j); rw [← Nat.add_assoc]; omega
    omega
  have hu : ∀ i, Dst f g (m + i) m = i := by
    intro i
    have l := (Dst_low f g (m + i) m).2
    have u : Dst f g (m + i) m ≤ i := by
      clear l
      induction i with
      | zero => rw [Nat.add_zero, hz]; omega
      | succ i ih => have := Dst_up f g (m + i) m; rw [← Nat.add_assoc]; omega
    omega
  intro i
  induction i with
  | zero => intro j; rw [Nat.add_zero, hr]; simp [Dst]
  | succ i ih =>
    intro j
    induction j with
    | zero =>
      show Dst f g (m + (i + 1)) m = _
      rw [hu, Dst_zero]
    | succ j ihj =>
      rw [← Nat.add_assoc, ← Nat.add_assoc, Dst_ss, Dst_ss, h1, h2]
      rw [← ih j, ← ihj, ← ih (j + 1), ← Nat.add_assoc]
      rfl
end

theorem getD_of_some2 {l : List Int} {i : Nat} {x : Int} (h : l[i]? = some x) : l.getD i 0 = x := by simp [List.getD, h]

theorem VC20_of {u v : List Int} (hu : u.length ≤ 1000) (hv : v.length ≤ 1000) (hlong : longB [u, v] = false) {K : Int × Int → Prop} (h : K ((Dst (fun i => u[i]?) (fun j => v[j]?) u.length v.length : Nat), 0)) : VC20 u v K := by
  unfold VC20
  refine VC38_of (by simp) ?_
  rw [hlong]
  simp only [Bool.false_eq_true, if_false]
  refine ⟨fun e => by simp at e, fun _ => ⟨⟨by omega, by omega⟩, ⟨by omega, by omega⟩, ?_⟩⟩
  have hrl : (List.replicate ((v.length : Int) + 1).toNat (0 : Int)).length = v.length + 1 := by simp
  refine Loop.by (fun s : Int × List Int => ∃ j : Nat, s.1 = (j : Int) ∧ j ≤ v.length + 1 ∧ s.2.length = v.length + 1 ∧ ∀ k, k < j → s.2[k]? = some (k : Int)) (fun s => ((v.length : Int) + 1 - s.1).toNat) ⟨0, rfl, by omega, hrl, fun k hk => by omega⟩ ?_
  rintro ⟨j', row⟩ ⟨j, h1, h2, h3, h4⟩ X hX
  simp only at h1 h3 h4 ⊢
  subst h1
  unfold VC20_l3
  rw [hrl]
  refine ⟨fun hb => ?_, fun hb => ?_⟩
  · simp only [decide_eq_true_eq] at hb
    refine ⟨⟨by omega, by omega⟩, ⟨by omega, by omega⟩, hX _ ⟨j + 1, by simp, by omega, by simpa using h3, fun k hk => ?_⟩ (by simp only; omega)⟩
    simp only
    rw [Int.toNat_natCast]
    by_cases hkj : k < j
    · rw [List.getElem?_set_ne (by omega)]
      exact h4 k hkj
    · have : k = j := by omega
      subst this
      rw [List.getElem?_set_self (by omega)]
  · simp only [decide_eq_false_iff_not] at hb
    have hj : j = v.length + 1 := by omega
    subst hj
    unfold VC20_k1
    let D := Dst (fun i => u[i]?) (fun j => v[j]?)
    refine Loop.by (fun s : Int × List Int => ∃ i : Nat, s.1 = (i : Int) ∧ i ≤ u.length ∧ s.2.length = v.length + 1 ∧ ∀ k, k < v.length + 1 → s.2[k]? = some ((D i k : Nat) : Int)) (fun s => ((u.length : Int) - s.1).toNat) ⟨0, rfl, by omega, h3, fun k hk => by rw [h4 k hk]; simp [D, Dst]⟩ ?_
    rintro ⟨i', row2⟩ ⟨i, h5, h6, h7, h8⟩ Y hY
    simp only at h5 h7 h8 ⊢
    subst h5
    unfold VC20_l1 VC20_k2
    refine ⟨fun hb2 => ?_, fun hb2 => ?_⟩
    · simp only [decide_eq_true_eq] at hb2
      have tv : ((0 : Int)).toNat = 0 := rfl
      have d0 : D i 0 = i := Dst_zero _ _ i
      have d1 : D (i + 1) 0 = i + 1 := Dst_zero _ _ (i + 1)
      refine ⟨⟨by omega, hb2⟩, ⟨by omega, by omega⟩, ⟨by omega, by omega⟩, ⟨by omega, by omega⟩, ?_⟩
      rw [tv, getD_of_some2 (h8 0 (by omega))]
      refine Loop.by (fun s : Int × Int × List Int => ∃ j : Nat, s.2.1 = (j : Int) ∧ j ≤ v.length ∧ s.1 = ((D i j : Nat) : Int) ∧ s.2.2.length = v.length + 1 ∧ (∀ k, k ≤ j → s.2.2[k]? = some ((D (i + 1) k : Nat) : Int)) ∧ ∀ k, j < k → k < v.length + 1 → s.2.2[k]? = some ((D i k : Nat) : Int))
        (fun s => ((v.length : Int) - s.2.1).toNat) ⟨0, rfl, by omega, rfl, by simpa using h7, fun k hk => ?_, fun k hk hk2 => ?_⟩ ?_
      · have : k = 0 := by omega
        subst this
        simp only
        rw [List.getElem?_set_self (by omega), d1]
        simp
      · simp only
        rw [List.getElem?_set_ne (by omega)]
        exact h8 k hk2
      rintro ⟨last, j', row3⟩ ⟨j, g1, g2, g3, g4, g5, g6⟩ Z hZ
      simp only at g1 g3 g4 g5 g6 ⊢
      subst g1 g3
      unfold VC20_l2 VC20_k3 VC20_k4
      have b1 := Dst_high (fun i => u[i]?) (fun j => v[j]?) i j
      have b2 := Dst_high (fun i => u[i]?) (fun j => v[j]?) (i + 1) j
      have b3 := Dst_high (fun i => u[i]?) (fun j => v[j]?) i (j + 1)
      refine ⟨fun hb3 => ?_, fun hb3 => ?_⟩
      · simp only [decide_eq_true_eq] at hb3
        have e1 : row3.getD ((j : Int)).toNat 0 = ((D (i + 1) j : Nat) : Int) := by rw [Int.toNat_natCast]; exact getD_of_some2 (g5 j (Nat.le_refl _))
        have e2 : row3.getD ((j : Int) + 1).toNat 0 = ((D i (j + 1) : Nat) : Int) := by rw [show ((j : Int) + 1).toNat = j + 1 by omega]; exact getD_of_some2 (g6 (j + 1) (by omega) (by omega))
        rw [e1, e2]
        have tj : ((j : Int) + 1).toNat = j + 1 := by omega
        have next : ∀ best : Int, best = ((D (i + 1) (j + 1) : Nat) : Int) → (InR ((j : Int) + (1 : Int)) ∧ inIdx ((j : Int) + (1 : Int)) row3.length ∧ (InR ((j : Int) + (1 : Int)) ∧ inIdx ((j : Int) + (1 : Int)) row3.length ∧ (InR ((j : Int) + (1 : Int)) ∧ Z (((D i (j + 1) : Nat) : Int), ((j : Int) + (1 : Int)), (row3.set (((j : Int) + (1 : Int))).toNat best))))) := by
          rintro best rfl
          refine ⟨⟨by omega, by omega⟩, ⟨by omega, by omega⟩, ⟨by omega, by omega⟩, ⟨by omega, by omega⟩, ⟨by omega, by omega⟩, hZ _ ⟨j + 1, by simp, by omega, rfl, by simpa using g4, fun k hk => ?_, fun k hk hk2 => ?_⟩ (by simp only; omega)⟩
          · simp only [tj]
            by_cases hkj : k = j + 1
            · subst hkj
              rw [List.getElem?_set_self (by omega)]
            · rw [List.getElem?_set_ne (by omega)]
              exact g5 k (by omega)
          · simp only [tj]
            rw [List.getElem?_set_ne (by omega)]
            exact g6 k (by omega) hk2
        have hD : D (i + 1) (j + 1) = min (min (D (i + 1) j) (D i (j + 1)) + 1) (D i j + if u[i]? = v[j]? then 0 else 1) := Dst_ss _ _ i j
        have hcmp : (u.getD ((i : Int)).toNat 0 = v.getD ((j : Int)).toNat 0) ↔ u[i]? = v[j]? := by
          rw [Int.toNat_natCast, Int.toNat_natCast, getD_eq (show i < u.length by omega), getD_eq (show j < v.length by omega), List.getElem?_eq_getElem (show i < u.length by omega), List.getElem?_eq_getElem (show j < v.length by omega), Option.some.injEq]
        have hlow : imin ((D (i + 1) j : Nat) : Int) ((D i (j + 1) : Nat) : Int) = ((min (D (i + 1) j) (D i (j + 1)) : Nat) : Int) := by
          unfold imin
          omega
        have c1 : D i j ≤ i + j := b1
        have c2 : D (i + 1) j ≤ i + 1 + j := b2
        refine ⟨⟨by omega, by omega⟩, ⟨by omega, by omega⟩, ⟨by omega, by omega⟩, ⟨by omega, by omega⟩, ⟨?_, ?_⟩, fun he => ?_, fun he => ⟨⟨by omega, by omega⟩, ?_⟩⟩
        · rw [hlow]; omega
        · rw [hlow]; omega
        · simp only [decide_eq_true_eq] at he
          rw [if_pos (hcmp.1 he)] at hD
          refine next _ ?_
          rw [hlow]
          unfold imin
          omega
        · simp only [decide_eq_false_iff_not] at he
          rw [if_neg (fun e => he (hcmp.2 e))] at hD
          refine next _ ?_
          rw [hlow]
          unfold imin
          omega
      · simp only [decide_eq_false_iff_not] at hb3
        have hj : j = v.length := by omega
        subst hj
        refine ⟨⟨by omega, by omega⟩, hY _ ⟨i + 1, by simp, by omega, g4, fun k hk => g5 k (by omega)⟩ (by simp only; omega)⟩
    · simp only [decide_eq_false_iff_not] at hb2
      have hi : i = u.length := by omega
      subst hi
      refine ⟨⟨by omega, by omega⟩, ?_⟩
      rw [Int.toNat_natCast, getD_of_some2 (h8 v.length (by omega))]
      exact h

theorem VC20_long {u v : List Int} (hlong : longB [u, v] = true) {K : Int × Int → Prop} (h : K (0, 1)) : VC20 u v K := by
  unfold VC20
  refine VC38_of (by simp) ?_
  rw [hlong]
  simp only [if_true]
  exact ⟨fun _ => h, fun e => by simp at e⟩


/-- a common subsequence bounds the distance -/
theorem Dst_shared {u v : List Int} : ∀ n i j, i + j = n → i ≤ u.length → j ≤ v.length → ∀ s : List Int, List.Sublist s (u.take i) → List.Sublist s (v.take j) → Dst (fun i => u[i]?) (fun j => v[j]?) i j + 2 * s.length ≤ i + j := by
  intro n
  induction n using Nat.strongRecOn with
  | _ n ih =>
    intro i j hn hi hj s h1 h2
    have hs0 : s = [] → Dst (fun i => u[i]?) (fun j => v[j]?) i j + 2 * s.length ≤ i + j := by
      intro e
      subst e
      have := Dst_high (fun i => u[i]?) (fun j => v[j]?) i j
      simpa using this
    cases i with
    | zero => simp at h1; exact hs0 h1
    | succ i =>
      cases j with
      | zero => simp at h2; exact hs0 h2
      | succ j =>
        rw [List.take_add_one] at h1 h2
        rw [List.getElem?_eq_getElem (show i < u.length by omega)] at h1
        rw [List.getElem?_eq_getElem (show j < v.length by omega)] at h2
        simp only [Option.toList] at h1 h2
        obtain ⟨a, b, e1, h3, h4⟩ := List.sublist_append_iff.1 h1
        obtain ⟨c, d, e2, h5, h6⟩ := List.sublist_append_iff.1 h2
        have sing : ∀ (l : List Int) (x : Int), List.Sublist l [x] → l = [] ∨ l = [x] := by
          intro l x h
          cases h with
          | cons _ h => left; simpa using h
          | cons_cons _ h => right; simpa using h
        have hss := Dst_ss (fun i => u[i]?) (fun j => v[j]?) i j
        have hup := Dst_up (fun i => u[i]?) (fun j => v[j]?) i (j + 1)
        have hri := Dst_right (fun i => u[i]?) (fun j => v[j]?) (i + 1) j
        rcases sing _ _ h4 with e3 | e3
        · subst e3
          rw [List.append_nil] at e1
          subst e1
          have := ih (i + (j + 1)) (by omega) i (j + 1) rfl (by omega) hj s h3 (by rw [List.take_add_one, List.getElem?_eq_getElem (show j < v.length by omega)]; exact h2)
          omega
        · rcases sing _ _ h6 with e4 | e4
          · subst e4
            rw [List.append_nil] at e2
            subst e2
            have := ih (i + 1 + j) (by omega) (i + 1) j rfl hi (by omega) s (by rw [List.take_add_one, List.getElem?_eq_getElem (show i < u.length by omega)]; exact h1) h5
            omega
          · subst e3 e4
            rw [e1] at e2
            have := List.append_inj' e2 rfl
            obtain ⟨e5, e6⟩ := this
            subst e5
            injection e6 with e6 _
            have h7 := ih (i + j) (by omega) i j rfl (by omega) (by omega) a h3 h5
            have e7 : u[i]? = v[j]? := by rw [List.getElem?_eq_getElem (show i < u.length by omega), List.getElem?_eq_getElem (show j < v.length by omega), e6]
            rw [if_pos e7] at hss
            rw [e1, List.length_append, List.length_singleton]
            omega

/-- a longest common subsequence -/
def LCS (u v s : List Int) : Prop := List.Sublist s u ∧ List.Sublist s v ∧ ∀ x, List.Sublist x u → List.Sublist x v → x.length ≤ s.length

theorem sub_ne {x y : Int} {a b : List Int} (h : List.Sublist (x :: a) (y :: b)) (hne : x ≠ y) : List.Sublist (x :: a) b := by
  cases h with
  | cons _ h => exact h
  | cons_cons _ h => exact absurd rfl hne

theorem sub_tail {x y : Int} {a b : List Int} (h : List.Sublist (x :: a) (y :: b)) : List.Sublist a b := by
  cases h with
  | cons _ h => exact (List.sublist_cons_self x a).trans h
  | cons_cons _ h => exact h

theorem LCS_nil_left {v : List Int} : LCS [] v [] := ⟨by simp, by simp, fun x h _ => by simp at h; simp [h]⟩
theorem LCS_nil_right {u : List Int} : LCS u [] [] := ⟨by simp, by simp, fun x _ h => by simp at h; simp [h]⟩

theorem LCS_ne {x y : Int} {u v a b c : List Int} (hne : x ≠ y) (ha : LCS u (y :: v) a) (hb : LCS (x :: u) v b) (hc : c = a ∨ c = b) (h1 : a.length ≤ c.length) (h2 : b.length ≤ c.length) : LCS (x :: u) (y :: v) c := by
  refine ⟨?_, ?_, fun s hs1 hs2 => ?_⟩
  · rcases hc with rfl | rfl
    · exact ha.1.cons _
    · exact hb.1
  · rcases hc with rfl | rfl
    · exact ha.2.1
    · exact hb.2.1.cons _
  · cases s with
    | nil => simp
    | cons z s =>
      by_cases e : z = x
      · have := hb.2.2 _ hs1 (sub_ne hs2 (fun e2 => hne (by rw [← e, e2])))
        omega
      · have := ha.2.2 _ (sub_ne hs1 e) hs2
        omega

theorem LCS_eq {x : Int} {u v a b c d : List Int} (ha : LCS u (x :: v) a) (hb : LCS (x :: u) v b) (hd : LCS u v d) (hc : c = a ∨ c = b ∨ c = x :: d) (h1 : a.length ≤ c.length) (h2 : b.length ≤ c.length) (h3 : (x :: d).length ≤ c.length) : LCS (x :: u) (x :: v) c := by
  refine ⟨?_, ?_, fun s hs1 hs2 => ?_⟩
  · rcases hc with rfl | rfl | rfl
    · exact ha.1.cons _
    · exact hb.1
    · exact hd.1.cons_cons _
  · rcases hc with rfl | rfl | rfl
    · exact ha.2.1
    · exact hb.2.1.cons _
    · exact hd.2.1.cons_cons _
  · cases s with
    | nil => simp
    | cons z s =>
      have := hd.2.2 s (sub_tail hs1) (sub_tail hs2)
      simp only [List.length_cons] at h3 ⊢
      omega

theorem VC45_of {a b : List Int} {K : List Int → Prop} (h : ∀ c, (c = a ∨ c = b) → a.length ≤ c.length → b.length ≤ c.length → K c) : VC45 a b K := by
  unfold VC45 VC43
  have fin : ∀ r : Int, (((decide ((b.length : Int) < (a.length : Int))) || ((decide ((a.length : Int) = (b.length : Int))) && (decide (r ≤ (0 : Int))))) = true → K a) ∧ (((decide ((b.length : Int) < (a.length : Int))) || ((decide ((a.length : Int) = (b.length : Int))) && (decide (r ≤ (0 : Int))))) = false → K b) := by
    intro r
    refine ⟨fun hc => h a (Or.inl rfl) (Nat.le_refl _) ?_, fun hc => h b (Or.inr rfl) ?_ (Nat.le_refl _)⟩
    · simp only [Bool.or_eq_true, Bool.and_eq_true, decide_eq_true_eq] at hc
      omega
    · simp only [Bool.or_eq_false_iff, decide_eq_false_iff_not] at hc
      omega
  unfold gcall
  split
  · exact fin _
  · exact fin _

theorem VC35_of {u v : List Int} {K : Bool × Int → Prop} (hl : longB [u, v] = true → K (false, 1)) (h : longB [u, v] = false → ∀ b : Bool, (b = true ↔ List.Sublist u v) → K (b, 0)) : VC35 u v K := by
  unfold VC35
  refine VC38_of (by simp) ?_
  cases hb : longB [u, v] with
  | true => exact ⟨fun _ => hl hb, fun e => by simp at e⟩
  | false =>
    refine ⟨fun e => by simp at e, fun _ => ?_⟩
    have h := h hb
    simp [longB] at hb
    refine Loop.by (fun s : Int × Int => ∃ i t : Nat, s = ((i : Int), (t : Int)) ∧ i ≤ u.length ∧ t ≤ v.length ∧ (List.Sublist (u.drop i) (v.drop t) ↔ List.Sublist u v)) (fun s => ((v.length : Int) - s.2).toNat) ⟨0, 0, rfl, by omega, by omega, by simp⟩ ?_
    rintro ⟨i', t'⟩ ⟨i, t, e, hi, ht, hiff⟩ X hX
    obtain ⟨rfl, rfl⟩ := Prod.mk.inj e
    unfold VC35_l1 VC35_k2 VC35_k1
    refine ⟨fun hc => ?_, fun hc => ?_⟩
    · simp only [decide_eq_true_eq] at hc
      have htl : t < v.length := by omega
      simp only [Int.toNat_natCast]
      have hv : v.drop t = v.getD t 0 :: v.drop (t + 1) := by rw [getD_lt 0 htl]; exact List.drop_eq_getElem_cons htl
      refine ⟨⟨by omega, by omega⟩, fun hd => ⟨by omega, by simpa using hd⟩, fun hd => ?_, fun hd => ?_⟩
      · simp only [Bool.and_eq_true, decide_eq_true_eq] at hd
        have hil : i < u.length := by omega
        have hu : u.drop i = u.getD i 0 :: u.drop (i + 1) := by rw [getD_lt 0 hil]; exact List.drop_eq_getElem_cons hil
        refine ⟨⟨by omega, by omega⟩, ⟨by omega, by omega⟩, hX _ ⟨i + 1, t + 1, by simp, by omega, by omega, ?_⟩ (by simp only; omega)⟩
        rw [← hiff, hu, hv, hd.2, List.cons_sublist_cons]
      · refine ⟨⟨by omega, by omega⟩, hX _ ⟨i, t + 1, by simp, by omega, by omega, ?_⟩ (by simp only; omega)⟩
        rw [← hiff, hv]
        by_cases hil : i < u.length
        · have hu : u.drop i = u.getD i 0 :: u.drop (i + 1) := by rw [getD_lt 0 hil]; exact List.drop_eq_getElem_cons hil
          simp only [Bool.and_eq_false_iff, decide_eq_false_iff_not] at hd
          have hne : u.getD i 0 ≠ v.getD t 0 := by
            rcases hd with hd | hd
            · omega
            · exact hd
          rw [hu]
          exact ⟨fun hh => hh.cons _, fun hh => sub_ne hh hne⟩
        · rw [List.drop_eq_nil_of_le (by omega)]
          simp
    · simp only [decide_eq_false_iff_not] at hc
      refine h _ ?_
      rw [← hiff, List.drop_eq_nil_of_le (show v.length ≤ t by omega), decide_eq_true_eq]
      constructor
      · intro e
        rw [List.drop_eq_nil_of_le (by omega)]
        exact List.Sublist.refl _
      · intro hh
        have : u.drop i = [] := by simpa using hh
        have := congrArg List.length this
        rw [List.length_drop] at this
        simp only [List.length_nil] at this
        omega

theorem VC34_long {u v : List Int} (hlong : longB [u, v] = true) {K : List Int × Int → Prop} (h : K ([], 1)) : VC34 u v K := by
  unfold VC34
  refine VC38_of (by simp) ?_
  rw [hlong]
  exact ⟨fun _ => h, fun e => by simp at e⟩

/-- a row of longest common subsequences -/
def RowL (u v : List Int) (i : Nat) (row : List (List Int)) : Prop := row.length = v.length + 1 ∧ ∀ j, j ≤ v.length → LCS (u.drop i) (v.drop j) (row.getD j [])

theorem getD_rep (n j : Nat) : (List.replicate n ([] : List Int)).getD j [] = [] := by
  simp only [List.getD, List.getElem?_replicate]
  split <;> rfl

theorem getD_setL {l : List (List Int)} {i j : Nat} {x : List Int} (h : i < l.length) : (l.set i x).getD j [] = if i = j then x else l.getD j [] := by
  simp only [List.getD, List.getElem?_set]
  by_cases e : i = j
  · rw [if_pos e, if_pos e, if_pos h]; rfl
  · rw [if_neg e, if_neg e]

theorem VC34_of {u v : List Int} (hlong : longB [u, v] = false) {K : List Int × Int → Prop} (h : ∀ s, LCS u v s → K (s, 0)) : VC34 u v K := by
  unfold VC34
  refine VC38_of (by simp) ?_
  rw [hlong]
  simp [longB] at hlong
  obtain ⟨hu, hv⟩ := hlong
  refine ⟨fun e => by simp at e, fun _ => ⟨⟨by omega, by omega⟩, ⟨by omega, by omega⟩, ⟨by omega, by omega⟩, ?_⟩⟩
  refine Loop.by (fun s : Int × List (List Int) => ∃ i : Nat, s.1 = (i : Int) - 1 ∧ i ≤ u.length ∧ RowL u v i s.2) (fun s => (s.1 + 1).toNat) ⟨u.length, rfl, Nat.le_refl _, ?_, fun j hj => ?_⟩ ?_
  · simp only [List.length_replicate]; omega
  · simp only [getD_rep, List.drop_length]
    exact LCS_nil_left
  rintro ⟨i', below⟩ ⟨i, e, hi, hlen, hrow⟩ X hX
  simp only at e hlen hrow
  subst e
  unfold VC34_l1 VC34_k1
  refine ⟨fun hc => ?_, fun hc => ?_⟩
  · simp only [decide_eq_true_eq] at hc
    obtain ⟨i, rfl⟩ : ∃ k, i = k + 1 := ⟨i - 1, by omega⟩
    have ei : ((i + 1 : Nat) : Int) - 1 = (i : Int) := by omega
    simp only [ei] at hX ⊢
    have hil : i < u.length := by omega
    have hud : u.drop i = u.getD i 0 :: u.drop (i + 1) := by rw [getD_lt 0 hil]; exact List.drop_eq_getElem_cons hil
    refine ⟨⟨by omega, by omega⟩, ⟨by omega, by omega⟩, ⟨by omega, by omega⟩, ?_⟩
    refine Loop.by (fun s : Int × List (List Int) => ∃ j : Nat, s.1 = (j : Int) - 1 ∧ j ≤ v.length ∧ s.2.length = v.length + 1 ∧ ∀ k, j ≤ k → k ≤ v.length → LCS (u.drop i) (v.drop k) (s.2.getD k [])) (fun s => (s.1 + 1).toNat) ⟨v.length, rfl, Nat.le_refl _, ?_, fun k hk1 hk2 => ?_⟩ ?_
    · simp only [List.length_replicate]; omega
    · have : k = v.length := by omega
      subst this
      simp only [getD_rep, List.drop_length]
      exact LCS_nil_right
    rintro ⟨j', row⟩ ⟨j, e, hj, hrl, hr⟩ Y hY
    simp only at e hrl hr
    subst e
    unfold VC34_l2 VC34_k3 VC34_k2
    refine ⟨fun hc2 => ?_, fun hc2 => ?_⟩
    · simp only [decide_eq_true_eq] at hc2
      obtain ⟨j, rfl⟩ : ∃ k, j = k + 1 := ⟨j - 1, by omega⟩
      have ej : ((j + 1 : Nat) : Int) - 1 = (j : Int) := by omega
      have ej1 : ((j : Int) + 1).toNat = j + 1 := by omega
      simp only [ej, ej1, Int.toNat_natCast] at hY ⊢
      have hjl : j < v.length := by omega
      have hvd : v.drop j = v.getD j 0 :: v.drop (j + 1) := by rw [getD_lt 0 hjl]; exact List.drop_eq_getElem_cons hjl
      have ha := hrow j (by omega)
      have hb := hr (j + 1) (by omega) (by omega)
      have hd := hrow (j + 1) (by omega)
      rw [hvd] at ha
      rw [hud] at hb
      refine ⟨⟨by omega, by omega⟩, ⟨by omega, by omega⟩, ⟨by omega, by omega⟩, VC45_of fun c hc3 hc4 hc5 => ⟨⟨by omega, by omega⟩, ⟨by omega, by omega⟩, ⟨by omega, by omega⟩, fun heq => ?_, fun hne => ?_⟩⟩
      · simp only [decide_eq_true_eq] at heq
        have hbl : (below.getD (j + 1) []).length ≤ 60 := by have := hd.2.1.length_le; rw [List.length_drop] at this; omega
        refine ⟨⟨by omega, by rw [List.length_set]; omega⟩, ⟨by omega, by omega⟩, ⟨by omega, by omega⟩, ⟨by omega, by omega⟩, VC44_of (by simp) (by omega) (VC45_of fun c2 h6 h7 h8 => ⟨⟨by omega, by rw [List.length_set]; omega⟩, ⟨by omega, by omega⟩, hY _ ⟨j, by simp, by omega, by simp only [List.length_set]; exact hrl, fun k hk1 hk2 => ?_⟩ (by simp only; omega)⟩)⟩
        simp only
        rw [getD_setL (by rw [List.length_set]; omega)]
        rw [getD_setL (by omega), if_pos rfl] at h6 h7
        by_cases ek : j = k
        · subst ek
          rw [if_pos rfl, hud, hvd, heq]
          rw [← heq] at ha
          rw [heq] at hb ha
          refine LCS_eq (d := below.getD (j + 1) []) ha hb hd ?_ (by omega) (by omega) (by rw [← heq]; exact h8)
          rw [heq] at h6
          rcases h6 with h6 | h6
          · rw [h6]
            rcases hc3 with h | h
            · exact Or.inl h
            · exact Or.inr (Or.inl h)
          · exact Or.inr (Or.inr h6)
        · rw [if_neg ek, getD_setL (by omega), if_neg ek]
          exact hr k (by omega) hk2
      · simp only [decide_eq_false_iff_not] at hne
        refine ⟨⟨by omega, by omega⟩, hY _ ⟨j, by simp, by omega, by simp only [List.length_set]; exact hrl, fun k hk1 hk2 => ?_⟩ (by simp only; omega)⟩
        simp only
        rw [getD_setL (by omega)]
        by_cases ek : j = k
        · subst ek
          rw [if_pos rfl, hud, hvd]
          exact LCS_ne hne ha hb hc3 hc4 hc5
        · rw [if_neg ek]
          exact hr k (by omega) hk2
    · simp only [decide_eq_false_iff_not] at hc2
      have : j = 0 := by omega
      subst this
      refine ⟨⟨by omega, by omega⟩, hX _ ⟨i, rfl, by omega, hrl, fun k hk => hr k (by omega) hk⟩ (by simp only; omega)⟩
  · simp only [decide_eq_false_iff_not] at hc
    have : i = 0 := by omega
    subst this
    have h0 := hrow 0 (by omega)
    simp only [List.drop_zero] at h0
    dsimp only
    refine ⟨⟨by omega, by omega⟩, VC41_of ?_ (h _ h0)⟩
    exact Nat.le_trans h0.1.length_le (by omega)

theorem editShared (u v x : List Int) : VC13 u v x (fun b => b = true) := by
  unfold VC13
  cases hl : longB [u, v] with
  | true =>
    refine VC34_long hl (VC16_of (by simp) ?_)
    rw [hl]
    exact ⟨fun _ => by simp, fun e => by simp at e⟩
  | false =>
    refine VC34_of hl fun s hs => VC16_of (by simp) ?_
    rw [hl]
    refine ⟨fun e => by simp at e, fun _ => ?_⟩
    have hl2 := hl
    simp [longB] at hl2
    have hs1 := hs.1.length_le
    have hs2 := hs.2.1.length_le
    refine VC35_of (fun e => ?_) fun _ a ha => ?_
    · simp [longB] at e; omega
    refine VC35_of (fun e => ?_) fun _ b hb => ?_
    · simp [longB] at e; omega
    have ha := ha.2 hs.1
    have hb := hb.2 hs.2.1
    subst ha hb
    refine VC20_of (by omega) (by omega) hl ?_
    have hd := Dst_shared _ u.length v.length rfl (Nat.le_refl _) (Nat.le_refl _) s (by rw [List.take_length]; exact hs.1) (by rw [List.take_length]; exact hs.2.1)
    simp only
    refine ⟨fun _ => ⟨by omega, by omega⟩, fun _ => ⟨by omega, by omega⟩, fun _ => ⟨by omega, by omega⟩, fun e => ?_, fun _ => ?_⟩
    · simp at e
      omega
    refine VC35_of (fun _ => ?_) fun _ a ha => ?_
    · refine VC35_of (fun _ => by simp) fun _ b hb => by simp
    · refine VC35_of (fun _ => by simp) fun _ b hb => ?_
      cases a with
      | false => simp
      | true =>
        cases b with
        | false => simp
        | true =>
          have := hs.2.2 x (ha.1 rfl) (hb.1 rfl)
          simp
          omega
end Dec
