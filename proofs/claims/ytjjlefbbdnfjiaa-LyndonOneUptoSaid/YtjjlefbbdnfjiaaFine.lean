/-
  Periods of a word: plain Lean (Fine and Wilf).
-/
set_option linter.unusedSimpArgs false
set_option linter.unusedVariables false
namespace Fine

def Per {α : Type} (f : Nat → α) (n p : Nat) : Prop := ∀ i, i + p < n → f i = f (i + p)

theorem Per.mul {α : Type} {f : Nat → α} {n g : Nat} (h : Per f n g) : ∀ k i, i + k * g < n → f i = f (i + k * g)
  | 0, i, _ => by simp
  | k + 1, i, hi => by
    have e : i + (k + 1) * g = (i + k * g) + g := by rw [Nat.add_mul]; omega
    rw [e] at hi ⊢
    rw [Per.mul h k i (by omega), h _ hi]

theorem step {α : Type} {f : Nat → α} {n p q g : Nat} (hp : 0 < p) (hg : 0 < g) (hpq : p < q) (hgp : g ∣ p) (hgq : p + g ≤ q) (hn : p + q ≤ n + g) (h1 : Per f n p) (h : Per f (n - p) g) : Per f n g := by
  intro i hi
  by_cases h2 : i + g < n - p
  · exact h i h2
  · by_cases h3 : p ≤ i
    · have e1 := h1 (i - p) (by omega)
      have e2 := h1 (i + g - p) (by omega)
      have e3 := h (i - p) (by omega)
      rw [show i - p + p = i by omega] at e1
      rw [show i + g - p + p = i + g by omega] at e2
      rw [show i - p + g = i + g - p by omega] at e3
      rw [← e1, e3, e2]
    · have e2 := h1 (i + g - p) (by omega)
      rw [show i + g - p + p = i + g by omega] at e2
      rw [← e2]
      obtain ⟨k, rfl⟩ := hgp
      have hk : 0 < k := Nat.pos_of_ne_zero fun e => by subst e; simp at hp
      obtain ⟨k, rfl⟩ : ∃ j, k = j + 1 := ⟨k - 1, by omega⟩
      have e : g * (k + 1) = k * g + g := by rw [Nat.mul_add, Nat.mul_comm]; simp
      rw [e] at h2 h3 hgq hn ⊢
      have := h.mul k (i + g - (k * g + g)) (by omega)
      rw [this]
      congr 1
      omega

theorem fw {α : Type} {f : Nat → α} : ∀ (s p q n : Nat), p + q = s → 0 < p → 0 < q → p + q ≤ n + Nat.gcd p q → Per f n p → Per f n q → Per f n (Nat.gcd p q) := by
  intro s
  induction s using Nat.strongRecOn with
  | _ s ih =>
    have main : ∀ p q n, p + q = s → 0 < p → p < q → p + q ≤ n + Nat.gcd p q → Per f n p → Per f n q → Per f n (Nat.gcd p q) := by
      intro p q n hs hp hpq hn h1 h2
      have hg : Nat.gcd p (q - p) = Nat.gcd p q := by
        have := Nat.gcd_add_self_right p (q - p)
        rw [show q - p + p = q by omega] at this
        exact this.symm
      have hgpos : 0 < Nat.gcd p q := Nat.gcd_pos_of_pos_left q hp
      have hd : Nat.gcd p q ∣ q - p := by rw [← hg]; exact Nat.gcd_dvd_right _ _
      have hle : Nat.gcd p q ≤ q - p := Nat.le_of_dvd (by omega) hd
      have hlp : Nat.gcd p q ≤ p := Nat.le_of_dvd hp (Nat.gcd_dvd_left p q)
      have h3 := ih (p + (q - p)) (by omega) p (q - p) (n - p) rfl hp (by omega) (by rw [hg]; omega) (fun i hi => h1 i (by omega)) (fun i hi => by
        have e1 := h2 i (by omega)
        have e2 := h1 (i + (q - p)) (by omega)
        rw [show i + (q - p) + p = i + q by omega] at e2
        rw [e1, e2])
      rw [hg] at h3
      exact step hp hgpos hpq (Nat.gcd_dvd_left p q) (by omega) hn h1 h3
    intro p q n hs hp hq hn h1 h2
    rcases Nat.lt_trichotomy p q with h | h | h
    · exact main p q n hs hp h hn h1 h2
    · subst h
      rw [Nat.gcd_self]
      exact h1
    · have := main q p n (by omega) hq h (by rw [Nat.gcd_comm]; omega) h2 h1
      rw [Nat.gcd_comm]
      exact this

/-- a period of a list -/
theorem per_iff {α : Type} (w : List α) (p : Nat) (hp : p ≤ w.length) : w.drop p = w.take (w.length - p) ↔ Per (fun i => w[i]?) w.length p := by
  constructor
  · intro h i hi
    have := congrArg (fun l => l[i]?) h
    simp only [List.getElem?_drop, List.getElem?_take] at this
    rw [if_pos (by omega)] at this
    show w[i]? = w[i + p]?
    rw [← this, Nat.add_comm]
  · intro h
    apply List.ext_getElem?
    intro i
    rw [List.getElem?_drop, List.getElem?_take]
    by_cases hi : i < w.length - p
    · rw [if_pos hi]
      have := h i (by omega)
      simp only at this
      rw [this, Nat.add_comm]
    · rw [if_neg hi, List.getElem?_eq_none (by omega)]

end Fine
