/-
  'PowerRoot' in plain Lean.
-/
import Derived.Test.YtjjlefbbdnfjiaaGenF
import Derived.Test.YtjjlefbbdnfjiaaCover
set_option linter.unusedSimpArgs false
set_option linter.unusedVariables false
namespace Dec
open Go Go.Proofs Fine

theorem VC41_of {s : List Int} (hl : s.length ≤ 1000000) {K : List Int → Prop} (h : K s) : VC41 s K := by
  unfold VC41
  intro b hb
  refine ⟨fun e => ?_, fun _ => ⟨?_, ?_⟩⟩
  · rw [hb e] at h; exact h
  · simp only [roomN, List.length_nil]; omega
  · simpa using h

abbrev PerL (w : List Int) (p : Nat) : Prop := Per (fun i => w[i]?) w.length p

theorem perB_nat {w : List Int} {p : Nat} (h1 : 1 ≤ p) (h2 : p ≤ w.length) : perB w (p : Int) = true ↔ PerL w p := by
  rw [perB_iff]
  constructor
  · rintro ⟨_, _, h⟩; exact h
  · intro h; exact ⟨by omega, by omega, h⟩

theorem VC24_of {w : List Int} (hl : w.length ≤ 60) {K : List Int × Int × Int → Prop} (hnil : w.length = 0 → K ([], 0, 0))
    (h : ∀ p : Nat, 1 ≤ p → p ≤ w.length → p ∣ w.length → PerL w p → (∀ q, 1 ≤ q → q < p → q ∣ w.length → ¬ PerL w q) → K (w.take p, ((w.length / p : Nat) : Int), 0)) : VC24 w K := by
  unfold VC24
  refine VC38_of (by simp) ?_
  have : longB [w] = false := by simp [longB]; omega
  rw [this]
  simp only [Bool.false_eq_true, if_false]
  refine ⟨fun e => by simp at e, fun _ => ?_⟩
  refine Loop.by (fun p : Int => 1 ≤ p ∧ p ≤ (w.length : Int) + 1 ∧ ∀ q : Nat, 1 ≤ q → (q : Int) < p → q ∣ w.length → ¬ PerL w q) (fun p => ((w.length : Int) + 1 - p).toNat) ⟨by omega, by omega, fun q h1 h2 => by omega⟩ ?_
  rintro p ⟨h0, h1, h2⟩ X hX
  unfold VC24_l1 VC24_k1
  obtain ⟨n, rfl⟩ : ∃ n : Nat, p = (n : Int) := ⟨p.toNat, by omega⟩
  have hmod : ((w.length : Int) % (n : Int) = 0) ↔ n ∣ w.length := by
    rw [← Int.natCast_emod]
    constructor
    · intro e; exact Nat.dvd_of_mod_eq_zero (by omega)
    · intro e; have := Nat.mod_eq_zero_of_dvd e; omega
  refine ⟨fun hb => ?_, fun hb => ?_⟩
  · simp only [decide_eq_true_eq] at hb
    refine ⟨⟨by omega, by omega⟩, ?_⟩
    have next : ¬ (n ∣ w.length ∧ PerL w n) → (InR ((n : Int) + (1 : Int)) ∧ X ((n : Int) + (1 : Int))) := by
      intro hn
      refine ⟨⟨by omega, by omega⟩, hX _ ⟨by omega, by omega, fun q hq1 hq2 hq3 hq4 => ?_⟩ (by omega)⟩
      by_cases hlt : (q : Int) < (n : Int)
      · exact h2 q hq1 hlt hq3 hq4
      · have : q = n := by omega
        subst this
        exact hn ⟨hq3, hq4⟩
    by_cases hd : n ∣ w.length
    · have e1 : decide ((w.length : Int) % (n : Int) = 0) = true := decide_eq_true (hmod.2 hd)
      rw [e1]
      unfold gcall
      rw [if_pos rfl]
      refine VC39_of (by omega) ?_
      simp only [Bool.true_and]
      refine ⟨fun hp => ⟨⟨by omega, hb⟩, ⟨by omega, by omega⟩, VC41_of (by simp; omega) ?_⟩, fun hp => next fun hh => ?_⟩
      · have := h n (by omega) (by omega) hd ((perB_nat (by omega) (by omega)).1 hp) (fun q hq1 hq2 => h2 q hq1 (by omega))
        rw [show ((w.length : Int) / (n : Int)) = ((w.length / n : Nat) : Int) from (Int.natCast_ediv _ _).symm]
        simpa using this
      · rw [(perB_nat (by omega) (by omega)).2 hh.2] at hp
        cases hp
    · have e1 : decide ((w.length : Int) % (n : Int) = 0) = false := decide_eq_false (fun e => hd (hmod.1 e))
      rw [e1]
      unfold gcall
      rw [if_neg (by decide)]
      exact ⟨fun e => (by cases e), fun _ => next fun hh => hd hh.1⟩
  · simp only [decide_eq_false_iff_not] at hb
    refine hnil (Nat.eq_zero_of_not_pos fun hpos => ?_)
    exact h2 w.length (by omega) (by omega) (Nat.dvd_refl _) (fun i hi => by omega)

theorem per_mod {w : List Int} {p : Nat} (h : PerL w p) {j : Nat} (hj : j < w.length) : w[j]? = w[j % p]? := by
  have e : j % p + j / p * p = j := by have := Nat.mod_add_div j p; rw [Nat.mul_comm] at this; exact this
  have := h.mul (j / p) (j % p) (by omega)
  simp only [e] at this
  exact this.symm

theorem per_take {w : List Int} {p q : Nat} (hp : 1 ≤ p) (hpl : p ≤ w.length) (hq1 : 1 ≤ q) (hq : q ∣ p) (hqp : q < p) (h1 : PerL w p) (h2 : PerL (w.take p) q) : PerL w q := by
  have hlen : (w.take p).length = p := by simp; omega
  have h2' : ∀ i, i + q < p → w[i]? = w[i + q]? := by
    intro i hi
    have := h2 i (by rw [hlen]; exact hi)
    simp only [List.getElem?_take] at this
    rw [if_pos (by omega), if_pos (by omega)] at this
    exact this
  have h3 : Per (fun i => w[i]?) p q := h2'
  intro i hi
  simp only
  rw [per_mod h1 (show i < w.length by omega), per_mod h1 hi]
  have hb : i % p < p := Nat.mod_lt _ (by omega)
  by_cases hc : i % p + q < p
  · rw [h2' _ hc]
    congr 1
    rw [Nat.add_mod, Nat.mod_eq_of_lt hqp, Nat.mod_eq_of_lt hc]
  · have e : (i + q) % p = i % p + q - p := by
      rw [Nat.add_mod, Nat.mod_eq_of_lt hqp, Nat.mod_eq_sub_mod (by omega), Nat.mod_eq_of_lt (by omega)]
    rw [e]
    obtain ⟨c, rfl⟩ := hq
    cases c with
    | zero => omega
    | succ c =>
      have e2 : q * (c + 1) = c * q + q := by rw [Nat.mul_add, Nat.mul_comm]; simp
      have := h3.mul c (i % (q * (c + 1)) + q - q * (c + 1)) (by omega)
      rw [this]
      congr 1
      omega

theorem take_step {w : List Int} {p i : Nat} (h : PerL w p) (hi : (i + 1) * p ≤ w.length) : w.take (i * p) ++ w.take p = w.take ((i + 1) * p) := by
  have e : (i + 1) * p = i * p + p := by rw [Nat.add_mul]; omega
  rw [e] at hi ⊢
  apply List.ext_getElem?
  intro j
  by_cases hj : j < i * p
  · rw [List.getElem?_append_left (by simp; omega), List.getElem?_take, List.getElem?_take, if_pos hj, if_pos (by omega)]
  · rw [List.getElem?_append_right (by simp; omega), List.length_take, Nat.min_eq_left (by omega), List.getElem?_take, List.getElem?_take]
    by_cases hj2 : j < i * p + p
    · rw [if_pos (by omega), if_pos hj2]
      have := h.mul i (j - i * p) (by omega)
      rw [this]
      congr 1
      omega
    · rw [if_neg (by omega), if_neg hj2]

theorem powerRoot (w : List Int) : VC7 w (fun b => b = true) := by
  unfold VC7
  by_cases hl : 60 < w.length
  · have hlong : longB [w] = true := by simp [longB, hl]
    unfold VC24
    refine VC38_of (by simp) ?_
    rw [hlong]
    simp only [if_true]
    refine ⟨fun _ => VC16_of (by simp) ?_, fun e => by simp at e⟩
    rw [hlong]
    simp
  have hlong : longB [w] = false := by simp [longB, hl]
  refine VC24_of (by omega) (fun h0 => VC16_of (by simp) ?_) (fun p hp1 hp2 hp3 hp4 hp5 => VC16_of (by simp) ?_)
  · rw [hlong]
    have hw : w = [] := List.eq_nil_of_length_eq_zero h0
    subst hw
    simp only [decide_true, Bool.not_true]
    refine ⟨fun e => (by cases e), fun _ => ⟨fun e => (by simp at e), fun _ => ?_⟩⟩
    refine Loop.by (fun s : Int × List Int => s = (0, [])) (fun _ => 0) rfl ?_
    rintro s rfl X _
    unfold VC7_l1 VC7_k1
    refine ⟨fun e => (by simp at e), fun _ => ?_⟩
    refine VC24_of (by simp) (fun _ => ?_) (fun p h1 h2 => by simp at h2; omega)
    unfold gcall
    rw [if_pos (by decide)]
    refine VC21_of (by simp) ?_
    rw [if_pos (by decide)]
    refine VC21_of (by simp) ?_
    decide
  · rw [hlong]
    have hk : 1 ≤ w.length / p := Nat.div_pos hp2 (by omega)
    have hkl : w.length / p ≤ w.length := Nat.div_le_self _ _
    have hmul : w.length / p * p = w.length := Nat.div_mul_cancel hp3
    refine ⟨fun e => (by cases e), fun _ => ⟨fun e => ?_, fun _ => ?_⟩⟩
    · exfalso
      have e1 : ¬ ((w.length / p : Nat) : Int) < 0 := by omega
      have e2 : ¬ (w.length : Int) < ((w.length / p : Nat) : Int) := by omega
      have e3 : ¬ ((w.length / p : Nat) : Int) = 0 := by omega
      have e4 : ¬ (w.length : Int) = 0 := by omega
      simp only [decide_true, Bool.not_true, decide_eq_false e1, decide_eq_false e2, decide_eq_false e3, decide_eq_false e4] at e
      cases e
    · refine Loop.by (fun s : Int × List Int => ∃ i : Nat, s.1 = (i : Int) ∧ i ≤ w.length / p ∧ s.2 = w.take (i * p)) (fun s => ((w.length / p : Nat) - s.1).toNat) ⟨0, rfl, by omega, by simp⟩ ?_
      rintro ⟨i0, all⟩ ⟨i, h1, h2, h3⟩ X hX
      simp only at h1 h2 h3
      subst h1 h3
      unfold VC7_l1 VC7_k1
      refine ⟨fun hb => ?_, fun hb => ?_⟩
      · simp only [decide_eq_true_eq] at hb
        have hi1 : i + 1 ≤ w.length / p := by omega
        have hi2 : (i + 1) * p ≤ w.length := by
          have := Nat.mul_le_mul_right p hi1
          omega
        refine ⟨?_, ⟨by omega, by omega⟩, hX _ ⟨i + 1, by simp, hi1, ?_⟩ (by simp only; omega)⟩
        · simp only [roomN, List.length_take]; omega
        · simp only
          exact take_step hp4 hi2
      · simp only [decide_eq_false_iff_not] at hb
        have hi : i = w.length / p := by omega
        subst hi
        rw [hmul, List.take_length]
        have hlen : (w.take p).length = p := by simp; omega
        refine VC24_of (w := w.take p) (by omega) (fun h0 => by omega) (fun q hq1 hq2 hq3 hq4 hq5 => ?_)
        have hqp : q = p := by
          rw [hlen] at hq2 hq3
          by_cases hlt : q < p
          · exact absurd (per_take hp1 hp2 hq1 hq3 hlt hp4 hq4) (hp5 q hq1 hlt (Nat.dvd_trans hq3 hp3))
          · omega
        subst hqp
        unfold gcall
        rw [if_pos (by rfl)]
        refine VC21_of (a := w) (by omega) ?_
        rw [if_pos (by simp)]
        refine VC21_of (a := (w.take q).take q) (by simp; omega) ?_
        simp only [hlen, Nat.div_self (show 0 < q by omega)]
        simp [List.take_take]
end Dec
