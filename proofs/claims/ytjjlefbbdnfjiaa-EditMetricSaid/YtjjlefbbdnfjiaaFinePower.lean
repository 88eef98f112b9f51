/-
  'PowerFine' in plain Lean.
-/
import Derived.Test.YtjjlefbbdnfjiaaGenB
import Derived.Test.YtjjlefbbdnfjiaaFine
set_option linter.unusedSimpArgs false
set_option linter.unusedVariables false
namespace Dec
open Go Go.Proofs

def longB (words : List (List Int)) : Bool := words.any fun x => decide (60 < x.length)

theorem getD_eq {α : Type} {l : List α} {i : Nat} {d : α} (h : i < l.length) : l.getD i d = l[i] := by simp [List.getD, h]

theorem any_of_get {words : List (List Int)} {i : Nat} (hi : i < words.length) (h : 60 < (words.getD i []).length) : longB words = true := by
  rw [getD_eq hi] at h
  simp only [longB, List.any_eq_true]
  exact ⟨words[i], List.getElem_mem hi, by simpa using h⟩

theorem not_any_of_get {words : List (List Int)} (h : ∀ i, i < words.length → ¬ 60 < (words.getD i []).length) : longB words = false := by
  simp only [longB, List.any_eq_false]
  intro x hx
  obtain ⟨i, hi, rfl⟩ := List.getElem_of_mem hx
  have := h i hi
  rw [getD_eq hi] at this
  simpa using this

theorem VC38_of {words : List (List Int)} (hl : words.length ≤ 1000000) {K : Int → Prop} (h : K (if longB words then 1 else 0)) : VC38 words K := by
  unfold VC38
  refine Loop.by (fun v : Int => 0 ≤ v ∧ v ≤ (words.length : Int) ∧ ∀ i : Nat, (i : Int) < v → ¬ 60 < (words.getD i []).length) (fun v : Int => ((words.length : Int) - v).toNat) ⟨by omega, by omega, fun i hi => by omega⟩ ?_
  rintro v ⟨h0, h1, h2⟩ X hX
  unfold VC38_l1 VC38_k1
  refine ⟨fun hb => ?_, fun hb => ?_⟩
  · simp only [decide_eq_true_eq] at hb
    refine ⟨⟨h0, hb⟩, fun hc => ?_, fun hc => ⟨⟨by omega, by omega⟩, hX _ ⟨by omega, by omega, fun i hi => ?_⟩ (by omega)⟩⟩
    · simp only [decide_eq_true_eq] at hc
      rw [if_pos (any_of_get (i := v.toNat) (by omega) (by omega))] at h
      exact h
    · simp only [decide_eq_false_iff_not] at hc
      by_cases e : (i : Int) < v
      · exact h2 i e
      · have : i = v.toNat := by omega
        subst this
        omega
  · simp only [decide_eq_false_iff_not] at hb
    rw [not_any_of_get (fun i hi => h2 i (by omega))] at h
    exact h

theorem VC16_of {words : List (List Int)} (hl : words.length ≤ 1000000) {K : Bool → Prop} (h : K (longB words)) : VC16 words K := by
  unfold VC16
  refine Loop.by (fun v : Int => 0 ≤ v ∧ v ≤ (words.length : Int) ∧ ∀ i : Nat, (i : Int) < v → ¬ 60 < (words.getD i []).length) (fun v : Int => ((words.length : Int) - v).toNat) ⟨by omega, by omega, fun i hi => by omega⟩ ?_
  rintro v ⟨h0, h1, h2⟩ X hX
  unfold VC16_l1 VC16_k1
  refine ⟨fun hb => ?_, fun hb => ?_⟩
  · simp only [decide_eq_true_eq] at hb
    refine ⟨⟨h0, hb⟩, fun hc => ?_, fun hc => ⟨⟨by omega, by omega⟩, hX _ ⟨by omega, by omega, fun i hi => ?_⟩ (by omega)⟩⟩
    · simp only [decide_eq_true_eq] at hc
      rw [any_of_get (i := v.toNat) (by omega) (by omega)] at h
      exact h
    · simp only [decide_eq_false_iff_not] at hc
      by_cases e : (i : Int) < v
      · exact h2 i e
      · have : i = v.toNat := by omega
        subst this
        omega
  · simp only [decide_eq_false_iff_not] at hb
    rw [not_any_of_get (fun i hi => h2 i (by omega))] at h
    exact h

theorem VC17_of {a b : Int} (ha : 0 ≤ a) (hb : 0 ≤ b) {K : Int → Prop} (h : K (Nat.gcd a.toNat b.toNat : Nat)) : VC17 a b K := by
  unfold VC17
  refine Loop.by (fun s => 0 ≤ s.1 ∧ 0 ≤ s.2 ∧ Nat.gcd s.1.toNat s.2.toNat = Nat.gcd a.toNat b.toNat) (fun s => s.2.toNat) ⟨ha, hb, rfl⟩ ?_
  rintro ⟨x, y⟩ ⟨h0, h1, h2⟩ X hX
  simp only at h0 h1 h2 ⊢
  unfold VC17_l1 VC17_k1
  refine ⟨fun hc => ?_, fun hc => ?_⟩
  · simp only [decide_eq_true_eq] at hc
    have hm := Int.emod_nonneg x (show y ≠ 0 by omega)
    have hlt := Int.emod_lt_of_pos x hc
    refine ⟨⟨h0, hc⟩, hX _ ⟨h1, hm, ?_⟩ (by simp only; omega)⟩
    simp only
    rw [Int.toNat_emod h0 h1, Nat.gcd_comm, ← Nat.gcd_rec, Nat.gcd_comm]
    exact h2
  · simp only [decide_eq_false_iff_not] at hc
    have : y = 0 := by omega
    subst this
    simp at h2
    rw [← h2] at h
    simpa [show ((x.toNat : Nat) : Int) = x by omega] using h

/-- is p a period of w? -/
def perB (w : List Int) (p : Int) : Bool := decide (1 ≤ p) && decide (p ≤ w.length) && decide (w.drop p.toNat = w.take (w.length - p.toNat))

theorem VC39_of {w : List Int} (hl : w.length ≤ 1000000) {p : Int} {K : Bool → Prop} (h : K (perB w p)) : VC39 w p K := by
  unfold VC39 VC40
  by_cases hb : (decide ((1 : Int) ≤ p) && decide (p ≤ (w.length : Int))) = true
  · simp only [Bool.and_eq_true, decide_eq_true_eq] at hb
    have e : ((w.length : Int) - p).toNat = w.length - p.toNat := by omega
    refine ⟨fun _ => ⟨by omega, by omega⟩, fun _ => ⟨by omega, by omega⟩, fun _ => ⟨by omega, by omega⟩, ?_⟩
    rw [e]
    unfold gcall
    rw [if_pos (by simpa using hb)]
    exact h
  · have hb' := Bool.eq_false_iff.2 hb
    refine ⟨fun e => absurd e hb, fun e => absurd e hb, fun e => absurd e hb, ?_⟩
    unfold gcall
    rw [if_neg hb]
    simp only [perB, hb', Bool.false_and] at h ⊢
    exact h

theorem VC15_of {w : List Int} {p : Int} {K : Bool × Int → Prop} (h : K (if 60 < w.length then (false, 1) else (perB w p, 0))) : VC15 w p K := by
  unfold VC15
  refine VC38_of (by simp) ?_
  by_cases hl : 60 < w.length
  · rw [if_pos hl] at h
    have : longB [w] = true := by simp [longB, hl]
    simp only [this, if_true]
    exact ⟨fun _ => h, fun e => by simp at e⟩
  · rw [if_neg hl] at h
    have : longB [w] = false := by simp [longB, hl]
    simp only [this, Bool.false_eq_true, if_false]
    exact ⟨fun e => by simp at e, fun _ => VC39_of (by omega) h⟩

theorem perB_iff {w : List Int} {p : Int} : perB w p = true ↔ 1 ≤ p ∧ p ≤ w.length ∧ Fine.Per (fun i => w[i]?) w.length p.toNat := by
  simp only [perB, Bool.and_eq_true, decide_eq_true_eq]
  constructor
  · rintro ⟨⟨h1, h2⟩, h3⟩
    exact ⟨h1, h2, (Fine.per_iff w _ (by omega)).1 h3⟩
  · rintro ⟨h1, h2, h3⟩
    exact ⟨⟨h1, h2⟩, (Fine.per_iff w _ (by omega)).2 h3⟩

theorem perB_length (w : List Int) : perB w (w.length : Int) = decide ((0 : Int) < w.length) := by
  cases w with
  | nil => rfl
  | cons a l =>
    have : perB (a :: l) ((a :: l).length : Int) = true := perB_iff.2 ⟨by simp; omega, by simp, fun i hi => by rw [Int.toNat_natCast] at hi; omega⟩
    rw [this]
    simp
    try omega

theorem powerFine (w : List Int) (p q : Int) : VC3 w p q (fun b => b = true) := by
  unfold VC3
  refine VC15_of (VC15_of (VC16_of (by simp) ?_))
  by_cases hl : 60 < w.length
  · have : longB [w] = true := by simp [longB, hl]
    rw [this]
    simp only [if_pos hl]
    simp
  · have : longB [w] = false := by simp [longB, hl]
    rw [this, if_neg hl, if_neg hl]
    refine ⟨fun e => (by cases e), fun _ => VC15_of ?_⟩
    rw [if_neg hl, perB_length]
    refine ⟨fun e => ?_, fun _ => ?_⟩
    · exfalso
      simp only [decide_true, Bool.not_true, Bool.false_or, Bool.or_eq_true, Bool.and_eq_true, bne_self_eq_false, Bool.false_eq_true, false_or, decide_eq_true_eq] at e
      rcases e with ⟨h1, h2⟩ | ⟨h1, h2⟩
      · have := perB_iff.1 h1; omega
      · have := perB_iff.1 h1; omega
    · cases hp : perB w p with
      | false =>
        simp only [Bool.not_false, Bool.true_or, Bool.not_true]
        refine ⟨fun e => (by cases e), ?_⟩
        unfold gcall
        rw [if_neg (by decide)]
        exact ⟨fun e => by (cases e), fun _ => (by first | trivial | rfl), fun e => by cases e⟩
      | true =>
        cases hq : perB w q with
        | false =>
          simp only [Bool.not_false, Bool.or_true, Bool.true_or, Bool.not_true]
          refine ⟨fun e => (by cases e), ?_⟩
          unfold gcall
          rw [if_neg (by decide)]
          exact ⟨fun e => by (cases e), fun _ => (by first | trivial | rfl), fun e => by cases e⟩
        | true =>
          have h1 := perB_iff.1 hp
          have h2 := perB_iff.1 hq
          have hg1 : Nat.gcd p.toNat q.toNat ≤ p.toNat := Nat.le_of_dvd (by omega) (Nat.gcd_dvd_left _ _)
          have hg0 : 0 < Nat.gcd p.toNat q.toNat := Nat.gcd_pos_of_pos_left _ (by omega)
          simp only [Bool.not_true, Bool.or_self, Bool.false_or, Bool.not_false]
          refine ⟨fun _ => ⟨by omega, by omega⟩, ?_⟩
          unfold gcall
          rw [if_pos rfl]
          refine VC17_of (by omega) (by omega) ?_
          refine ⟨fun _ => ⟨by omega, by omega⟩, fun _ => (by first | trivial | rfl), fun hn => VC17_of (by omega) (by omega) (VC15_of ?_)⟩
          simp only [if_neg hl]
          simp only [decide_eq_false_iff_not] at hn
          have key : perB w (Nat.gcd p.toNat q.toNat : Nat) = true := by
            refine perB_iff.2 ⟨by omega, by omega, ?_⟩
            rw [Int.toNat_natCast]
            exact Fine.fw _ _ _ _ rfl (by omega) (by omega) (by omega) h1.2.2 h2.2.2
          rw [key]
          rfl
end Dec
