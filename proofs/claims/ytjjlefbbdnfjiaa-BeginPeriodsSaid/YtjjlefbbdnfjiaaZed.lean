/-
  'BeginPeriods' in plain Lean.
-/
import Derived.Test.YtjjlefbbdnfjiaaGenD
import Derived.Test.YtjjlefbbdnfjiaaFinePower
namespace Dec
open Go Go.Proofs

/-- z letters from i on are as at the start, and no more -/
def Zed (w : List Int) (i z : Nat) : Prop := i + z ≤ w.length ∧ (∀ k, k < z → w[k]? = w[i + k]?) ∧ (i + z < w.length → w[z]? ≠ w[i + z]?)

theorem getD_of_some {l : List Int} {i : Nat} {x : Int} (h : l[i]? = some x) : l.getD i 0 = x := by simp [List.getD, h]

theorem VC23_of {w : List Int} {K : List Int × Int → Prop} (hlong : 60 < w.length → K ([], 1))
    (h : w.length ≤ 60 → ∀ zs : List Int, zs.length = w.length → (∀ i, i < w.length → ∃ z : Nat, zs[i]? = some (z : Int) ∧ Zed w i z) → K (zs, 0)) : VC23 w K := by
  unfold VC23
  refine VC38_of (by simp) ?_
  by_cases hl : 60 < w.length
  · have : longB [w] = true := by simp [longB, hl]
    rw [this]
    simp only [if_true]
    exact ⟨fun _ => hlong hl, fun e => by simp at e⟩
  have : longB [w] = false := by simp [longB, hl]
  rw [this]
  simp only [Bool.false_eq_true, if_false]
  refine ⟨fun e => by simp at e, fun _ => ⟨⟨by omega, by omega⟩, ?_⟩⟩
  refine Loop.by (fun s : Int × List Int => 0 ≤ s.1 ∧ s.1 ≤ (w.length : Int) ∧ s.2.length = w.length ∧ (∀ i : Nat, (i : Int) < s.1 → ∃ z : Nat, s.2[i]? = some (z : Int) ∧ Zed w i z) ∧ ∀ i : Nat, s.1 ≤ (i : Int) → i < w.length → s.2[i]? = some 0)
    (fun s => ((w.length : Int) - s.1).toNat) ⟨by simp, by simp, by simp, fun i hi => by simp only at hi; omega, fun i _ hi => by simp [hi]⟩ ?_
  rintro ⟨v, out⟩ ⟨h0, h1, h2, h3, h4⟩ X hX
  simp only at h0 h1 h2 h3 h4 ⊢
  unfold VC23_l1 VC23_k1
  refine ⟨fun hb => ?_, fun hb => ?_⟩
  · simp only [decide_eq_true_eq] at hb
    refine Loop.by (fun o : List Int => o.length = w.length ∧ (∀ i : Nat, (i : Int) < v → ∃ z : Nat, o[i]? = some (z : Int) ∧ Zed w i z) ∧ (∀ i : Nat, v < (i : Int) → i < w.length → o[i]? = some 0) ∧
        ∃ z : Nat, o[v.toNat]? = some (z : Int) ∧ v.toNat + z ≤ w.length ∧ ∀ k, k < z → w[k]? = w[v.toNat + k]?)
      (fun o => ((w.length : Int) - o.getD v.toNat 0).toNat) ⟨h2, h3, fun i hi hi2 => h4 i (by omega) hi2, 0, h4 v.toNat (by omega) (by omega), by omega, fun k hk => by omega⟩ ?_
    rintro o ⟨g1, g2, g3, z, g4, g5, g6⟩ Y hY
    unfold VC23_l2 VC23_k2
    have gz := getD_of_some g4
    rw [gz]
    refine ⟨⟨h0, by omega⟩, ⟨by omega, by omega⟩, fun _ => ⟨h0, by omega⟩, fun hc => ?_, fun _ => ⟨h0, by omega⟩, fun _ => ⟨by omega, by omega⟩, fun hc => ?_, fun hc => ?_, fun hc => ?_⟩
    · simp only [decide_eq_true_eq] at hc
      exact ⟨by omega, by omega⟩
    · simp only [decide_eq_true_eq] at hc
      exact ⟨by omega, hc⟩
    · simp only [Bool.and_eq_true, decide_eq_true_eq] at hc
      obtain ⟨hc1, hc2⟩ := hc
      have e1 : w[z]? = w[v.toNat + z]? := by
        rw [show ((z : Int)).toNat = z by omega, show (v + (z : Int)).toNat = v.toNat + z by omega, getD_eq (show z < w.length by omega), getD_eq (show v.toNat + z < w.length by omega)] at hc2
        rw [List.getElem?_eq_getElem (show z < w.length by omega), List.getElem?_eq_getElem (show v.toNat + z < w.length by omega), hc2]
      refine ⟨⟨h0, by omega⟩, ⟨by omega, by omega⟩, ⟨h0, by omega⟩, hY _ ⟨by simpa using g1, fun i hi => ?_, fun i hi hi2 => ?_, z + 1, ?_, by omega, fun k hk => ?_⟩ ?_⟩
      · rw [List.getElem?_set_ne (by omega)]; exact g2 i hi
      · rw [List.getElem?_set_ne (by omega)]; exact g3 i hi hi2
      · rw [List.getElem?_set_self (by omega)]; simp
      · by_cases hkz : k < z
        · exact g6 k hkz
        · have : k = z := by omega
          subst this
          exact e1
      · have : (o.set v.toNat ((z : Int) + 1)).getD v.toNat 0 = (z : Int) + 1 := getD_of_some (by rw [List.getElem?_set_self (by omega)])
        simp only [this]
        rw [gz]
        omega
    · have hz : Zed w v.toNat z := by
        refine ⟨g5, g6, fun hlt e => ?_⟩
        simp only [Bool.and_eq_false_iff, decide_eq_false_iff_not] at hc
        rcases hc with hc | hc
        · omega
        · apply hc
          rw [show ((z : Int)).toNat = z by omega, show (v + (z : Int)).toNat = v.toNat + z by omega, getD_eq (show z < w.length by omega), getD_eq (show v.toNat + z < w.length by omega)]
          rw [List.getElem?_eq_getElem (show z < w.length by omega), List.getElem?_eq_getElem (show v.toNat + z < w.length by omega)] at e
          injection e
      refine ⟨⟨by omega, by omega⟩, hX _ ⟨by simp only; omega, by simp only; omega, g1, fun i hi => ?_, fun i hi hi2 => ?_⟩ (by simp only; omega)⟩
      · simp only at hi
        by_cases hiv : (i : Int) < v
        · exact g2 i hiv
        · have : i = v.toNat := by omega
          subst this
          exact ⟨z, g4, hz⟩
      · simp only at hi
        exact g3 i (by omega) hi2
  · simp only [decide_eq_false_iff_not] at hb
    exact h (by omega) out h2 fun i hi => h3 i (by omega)

theorem zed_full {w : List Int} {i z : Nat} (h : Zed w i z) : i + z = w.length ↔ Fine.Per (fun i => w[i]?) w.length i := by
  obtain ⟨h1, h2, h3⟩ := h
  constructor
  · intro e k hk
    have := h2 k (by omega)
    simp only
    rw [this, Nat.add_comm]
  · intro hp
    by_cases hlt : i + z < w.length
    · have := hp z (by omega)
      simp only at this
      rw [Nat.add_comm z i] at this
      exact absurd this (h3 hlt)
    · omega

theorem beginPeriods (w : List Int) (p : Int) : VC6 w p (fun b => b = true) := by
  unfold VC6
  refine VC23_of (fun hl => ?_) (fun hl zs hlen hz => ?_)
  · refine VC16_of (by simp) ?_
    have : longB [w] = true := by simp [longB, hl]
    rw [this]
    simp
  · refine VC16_of (by simp) ?_
    have : longB [w] = false := by simp [longB]; omega
    rw [this]
    simp only [hlen, decide_true, Bool.not_true, Bool.or_self]
    refine ⟨fun e => (by cases e), fun _ => ⟨fun e => (by cases e), fun _ => VC15_of ?_⟩⟩
    rw [if_neg (by omega)]
    simp only [decide_true, Bool.true_and]
    refine ⟨fun hc => ⟨fun _ h0 => ⟨by omega, ?_⟩, ?_⟩, fun hc => ⟨fun _ => ?_, fun _ => ?_, ?_⟩⟩
    · simp only [decide_eq_false_iff_not] at h0; omega
    · have e1 : perB w p = (decide (p = (w.length : Int)) && decide ((0 : Int) < p)) := by
        by_cases he : p = (w.length : Int)
        · subst he
          rw [perB_length]
          simp
        · simp only [decide_eq_false he, Bool.false_and]
          cases hb : perB w p with
          | false => rfl
          | true =>
            have := perB_iff.1 hb
            simp only [Bool.or_eq_true, decide_eq_true_eq] at hc
            omega
      rw [e1]
      simp only [beq_self_eq_true, Bool.true_and]
      by_cases h0 : w.length = 0
      · simp [h0]
      · obtain ⟨z, h1, h2⟩ := hz 0 (by omega)
        have : z = w.length := by
          have := (zed_full h2).2 (fun i hi => by simp)
          omega
        subst this
        have hg := getD_of_some h1
        simp only [Int.toNat_zero, hg]
        simp
    · simp only [Bool.or_eq_false_iff, decide_eq_false_iff_not] at hc
      exact ⟨by omega, by omega⟩
    · simp only [Bool.or_eq_false_iff, decide_eq_false_iff_not] at hc
      exact ⟨by omega, by omega⟩
    · simp only [Bool.or_eq_false_iff, decide_eq_false_iff_not] at hc
      obtain ⟨z, h1, h2⟩ := hz p.toNat (by omega)
      have hg := getD_of_some h1
      rw [hg]
      have hiff : perB w p = true ↔ (z : Int) = (w.length : Int) - p := by
        rw [perB_iff, ← zed_full h2]
        constructor
        · rintro ⟨_, _, h⟩; omega
        · intro h; exact ⟨by omega, by omega, by omega⟩
      cases hb : perB w p with
      | true => rw [decide_eq_true (hiff.1 hb)]; rfl
      | false => rw [decide_eq_false (fun e => by rw [hiff.2 e] at hb; cases hb)]; rfl
end Dec
