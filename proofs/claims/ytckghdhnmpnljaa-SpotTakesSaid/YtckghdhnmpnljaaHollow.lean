/-
  The plain contract of sentence.Hollow.
-/
import Derived.Test.YtckghdhnmpnljaaGenGd
import Derived.Test.YtckghdhnmpnljaaAftA
set_option linter.unusedSimpArgs false
set_option linter.unusedVariables false
namespace Dec
open Go Go.Proofs Rex

theorem getD_set_eq {e : List Bool} {i : Nat} {b : Bool} (hi : i < e.length) : (e.set i b).getD i false = b := by
  simp [List.getD_eq_getElem?_getD, hi]

theorem getD_set_ne {e : List Bool} {i t : Nat} {b : Bool} (h : t ≠ i) : (e.set i b).getD t false = e.getD t false := by
  simp [List.getD_eq_getElem?_getD, List.getElem?_set_ne (Ne.symm h)]

theorem VC49_of {k : Int} {l : List Nd} {K : List Bool × List Bool → Prop} (hg : Good k l) (h : ∀ E N : List Bool, E.length = l.length → (∀ t, t < l.length → ∀ w, (E.getD t false = true ↔ Mat l w t 0 0)) → K (E, N)) : VC49 l K := by
  have hm := hg.len
  unfold VC49
  refine ⟨⟨by omega, by omega⟩, ⟨by omega, by omega⟩, ?_⟩
  unfold VC49_k1
  simp only [Int.toNat_natCast]
  refine Loop.by (fun s => ∃ i : Nat, s.1 = (i : Int) ∧ i ≤ l.length ∧ s.2.1.length = l.length ∧ s.2.2.length = l.length ∧ (∀ t, t < i → ∀ w, (s.2.1.getD t false = true ↔ Mat l w t 0 0)) ∧ ∀ t, i ≤ t → s.2.1.getD t false = false) (fun s => ((l.length : Int) - s.1).toNat) ⟨0, rfl, by omega, by simp, by simp, fun t ht => by omega, fun t _ => ?_⟩ ?_
  · simp only [List.getD_eq_getElem?_getD, List.getElem?_replicate]
    split <;> rfl
  rintro ⟨v, e, n⟩ ⟨i, hv, hi, he, hn, hP, hF⟩ X hX
  simp only at hv he hn hP hF ⊢
  subst hv
  unfold VC49_l1
  simp only [Int.toNat_natCast]
  refine ⟨fun hb => ?_, fun hb => ?_⟩
  · simp only [decide_eq_true_eq] at hb
    have hil : i < l.length := by omega
    have hok := hg.ok i hil
    have hrefs := refs hok
    have hat : ∀ e' n' : List Bool, e'.length = l.length → n'.length = l.length → ((e' = e ∧ ∀ w, ¬ Mat l w i 0 0) ∨ ∃ b, e' = e.set i b ∧ ∀ w, (b = true ↔ Mat l w i 0 0)) → VC49_k3 (i : Int) X e' n' := by
      intro e' n' h1 h2 h3
      unfold VC49_k3
      refine ⟨⟨by omega, by omega⟩, hX _ ⟨i + 1, by simp, by omega, h1, h2, fun t ht w => ?_, fun t ht => ?_⟩ (by simp only; omega)⟩
      · rcases h3 with ⟨rfl, h3⟩ | ⟨b, rfl, h3⟩
        · by_cases hti : t < i
          · exact hP t hti w
          · have : t = i := by omega
            subst this
            rw [hF t (Nat.le_refl _)]
            exact ⟨fun hc => (by cases hc), fun hc => absurd hc (h3 w)⟩
        · by_cases hti : t < i
          · rw [getD_set_ne (by omega)]; exact hP t hti w
          · have : t = i := by omega
            subst this
            rw [getD_set_eq (by omega)]
            exact h3 w
      · rcases h3 with ⟨rfl, h3⟩ | ⟨b, rfl, h3⟩
        · exact hF t (by omega)
        · rw [getD_set_ne (by omega)]; exact hF t (by omega)
    refine ⟨⟨by omega, by omega⟩, ?_⟩
    obtain ⟨N, hN⟩ : ∃ N, l.getD i (0, (0, 0)) = N := ⟨_, rfl⟩
    have hN' : nd l i = N := hN
    rw [hN'] at hok hrefs
    refine ⟨fun h1 => ?_, fun h1 => ?_⟩
    · simp only [hN, decide_eq_true_eq] at h1
      refine ⟨⟨by omega, by omega⟩, hat _ _ he (by simp [hn]) (.inl ⟨rfl, fun w => ?_⟩)⟩
      rw [eps_iff, hN']
      omega
    · simp only [hN, decide_eq_false_iff_not] at h1
      have main : ∀ b : Bool, (b = true ↔ N.1 = 2 ∨ N.1 = 6) → VC49_k4 l (i : Int) e n X b := by
        intro b hb
        unfold VC49_k4
        simp only [Int.toNat_natCast, hN]
        refine ⟨fun h2 => ⟨⟨by omega, by omega⟩, ?_⟩, fun h2 => ⟨fun h4 => ?_, fun h4 => ⟨fun h5 => ?_, fun h5 => ?_⟩⟩⟩
        · unfold VC49_k5
          refine hat _ _ (by simp [he]) hn (.inr ⟨true, rfl, fun w => ⟨fun _ => ?_, fun _ => rfl⟩⟩)
          rw [eps_iff, hN']
          rcases hb.1 h2 with h | h
          · exact .inl h
          · exact .inr (.inr (.inr h))
        · simp only [decide_eq_true_eq] at h4
          obtain ⟨hA, hB⟩ := hrefs.1 (.inl h4)
          have hA0 : 0 ≤ N.2.1 ∧ 0 ≤ N.2.2 := by unfold OkN at hok; omega
          have fin : VC49_k6 (i : Int) X (e.set i (e.getD N.2.1.toNat false && e.getD N.2.2.toNat false)) (n.set i (n.getD N.2.1.toNat false || n.getD N.2.2.toNat false)) := by
            unfold VC49_k6 VC49_k5
            refine hat _ _ (by simp [he]) (by simp [hn]) (.inr ⟨_, rfl, fun w => ?_⟩)
            rw [eps_iff, hN', Bool.and_eq_true, hP _ hA w, hP _ hB w]
            constructor
            · exact fun h => .inr (.inl ⟨h4, h⟩)
            · rintro (h | ⟨_, h⟩ | ⟨h, _⟩ | h)
              · omega
              · exact h
              · omega
              · omega
          refine ⟨⟨by omega, by omega⟩, ⟨by omega, by omega⟩, ⟨fun _ => ⟨by omega, by omega⟩, fun _ => ⟨by omega, by omega⟩, ⟨by omega, by omega⟩, ⟨by omega, by omega⟩, fin⟩, fun _ => ⟨by omega, by omega⟩, fun _ => ⟨by omega, by omega⟩, ⟨by omega, by omega⟩, ⟨by omega, by omega⟩, fin⟩
        · simp only [decide_eq_true_eq] at h5
          obtain ⟨hA, hB⟩ := hrefs.1 (.inr h5)
          have hA0 : 0 ≤ N.2.1 ∧ 0 ≤ N.2.2 := by unfold OkN at hok; omega
          have fin : VC49_k7 (i : Int) X (e.set i (e.getD N.2.1.toNat false || e.getD N.2.2.toNat false)) (n.set i (n.getD N.2.1.toNat false && n.getD N.2.2.toNat false)) := by
            unfold VC49_k7 VC49_k6 VC49_k5
            refine hat _ _ (by simp [he]) (by simp [hn]) (.inr ⟨_, rfl, fun w => ?_⟩)
            rw [eps_iff, hN', Bool.or_eq_true, hP _ hA w, hP _ hB w]
            constructor
            · exact fun h => .inr (.inr (.inl ⟨h5, h⟩))
            · rintro (h | ⟨h, _⟩ | ⟨_, h⟩ | h)
              · omega
              · omega
              · exact h
              · omega
          refine ⟨⟨by omega, by omega⟩, ⟨by omega, by omega⟩, ⟨fun _ => ⟨by omega, by omega⟩, fun _ => ⟨by omega, by omega⟩, ⟨by omega, by omega⟩, ⟨by omega, by omega⟩, fin⟩, fun _ => ⟨by omega, by omega⟩, fun _ => ⟨by omega, by omega⟩, ⟨by omega, by omega⟩, ⟨by omega, by omega⟩, fin⟩
        · simp only [decide_eq_false_iff_not] at h4 h5
          unfold VC49_k7 VC49_k6 VC49_k5
          refine hat _ _ he hn (.inl ⟨rfl, fun w => ?_⟩)
          have hb2 : ¬ (N.1 = 2 ∨ N.1 = 6) := fun h => by rw [hb.2 h] at h2; cases h2
          rw [eps_iff, hN']
          omega
      simp only [hN]
      refine ⟨fun h2 => main _ ?_, fun h2 => main _ ?_⟩
      · simp only [decide_eq_true_eq] at h2
        simp [h2]
      · simp only [decide_eq_false_iff_not] at h2
        simp [h2]
  · simp only [decide_eq_false_iff_not] at hb
    have hiN : i = l.length := by omega
    unfold VC49_k2
    exact h e n he fun t ht => hP t (by omega)

end Dec
