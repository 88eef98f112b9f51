/-
  The plain contracts of sentence.Hollow and after.After, and the law AfterWhole.
-/
import Derived.Test.YtckghdhnmpnljaaGenAb
import Derived.Test.YtckghdhnmpnljaaSentB
import Derived.Test.YtckghdhnmpnljaaAftA
set_option linter.unusedSimpArgs false
set_option linter.unusedVariables false
namespace Dec
open Go Go.Proofs Rex

theorem getD_set_eq {e : List Bool} {i : Nat} {b : Bool} (hi : i < e.length) : (e.set i b).getD i false = b := by
  simp [List.getD_eq_getElem?_getD, hi]

theorem getD_set_ne {e : List Bool} {i t : Nat} {b : Bool} (h : t ≠ i) : (e.set i b).getD t false = e.getD t false := by
  simp [List.getD_eq_getElem?_getD, List.getElem?_set_ne (Ne.symm h)]

theorem VC49_of {k : Int} {l : List Nd} {K : List Bool × List Bool → Prop} (hg : Good k l) (h : ∀ E N : List Bool, E.length = l.length → (∀ t, t < l.length → ∀ w, (E.getD t false = true ↔ Mat l w t 0 0)) → K (E, N)) : VC49 l K := by
  have hm := hg.len
  unfold VC49
  refine ⟨⟨by omega, by omega⟩, ⟨by omega, by omega⟩, ?_⟩
  unfold VC49_k1
  simp only [Int.toNat_natCast]
  refine Loop.by (fun s => ∃ i : Nat, s.1 = (i : Int) ∧ i ≤ l.length ∧ s.2.1.length = l.length ∧ s.2.2.length = l.length ∧ (∀ t, t < i → ∀ w, (s.2.1.getD t false = true ↔ Mat l w t 0 0)) ∧ ∀ t, i ≤ t → s.2.1.getD t false = false) (fun s => ((l.length : Int) - s.1).toNat) ⟨0, rfl, by omega, by simp, by simp, fun t ht => by omega, fun t _ => ?_⟩ ?_
  · simp only [List.getD_eq_getElem?_getD, List.getElem?_replicate]
    split <;> rfl
  rintro ⟨v, e, n⟩ ⟨i, hv, hi, he, hn, hP, hF⟩ X hX
  simp only at hv he hn hP hF ⊢
  subst hv
  unfold VC49_l1
  simp only [Int.toNat_natCast]
  refine ⟨fun hb => ?_, fun hb => ?_⟩
  · simp only [decide_eq_true_eq] at hb
    have hil : i < l.length := by omega
    have hok := hg.ok i hil
    have hrefs := refs hok
    have hat : ∀ e' n' : List Bool, e'.length = l.length → n'.length = l.length → ((e' = e ∧ ∀ w, ¬ Mat l w i 0 0) ∨ ∃ b, e' = e.set i b ∧ ∀ w, (b = true ↔ Mat l w i 0 0)) → VC49_k3 (i : Int) X e' n' := by
      intro e' n' h1 h2 h3
      unfold VC49_k3
      refine ⟨⟨by omega, by omega⟩, hX _ ⟨i + 1, by simp, by omega, h1, h2, fun t ht w => ?_, fun t ht => ?_⟩ (by simp only; omega)⟩
      · rcases h3 with ⟨rfl, h3⟩ | ⟨b, rfl, h3⟩
        · by_cases hti : t < i
          · exact hP t hti w
          · have : t = i := by omega
            subst this
            rw [hF t (Nat.le_refl _)]
            exact ⟨fun hc => (by cases hc), fun hc => absurd hc (h3 w)⟩
        · by_cases hti : t < i
          · rw [getD_set_ne (by omega)]; exact hP t hti w
          · have : t = i := by omega
            subst this
            rw [getD_set_eq (by omega)]
            exact h3 w
      · rcases h3 with ⟨rfl, h3⟩ | ⟨b, rfl, h3⟩
        · exact hF t (by omega)
        · rw [getD_set_ne (by omega)]; exact hF t (by omega)
    refine ⟨⟨by omega, by omega⟩, ?_⟩
    obtain ⟨N, hN⟩ : ∃ N, l.getD i (0, (0, 0)) = N := ⟨_, rfl⟩
    have hN' : nd l i = N := hN
    rw [hN'] at hok hrefs
    refine ⟨fun h1 => ?_, fun h1 => ?_⟩
    · simp only [hN, decide_eq_true_eq] at h1
      refine ⟨⟨by omega, by omega⟩, hat _ _ he (by simp [hn]) (.inl ⟨rfl, fun w => ?_⟩)⟩
      rw [eps_iff, hN']
      omega
    · simp only [hN, decide_eq_false_iff_not] at h1
      have main : ∀ b : Bool, (b = true ↔ N.1 = 2 ∨ N.1 = 6) → VC49_k4 l (i : Int) e n X b := by
        intro b hb
        unfold VC49_k4
        simp only [Int.toNat_natCast, hN]
        refine ⟨fun h2 => ⟨⟨by omega, by omega⟩, ?_⟩, fun h2 => ⟨fun h4 => ?_, fun h4 => ⟨fun h5 => ?_, fun h5 => ?_⟩⟩⟩
        · unfold VC49_k5
          refine hat _ _ (by simp [he]) hn (.inr ⟨true, rfl, fun w => ⟨fun _ => ?_, fun _ => rfl⟩⟩)
          rw [eps_iff, hN']
          rcases hb.1 h2 with h | h
          · exact .inl h
          · exact .inr (.inr (.inr h))
        · simp only [decide_eq_true_eq] at h4
          obtain ⟨hA, hB⟩ := hrefs.1 (.inl h4)
          have hA0 : 0 ≤ N.2.1 ∧ 0 ≤ N.2.2 := by unfold OkN at hok; omega
          have fin : VC49_k6 (i : Int) X (e.set i (e.getD N.2.1.toNat false && e.getD N.2.2.toNat false)) (n.set i (n.getD N.2.1.toNat false || n.getD N.2.2.toNat false)) := by
            unfold VC49_k6 VC49_k5
            refine hat _ _ (by simp [he]) (by simp [hn]) (.inr ⟨_, rfl, fun w => ?_⟩)
            rw [eps_iff, hN', Bool.and_eq_true, hP _ hA w, hP _ hB w]
            constructor
            · exact fun h => .inr (.inl ⟨h4, h⟩)
            · rintro (h | ⟨_, h⟩ | ⟨h, _⟩ | h)
              · omega
              · exact h
              · omega
              · omega
          refine ⟨⟨by omega, by omega⟩, ⟨by omega, by omega⟩, ⟨fun _ => ⟨by omega, by omega⟩, fun _ => ⟨by omega, by omega⟩, ⟨by omega, by omega⟩, ⟨by omega, by omega⟩, fin⟩, fun _ => ⟨by omega, by omega⟩, fun _ => ⟨by omega, by omega⟩, ⟨by omega, by omega⟩, ⟨by omega, by omega⟩, fin⟩
        · simp only [decide_eq_true_eq] at h5
          obtain ⟨hA, hB⟩ := hrefs.1 (.inr h5)
          have hA0 : 0 ≤ N.2.1 ∧ 0 ≤ N.2.2 := by unfold OkN at hok; omega
          have fin : VC49_k7 (i : Int) X (e.set i (e.getD N.2.1.toNat false || e.getD N.2.2.toNat false)) (n.set i (n.getD N.2.1.toNat false && n.getD N.2.2.toNat false)) := by
            unfold VC49_k7 VC49_k6 VC49_k5
            refine hat _ _ (by simp [he]) (by simp [hn]) (.inr ⟨_, rfl, fun w => ?_⟩)
            rw [eps_iff, hN', Bool.or_eq_true, hP _ hA w, hP _ hB w]
            constructor
            · exact fun h => .inr (.inr (.inl ⟨h5, h⟩))
            · rintro (h | ⟨h, _⟩ | ⟨_, h⟩ | h)
              · omega
              · omega
              · exact h
              · omega
          refine ⟨⟨by omega, by omega⟩, ⟨by omega, by omega⟩, ⟨fun _ => ⟨by omega, by omega⟩, fun _ => ⟨by omega, by omega⟩, ⟨by omega, by omega⟩, ⟨by omega, by omega⟩, fin⟩, fun _ => ⟨by omega, by omega⟩, fun _ => ⟨by omega, by omega⟩, ⟨by omega, by omega⟩, ⟨by omega, by omega⟩, fin⟩
        · simp only [decide_eq_false_iff_not] at h4 h5
          unfold VC49_k7 VC49_k6 VC49_k5
          refine hat _ _ he hn (.inl ⟨rfl, fun w => ?_⟩)
          have hb2 : ¬ (N.1 = 2 ∨ N.1 = 6) := fun h => by rw [hb.2 h] at h2; cases h2
          rw [eps_iff, hN']
          omega
      simp only [hN]
      refine ⟨fun h2 => main _ ?_, fun h2 => main _ ?_⟩
      · simp only [decide_eq_true_eq] at h2
        simp [h2]
      · simp only [decide_eq_false_iff_not] at h2
        simp [h2]
  · simp only [decide_eq_false_iff_not] at hb
    have hiN : i = l.length := by omega
    unfold VC49_k2
    exact h e n he fun t ht => hP t (by omega)

theorem pow_lt {a i : Nat} (h : a < i) : 2 ^ (a + 2) * 2 ≤ 2 ^ (i + 2) := by
  have : 2 ^ (a + 2) * 2 = 2 ^ (a + 3) := by rw [Nat.pow_succ 2 (a + 2)]
  rw [this]
  exact Nat.pow_le_pow_right (by omega) (by omega)

theorem derive_of {k s : Int} {l : List Nd} {E : List Bool} (hg : Good k l) (hE : E.length = l.length) (hEm : ∀ t, t < l.length → ∀ w, (E.getD t false = true ↔ Mat l w t 0 0)) :
    ∀ (n i : Nat) (x : Int) (m : List (Int × Int)) (out : List Nd) {K : Int × List (Int × Int) × List Nd → Prop}, x = (i : Int) → i < n → i < l.length → DInv l k s m out → out.length + 2 ^ (i + 2) ≤ 1000000 →
    (∀ (d : Int) m' out', DInv l k s m' out' → (∃ e, out' = out ++ e) → 0 ≤ d → d < (out'.length : Int) → Der l s out' i d.toNat → out'.length + 2 ≤ out.length + 2 ^ (i + 2) → (mget m (i : Int) = none → d = (out'.length : Int) - 1) → K (d, m', out')) → VCc51_it l s E n x m out K
  | 0, i, x, m, out, K, _, hn, _, _, _, _ => by omega
  | n + 1, i, x, m, out, K, hx, hn, hi, hD, hlen, h => by
    subst hx
    show VCc51 l s E (VCc51_it l s E n) (i : Int) m out K
    have h4 : 4 ≤ 2 ^ (i + 2) := by
      rw [Nat.pow_add]
      have := Nat.two_pow_pos i
      omega
    have hok := hg.ok i hi
    have hrefs := refs hok
    have hll := hD.len
    have hl := hg.ok
    unfold VCc51
    simp only [Int.toNat_natCast]
    refine ⟨fun hs => ?_, fun hs => ?_⟩
    · obtain ⟨d, hd⟩ := Option.isSome_iff_exists.1 hs
      obtain ⟨h1, h2, h3⟩ := hD.der _ _ hd
      rw [hd]
      simp only [Int.toNat_natCast, Option.getD_some] at h3 ⊢
      exact h d m out hD ⟨[], by simp⟩ h1 h2 h3 (by omega) fun hc => by rw [hd] at hc; cases hc
    have hnone : mget m (i : Int) = none := by simpa using hs
    -- the end of each way
    have fin : ∀ (m1 : List (Int × Int)) (out1 : List Nd) (nw : Nd), DInv l k s m1 out1 → (∃ e, out1 = out ++ e) → OkN k out1.length nw → Der l s (out1 ++ [nw]) i out1.length → out1.length + 3 ≤ out.length + 2 ^ (i + 2) → VCc51_k1 (i : Int) K (((out1 ++ [nw]).length : Int) - 1) (out1 ++ [nw]) m1 := by
      rintro m1 out1 nw hD1 ⟨e, he⟩ hnw hder hl1
      unfold VCc51_k1
      have e1 : (((out1 ++ [nw]).length : Int) - 1) = (out1.length : Int) := by simp
      rw [e1]
      have hD2 := hD1.add hnw
      refine h _ _ _ (hD2.put (i := (i : Int)) (d := (out1.length : Int)) (by omega) (by simp; omega) (by simpa using hder)) ⟨e ++ [nw], by rw [he]; simp⟩ (by omega) (by simp; omega) (by simpa using hder) (by simp; omega) fun _ => by simp
    refine ⟨⟨by omega, by omega⟩, ?_⟩
    obtain ⟨N, hN⟩ : ∃ N, l.getD i (0, (0, 0)) = N := ⟨_, rfl⟩
    have hN' : nd l i = N := hN
    rw [hN'] at hok hrefs
    simp only [hN]
    refine ⟨fun k3 => ?_, fun k3 => ⟨fun k4 => ?_, fun k4 => ⟨fun k5 => ?_, fun k5 => ⟨fun k6 => ?_, fun k6 => ?_⟩⟩⟩⟩
    · simp only [decide_eq_true_eq] at k3
      refine ⟨fun ka => ?_, fun ka => ?_⟩
      · simp only [decide_eq_true_eq] at ka
        unfold VCc51_k2
        refine ⟨by unfold roomN; simp; omega, ⟨by simp only [List.length_append, List.length_singleton]; omega, by simp only [List.length_append, List.length_singleton]; omega⟩, fin m out (2, (0, 0)) hD ⟨[], by simp⟩ (.inr (.inl rfl)) (fun v j => ?_) (by omega)⟩
        rw [empty_new, left_sym (i := i) (by rw [hN']; exact k3), hN']
        constructor
        · rintro ⟨rfl, _⟩; exact ⟨rfl, ka.symm⟩
        · rintro ⟨rfl, _⟩; exact ⟨rfl, by omega⟩
      · simp only [decide_eq_false_iff_not] at ka
        unfold VCc51_k2
        refine ⟨by unfold roomN; simp; omega, ⟨by simp only [List.length_append, List.length_singleton]; omega, by simp only [List.length_append, List.length_singleton]; omega⟩, fin m out (1, (0, 0)) hD ⟨[], by simp⟩ (.inl rfl) (fun v j => ?_) (by omega)⟩
        rw [left_sym (i := i) (by rw [hN']; exact k3), hN']
        exact ⟨fun hc => absurd hc none_new, fun hc => absurd hc.2.symm ka⟩
    · simp only [decide_eq_true_eq] at k4
      obtain ⟨hA, hB⟩ := hrefs.1 (.inl k4)
      have hA0 : 0 ≤ N.2.1 ∧ 0 ≤ N.2.2 := by unfold OkN at hok; omega
      have pA := pow_lt hA
      have pB := pow_lt hB
      have cA : ((N.2.1.toNat : Nat) : Int) = N.2.1 := by omega
      have cB : ((N.2.2.toNat : Nat) : Int) = N.2.2 := by omega
      refine derive_of hg hE hEm n N.2.1.toNat N.2.1 m out (by omega) (by omega) (by omega) hD (by omega) (fun dA m1 out1 hD1 hx1 d1 d2 dr1 ln1 _ => ?_)
      · simp only
        have hl1 := hD1.len
        have hok1 : OkN k out1.length (4, (dA, N.2.2)) := .inr (.inr (.inr (.inl ⟨.inl rfl, ⟨d1, d2⟩, ⟨hA0.2, by simp only; omega⟩⟩)))
        refine ⟨by unfold roomN; simp; omega, ⟨by simp only [List.length_append, List.length_singleton]; omega, by simp only [List.length_append, List.length_singleton]; omega⟩, ⟨by omega, by omega⟩, fun he => ?_, fun he => ?_⟩
        · have hx2 : ∃ e, out1 ++ [(4, (dA, N.2.2))] = out ++ e := by obtain ⟨e, he⟩ := hx1; exact ⟨e ++ [(4, (dA, N.2.2))], by rw [he]; simp⟩
          refine derive_of hg hE hEm n N.2.2.toNat N.2.2 m1 (out1 ++ [(4, (dA, N.2.2))]) (by omega) (by omega) (by omega) (hD1.add hok1) (by simp; omega) (fun dB m2 out2 hD2 hy2 f1 f2 dr2 ln2 _ => ?_)
          · simp only
            have e1 : (((out1 ++ [((4 : Int), (dA, N.2.2))]).length : Int) - 1) = (out1.length : Int) := by simp
            simp only [List.length_append, List.length_singleton] at ln2
            obtain ⟨e2, he2⟩ := hy2
            have hl2 : out1.length + 1 ≤ out2.length := by rw [he2]; simp
            refine ⟨by unfold roomN; simp; omega, ⟨by simp only [List.length_append, List.length_singleton]; omega, by simp only [List.length_append, List.length_singleton]; omega⟩, ?_⟩
            unfold VCc51_k4 VCc51_k3
            rw [e1]
            refine fin m2 out2 (5, ((out1.length : Int), dB)) hD2 ?_ (.inr (.inr (.inr (.inl ⟨.inr rfl, ⟨by simp only; omega, by simp only; omega⟩, ⟨f1, f2⟩⟩)))) (fun v j => ?_) (by omega)
            · obtain ⟨e3, he3⟩ := hx2
              exact ⟨e3 ++ e2, by rw [he2, he3]; simp⟩
            · rw [or_new hD2.ok ⟨by omega, by omega⟩ ⟨f1, f2⟩, dr2 v j, left_cat (i := i) (by rw [hN']; exact k4), hN']
              have q1 : Mat out2 v ((out1.length : Int)).toNat 0 j ↔ First l s N.2.1.toNat N.2.2.toNat v j := by
                rw [he2, mat_more (hD1.add hok1).ok (by simp)]
                simp only [Int.toNat_natCast]
                exact cat_first hD1 hl d1 d2 dr1 hA0.2 (by omega) rfl
              rw [q1]
              have q2 := (hEm N.2.1.toNat (by omega) (s :: v)).1 he
              constructor
              · rintro (hh | hh)
                · exact .inl hh
                · exact .inr ⟨q2, hh⟩
              · rintro (hh | hh)
                · exact .inl hh
                · exact .inr hh.2
        · unfold VCc51_k4 VCc51_k3
          refine fin m1 out1 (4, (dA, N.2.2)) hD1 hx1 hok1 (fun v j => ?_) (by omega)
          rw [cat_first hD1 hl d1 d2 dr1 hA0.2 (by omega) rfl, left_cat (i := i) (by rw [hN']; exact k4), hN']
          constructor
          · exact fun hh => .inl hh
          · rintro (hh | hh)
            · exact hh
            · have := (hEm N.2.1.toNat (by omega) (s :: v)).2 hh.1
              rw [this] at he; cases he
    · simp only [decide_eq_true_eq] at k5
      obtain ⟨hA, hB⟩ := hrefs.1 (.inr k5)
      have hA0 : 0 ≤ N.2.1 ∧ 0 ≤ N.2.2 := by unfold OkN at hok; omega
      have pA := pow_lt hA
      have pB := pow_lt hB
      have cA : ((N.2.1.toNat : Nat) : Int) = N.2.1 := by omega
      have cB : ((N.2.2.toNat : Nat) : Int) = N.2.2 := by omega
      refine derive_of hg hE hEm n N.2.1.toNat N.2.1 m out (by omega) (by omega) (by omega) hD (by omega) (fun dA m1 out1 hD1 hx1 d1 d2 dr1 ln1 _ => ?_)
      · simp only
        refine derive_of hg hE hEm n N.2.2.toNat N.2.2 m1 out1 (by omega) (by omega) (by omega) hD1 (by omega) (fun dB m2 out2 hD2 hy2 f1 f2 dr2 ln2 _ => ?_)
        · simp only
          obtain ⟨e2, he2⟩ := hy2
          obtain ⟨e1, he1⟩ := hx1
          have hl2 : out1.length ≤ out2.length := by rw [he2]; simp
          refine ⟨by unfold roomN; simp; omega, ⟨by simp only [List.length_append, List.length_singleton]; omega, by simp only [List.length_append, List.length_singleton]; omega⟩, ?_⟩
          unfold VCc51_k5 VCc51_k3
          refine fin m2 out2 (5, (dA, dB)) hD2 ⟨e1 ++ e2, by rw [he2, he1]; simp⟩ (.inr (.inr (.inr (.inl ⟨.inr rfl, ⟨d1, by simp only; omega⟩, ⟨f1, f2⟩⟩)))) (fun v j => ?_) (by omega)
          rw [or_new hD2.ok ⟨d1, by omega⟩ ⟨f1, f2⟩, dr2 v j, left_or (i := i) (by rw [hN']; exact k5), hN']
          have q1 : Mat out2 v dA.toNat 0 j ↔ Mat l (s :: v) N.2.1.toNat 0 (j + 1) := by
            rw [he2, mat_more hD1.ok (by omega)]
            exact dr1 v j
          rw [q1]
    · simp only [decide_eq_true_eq] at k6
      have hA := hrefs.2 k6
      have hA0 : 0 ≤ N.2.1 := by unfold OkN at hok; omega
      have pA := pow_lt hA
      have cA : ((N.2.1.toNat : Nat) : Int) = N.2.1 := by omega
      refine derive_of hg hE hEm n N.2.1.toNat N.2.1 m out (by omega) (by omega) (by omega) hD (by omega) (fun dA m1 out1 hD1 hx1 d1 d2 dr1 ln1 _ => ?_)
      · simp only
        have hl1 := hD1.len
        refine ⟨by unfold roomN; simp; omega, ⟨by simp only [List.length_append, List.length_singleton]; omega, by simp only [List.length_append, List.length_singleton]; omega⟩, ?_⟩
        unfold VCc51_k6 VCc51_k5 VCc51_k3
        refine fin m1 out1 (4, (dA, (i : Int))) hD1 hx1 (.inr (.inr (.inr (.inl ⟨.inl rfl, ⟨d1, d2⟩, ⟨by simp only; omega, by simp only; omega⟩⟩)))) (fun v j => ?_) (by omega)
        rw [cat_first hD1 hl d1 d2 dr1 (by omega) (by omega) (by simp) (b := i), left_star (i := i) (by rw [hN']; exact k6), hN']
    · simp only [decide_eq_false_iff_not] at k3 k4 k5 k6
      unfold VCc51_k6 VCc51_k5 VCc51_k3
      refine ⟨by unfold roomN; simp; omega, ⟨by simp only [List.length_append, List.length_singleton]; omega, by simp only [List.length_append, List.length_singleton]; omega⟩, fin m out (1, (0, 0)) hD ⟨[], by simp⟩ (.inl rfl) (fun v j => ?_) (by omega)⟩
      have hk : (nd l i).1 = 1 ∨ (nd l i).1 = 2 := by
        rw [hN']
        unfold OkN at hok
        omega
      exact ⟨fun hc => absurd hc none_new, fun hc => absurd hc (left_none hk)⟩

theorem VC27_of {k s : Int} {l : List Nd} {K : List Nd × Int → Prop} (hg : Good k l) (hs : 0 ≤ s ∧ s < k) (h : ∀ out, (∃ e, out = l ++ e) → (∀ t, t < out.length → OkN k t (nd out t)) → Der l s out (l.length - 1) (out.length - 1) → K (out, 0)) : VC27 k l s K := by
  have hm := hg.len
  unfold VC27
  refine VC45_of (fun e he hno => absurd hg hno) (fun _ => ⟨fun hc => (by simp at hc), fun _ => ⟨fun hc => ?_, fun _ => ?_⟩⟩)
  · simp only [Bool.or_eq_true, decide_eq_true_eq] at hc
    omega
  · refine VC49_of hg fun E N hE hEm => VC48_of (by omega) ⟨⟨by omega, by omega⟩, l.length, ?_⟩
    have c1 : ((l.length : Int) - 1) = ((l.length - 1 : Nat) : Int) := by omega
    simp only
    rw [c1]
    have hp : 2 ^ (l.length - 1 + 2) ≤ 2 ^ 10 := Nat.pow_le_pow_right (by omega) (by omega)
    refine derive_of hg hE hEm l.length (l.length - 1) _ [] l rfl (by omega) (by omega) ⟨⟨[], by simp⟩, hg.ok, fun i d hd => by simp [mget] at hd⟩ (by omega) ?_
    intro d m' out' hD' hx d1 d2 dr ln hnew
    have := hnew rfl
    refine h out' hx hD'.ok ?_
    rw [show out'.length - 1 = d.toNat by omega]
    exact dr

/-- the law AfterWhole -/
theorem afterWhole (k : Int) (l : List Nd) (w : List Int) : VC8 k l w (fun b => b = true) := by
  unfold VC8 VC26
  refine VC23_of (fun e he hno => ?_) (fun hg hw b hb => ?_)
  · refine VC23_of (fun e2 he2 _ => ?_) (fun hg hw => absurd ⟨hg, hw⟩ hno)
    refine VC24_of fun c hc => ?_
    cases c with
    | true => exact absurd (hc.1 rfl) hno
    | false => exact ⟨fun _ => (by simp [he, he2]), fun hcc => (by cases hcc)⟩
  · refine VC23_of (fun e2 he2 hno => absurd ⟨hg, hw⟩ hno) (fun _ _ b2 hb2 => ?_)
    have hbb : b = b2 := by
      cases b <;> cases b2
      · rfl
      · exact absurd (hb.2 (hb2.1 rfl)) (by decide)
      · exact absurd (hb2.2 (hb.1 rfl)) (by decide)
      · rfl
    subst hbb
    refine VC24_of fun c hc => ?_
    cases c with
    | false => exact absurd (hc.2 ⟨hg, hw⟩) (by decide)
    | true =>
      refine ⟨fun hcc => (by cases hcc), fun _ => ⟨fun hcc => ?_, fun _ => ⟨fun _ => rfl, fun hlen => ?_⟩⟩⟩
      · simp at hcc
      · simp only [decide_eq_false_iff_not] at hlen
        match w, hw, hlen, hb with
        | [], _, hlen, _ => exact absurd rfl hlen
        | s :: v, hw, _, hb =>
          have hs := hw.2 s (by simp)
          refine ⟨⟨by omega, by simp only [List.length_cons]; omega⟩, ?_⟩
          show VC27 k l s _
          refine VC27_of hg hs fun out hx hok hder => ?_
          have hlo : 1 ≤ out.length := by
            obtain ⟨e, he⟩ := hx
            have := hg.len
            rw [he, List.length_append]; omega
          refine ⟨fun hcc => ?_, fun _ => ⟨⟨by omega, by simp only [List.length_cons]; omega⟩, ?_⟩⟩
          · simp only [decide_true, Bool.not_true, Bool.false_or, decide_eq_true_eq] at hcc
            omega
          · show VC23 k out v _
            have hwv : GoodW k v := ⟨by have := hw.1; simp at this; omega, fun x hx => hw.2 x (by simp [hx])⟩
            refine VC23_of (fun e he hno => ?_) (fun hgo _ b3 hb3 => ?_)
            · have : 9 < out.length := Nat.lt_of_not_le fun hle => hno ⟨⟨hg.sym, ⟨hlo, hle⟩, hok⟩, hwv⟩
              have h9 : decide ((9 : Int) < (out.length : Int)) = true := by rw [decide_eq_true_eq]; omega
              simp [h9, he]
            · have hd := hder v v.length
              have : b3 = b := by
                have e1 : (s :: v).length = v.length + 1 := rfl
                rw [e1] at hb
                cases b <;> cases b3
                · rfl
                · exact absurd (hb.2 (hd.1 (hb3.1 rfl))) (by decide)
                · exact absurd (hb3.2 (hd.2 (hb.1 rfl))) (by decide)
                · rfl
              subst this
              simp

end Dec
