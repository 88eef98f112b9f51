/-
  'BeginCover' in plain Lean.
-/
import Derived.Test.YtjjlefbbdnfjiaaGenC
import Derived.Test.YtjjlefbbdnfjiaaFinePower
set_option linter.unusedSimpArgs false
set_option linter.unusedVariables false
namespace Dec
open Go Go.Proofs

/-- u stands in w at i -/
def occ (w u : List Int) (i : Nat) : Prop := i + u.length ≤ w.length ∧ (w.take (i + u.length)).drop i = u

def Cov (w u : List Int) : Prop := ∀ j, j < w.length → ∃ i, i ≤ j ∧ j < i + u.length ∧ occ w u i

noncomputable def covB (w u : List Int) : Bool := by
  classical
  exact decide (Cov w u)

theorem covB_iff {w u : List Int} : covB w u = true ↔ Cov w u := by
  unfold covB
  simp

theorem covB_false {w u : List Int} : covB w u = false ↔ ¬ Cov w u := by
  rw [← covB_iff, Bool.not_eq_true]

theorem occ_get {w u : List Int} {i : Nat} : occ w u i ↔ i + u.length ≤ w.length ∧ ∀ k, k < u.length → w[i + k]? = u[k]? := by
  unfold occ
  constructor
  · rintro ⟨h1, h2⟩
    refine ⟨h1, fun k hk => ?_⟩
    have := congrArg (fun l => l[k]?) h2
    simp only [List.getElem?_drop, List.getElem?_take] at this
    rw [if_pos (by omega)] at this
    exact this
  · rintro ⟨h1, h2⟩
    refine ⟨h1, ?_⟩
    apply List.ext_getElem?
    intro k
    rw [List.getElem?_drop, List.getElem?_take]
    by_cases hk : k < u.length
    · rw [if_pos (by omega), h2 k hk]
    · rw [if_neg (by omega), List.getElem?_eq_none (by omega)]

theorem Cov.trans {w u v : List Int} (h1 : Cov w u) (h2 : Cov u v) : Cov w v := by
  intro j hj
  obtain ⟨i, hi, hij, ho⟩ := h1 j hj
  obtain ⟨i', hi', hij', ho'⟩ := h2 (j - i) (by omega)
  rw [occ_get] at ho ho'
  refine ⟨i + i', by omega, by omega, occ_get.2 ⟨by omega, fun k hk => ?_⟩⟩
  rw [Nat.add_assoc, ho.2 (i' + k) (by omega), ho'.2 k hk]

theorem Cov.refl (u : List Int) : Cov u u := fun j hj => ⟨0, by omega, by omega, occ_get.2 ⟨by omega, fun k _ => by simp⟩⟩

theorem VC18_of {w u : List Int} {K : Bool × Int → Prop} (h : K (if longB [w, u] then (false, 1) else if u.length = 0 then (false, 2) else (covB w u, 0))) : VC18 w u K := by
  unfold VC18
  refine VC38_of (by simp) ?_
  cases hl : longB [w, u] with
  | true =>
    rw [hl] at h
    simp only [if_true] at h ⊢
    exact ⟨fun _ => h, fun e => by simp at e⟩
  | false =>
    rw [hl] at h
    simp only [Bool.false_eq_true, if_false] at h ⊢
    have hw : w.length ≤ 60 ∧ u.length ≤ 60 := by simpa [longB] using hl
    refine ⟨fun e => by simp at e, fun _ => ⟨fun hu => ?_, fun hu => ?_⟩⟩
    · simp only [decide_eq_true_eq] at hu
      rw [if_pos (by omega)] at h
      exact h
    · simp only [decide_eq_false_iff_not] at hu
      rw [if_neg (by omega)] at h
      refine Loop.by (fun s : Int × Int => 0 ≤ s.1 ∧ s.1 ≤ (w.length : Int) ∧ 0 ≤ s.2 ∧ s.2 ≤ (w.length : Int) + 1 ∧ (∀ j : Nat, (j : Int) < s.1 → ∃ i, i ≤ j ∧ j < i + u.length ∧ occ w u i) ∧ ∀ i : Nat, (i : Int) < s.2 → occ w u i → ((i + u.length : Nat) : Int) ≤ s.1)
        (fun s => ((w.length : Int) + 1 - s.2).toNat) ⟨by simp, by simp, by simp, by simp; omega, fun j hj => by simp only at hj; omega, fun i hi => by simp only at hi; omega⟩ ?_
      rintro ⟨ed, i⟩ ⟨h0, h1, h2, h3, h4, h5⟩ X hX
      simp only at h0 h1 h2 h3 h4 h5 ⊢
      unfold VC18_l1 VC18_k1 VC18_k2 VC40
      refine ⟨⟨by omega, by omega⟩, fun hb => ?_, fun hb => ?_⟩
      · simp only [decide_eq_true_eq] at hb
        refine ⟨⟨by omega, by omega⟩, ⟨h2, by omega, hb⟩, ?_⟩
        have hocc : ((w.take ((i + (u.length : Int))).toNat).drop (i).toNat = u) ↔ occ w u i.toNat := by
          unfold occ
          rw [show (i + (u.length : Int)).toNat = i.toNat + u.length by omega]
          constructor
          · exact fun e => ⟨by omega, e⟩
          · exact fun e => e.2
        refine ⟨fun he => ?_, fun he => ?_⟩
        · simp only [decide_eq_true_eq, hocc] at he
          refine ⟨fun hc => ?_, fun hc => ?_⟩
          · simp only [decide_eq_true_eq] at hc
            have : covB w u = false := by
              rw [covB_false]
              intro hcov
              obtain ⟨i', hi1, hi2, hi3⟩ := hcov ed.toNat (by omega)
              by_cases hlt : (i' : Int) < i
              · have := h5 i' hlt hi3; omega
              · omega
            rw [this] at h
            exact h
          · simp only [decide_eq_false_iff_not] at hc
            refine ⟨⟨by omega, by omega⟩, ⟨by omega, by omega⟩, hX _ ⟨by simp only; omega, by simp only; omega, by simp only; omega, by simp only; omega, fun j hj => ?_, fun i' hi' ho => ?_⟩ (by simp only; omega)⟩
            · simp only at hj
              by_cases hje : (j : Int) < ed
              · exact h4 j hje
              · exact ⟨i.toNat, by omega, by omega, he⟩
            · simp only at hi' ⊢
              omega
        · simp only [decide_eq_false_iff_not, hocc] at he
          refine ⟨⟨by omega, by omega⟩, hX _ ⟨h0, h1, by simp only; omega, by simp only; omega, h4, fun i' hi' ho => ?_⟩ (by simp only; omega)⟩
          simp only at hi'
          by_cases hlt : (i' : Int) < i
          · exact h5 i' hlt ho
          · have : i' = i.toNat := by omega
            subst this
            exact absurd ho he
      · simp only [decide_eq_false_iff_not] at hb
        have : covB w u = decide (ed = (w.length : Int)) := by
          by_cases he : ed = (w.length : Int)
          · rw [decide_eq_true he, covB_iff]
            exact fun j hj => h4 j (by omega)
          · rw [decide_eq_false he, covB_false]
            intro hcov
            obtain ⟨i', hi1, hi2, hi3⟩ := hcov ed.toNat (by omega)
            have := h5 i' (by have := hi3.1; omega) hi3
            omega
        rw [this] at h
        exact h

/-- do two words have the same letters? -/
theorem VC21_of {a b : List Int} (hl : a.length ≤ 1000000) {K : Bool → Prop} (h : K (decide (a = b))) : VC21 a b K := by
  unfold VC21
  by_cases hlen : a.length = b.length
  · refine ⟨fun e => by simp [hlen] at e, fun _ => ?_⟩
    refine Loop.by (fun v : Int => 0 ≤ v ∧ v ≤ (a.length : Int) ∧ ∀ i : Nat, (i : Int) < v → a[i]? = b[i]?) (fun v => ((a.length : Int) - v).toNat) ⟨by omega, by omega, fun i hi => by omega⟩ ?_
    rintro v ⟨h0, h1, h2⟩ X hX
    unfold VC21_l1 VC21_k1
    refine ⟨fun hb => ?_, fun hb => ?_⟩
    · simp only [decide_eq_true_eq] at hb
      have hga : a[v.toNat]? = some (a.getD v.toNat 0) := by rw [getD_eq (show v.toNat < a.length by omega)]; exact List.getElem?_eq_getElem _
      have hgb : b[v.toNat]? = some (b.getD v.toNat 0) := by rw [getD_eq (show v.toNat < b.length by omega)]; exact List.getElem?_eq_getElem _
      refine ⟨⟨h0, hb⟩, ⟨h0, by omega⟩, fun hc => ?_, fun hc => ⟨⟨by omega, by omega⟩, hX _ ⟨by omega, by omega, fun i hi => ?_⟩ (by omega)⟩⟩
      · simp only [Bool.not_eq_true', decide_eq_false_iff_not] at hc
        have hne : ¬ a = b := fun e => hc (by rw [e])
        rw [decide_eq_false hne] at h
        exact h
      · simp only [Bool.not_eq_false', decide_eq_true_eq] at hc
        by_cases e : (i : Int) < v
        · exact h2 i e
        · have : i = v.toNat := by omega
          subst this
          rw [hga, hgb, hc]
    · simp only [decide_eq_false_iff_not] at hb
      have heq : a = b := by
        apply List.ext_getElem?
        intro i
        by_cases hi : i < a.length
        · exact h2 i (by omega)
        · rw [List.getElem?_eq_none (by omega), List.getElem?_eq_none (by omega)]
      rw [decide_eq_true heq] at h
      exact h
  · have hne : ¬ a = b := fun e => hlen (by rw [e])
    rw [decide_eq_false hne] at h
    refine ⟨fun _ => h, fun e => ?_⟩
    simp only [Bool.not_eq_false', decide_eq_true_eq] at e
    omega

theorem VC19_of {w u : List Int} (hw : w.length ≤ 1000000) (hu : u.length ≤ 1000000) {i : Int} (hi0 : -1000000 ≤ i) (hi : i ≤ 1000000) {K : Bool → Prop} (h : ∀ b : Bool, (b = true ↔ 0 ≤ i ∧ occ w u i.toNat) → K b) : VC19 w u i K := by
  unfold VC19
  refine ⟨fun _ => ⟨by omega, by omega⟩, fun _ => ⟨by omega, by omega⟩, fun hb => ?_, ?_⟩
  · simp only [Bool.and_eq_true, decide_eq_true_eq] at hb
    omega
  · cases hg : (decide ((0 : Int) ≤ i) && decide (i + (u.length : Int) ≤ (w.length : Int))) with
    | false =>
      unfold gcall
      rw [if_neg (by decide)]
      refine h _ ⟨fun e => by simp at e, fun e => ?_⟩
      have := e.2.1
      simp only [Bool.and_eq_false_iff, decide_eq_false_iff_not] at hg
      omega
    | true =>
      simp only [Bool.and_eq_true, decide_eq_true_eq] at hg
      unfold gcall
      rw [if_pos rfl]
      refine VC21_of (by simp; omega) (h _ ?_)
      rw [Bool.true_and, decide_eq_true_eq, show (i + (u.length : Int)).toNat = i.toNat + u.length by omega]
      unfold occ
      constructor
      · exact fun e => ⟨hg.1, by omega, e⟩
      · exact fun e => e.2.2

theorem beginCover (w u v : List Int) : VC4 w u v (fun b => b = true) := by
  unfold VC4
  refine VC18_of (VC18_of (VC16_of (by simp) ?_))
  cases hl : longB [w, u, v] with
  | true =>
    simp only [Bool.true_or]
    refine ⟨fun _ => ?_, fun e => by cases e⟩
    have : longB [w, u] = true ∨ longB [u, v] = true := by
      simp only [longB, List.any_cons, List.any_nil, Bool.or_false, Bool.or_eq_true] at hl ⊢
      rcases hl with h | h | h
      · exact .inl (.inl h)
      · exact .inl (.inr h)
      · exact .inr (.inr h)
    rcases this with h | h
    · simp [h]
    · simp [h]
  | false =>
    have hw : w.length ≤ 60 ∧ u.length ≤ 60 ∧ v.length ≤ 60 := by simpa [longB] using hl
    have e1 : longB [w, u] = false := by simp [longB, hw]
    have e2 : longB [u, v] = false := by simp [longB, hw]
    have e3 : longB [w, v] = false := by simp [longB, hw]
    have e4 : longB [u, u] = false := by simp [longB, hw]
    by_cases hu : u.length = 0
    · simp [e1, hu]
    by_cases hv : v.length = 0
    · simp [e2, hv]
    simp only [e1, e2, Bool.false_eq_true, if_false, if_neg hu, if_neg hv, Bool.false_or]
    have hu' : ¬ (u.length : Int) = 0 := by omega
    have hv' : ¬ (v.length : Int) = 0 := by omega
    simp only [decide_eq_false hu', decide_eq_false hv', Bool.or_self]
    refine ⟨fun e => (by cases e), fun _ => VC18_of (VC18_of ?_)⟩
    simp only [e3, e4, Bool.false_eq_true, if_false, if_neg hu, if_neg hv]
    have huu : covB u u = true := covB_iff.2 (Cov.refl u)
    rw [huu]
    refine ⟨fun e => (by simp at e), fun _ => ?_⟩
    cases hc : (covB w u && decide ((0 : Int) < (w.length : Int))) with
    | false =>
      unfold gcall
      rw [if_neg (by decide)]
      refine ⟨fun e => (by cases e), ?_⟩
      rw [if_neg (by simp)]
      refine ⟨fun e => (by simp at e), fun _ => ?_⟩
      cases h1 : covB w u with
      | false => rfl
      | true =>
        cases h2 : covB u v with
        | false => rfl
        | true =>
          have := (covB_iff.1 h1).trans (covB_iff.1 h2)
          rw [covB_iff.2 this]
          rfl
    | true =>
      simp only [Bool.and_eq_true, decide_eq_true_eq] at hc
      have hcov := covB_iff.1 hc.1
      unfold gcall
      rw [if_pos rfl]
      refine VC19_of (by omega) (by omega) (by omega) (by omega) ?_
      intro b hb
      have hb1 : b = true := by
        obtain ⟨i, h1, h2, h3⟩ := hcov 0 (by omega)
        have : i = 0 := by omega
        subst this
        exact hb.2 ⟨by omega, h3⟩
      subst hb1
      refine ⟨fun _ _ => ⟨by omega, by omega⟩, ?_⟩
      rw [if_pos (by simp)]
      refine VC19_of (by omega) (by omega) (by omega) (by omega) ?_
      intro b hb
      have hb1 : b = true := by
        obtain ⟨i, h1, h2, h3⟩ := hcov (w.length - 1) (by omega)
        have h4 := h3.1
        have : i = w.length - u.length := by omega
        subst this
        refine hb.2 ⟨by omega, ?_⟩
        rw [show ((w.length : Int) - (u.length : Int)).toNat = w.length - u.length by omega]
        exact h3
      subst hb1
      refine ⟨fun e => (by simp at e), fun _ => ?_⟩
      rw [hc.1]
      cases h2 : covB u v with
      | false => rfl
      | true =>
        have := hcov.trans (covB_iff.1 h2)
        rw [covB_iff.2 this]
        rfl
end Dec
