/-
  'EndsFew' in plain Lean.
-/
import Derived.Test.YtjjlefbbdnfjiaaGenG
import Derived.Test.YtjjlefbbdnfjiaaBorder
import Derived.Test.YtjjlefbbdnfjiaaCover
set_option linter.unusedSimpArgs false
set_option linter.unusedVariables false
namespace Dec
open Go Go.Proofs

def occB (w u : List Int) (i : Nat) : Bool := decide (i + u.length ≤ w.length) && decide ((w.take (i + u.length)).drop i = u)

theorem occB_iff {w u : List Int} {i : Nat} : occB w u i = true ↔ occ w u i := by simp [occB, occ]

/-- how often u stands in w at a place below m -/
def cntTo (w u : List Int) : Nat → Nat
  | 0 => 0
  | m + 1 => cntTo w u m + (if occB w u m then 1 else 0)

theorem cntTo_le (w u : List Int) : ∀ m, cntTo w u m ≤ m
  | 0 => Nat.le_refl _
  | m + 1 => by
    have := cntTo_le w u m
    simp only [cntTo]
    split <;> omega

theorem cntTo_mono (w u v : List Int) (h : ∀ i, occ w u i → occ w v i) : ∀ m, cntTo w u m ≤ cntTo w v m
  | 0 => Nat.le_refl _
  | m + 1 => by
    have := cntTo_mono w u v h m
    simp only [cntTo]
    by_cases hu : occB w u m = true
    · have hv : occB w v m = true := occB_iff.2 (h m (occB_iff.1 hu))
      rw [hu, hv]
      simp only [if_true]
      omega
    · rw [if_neg hu]
      split <;> omega

theorem cntTo_out {w u : List Int} {n : Nat} (h : w.length < n + u.length) : ∀ k, cntTo w u (n + k) = cntTo w u n
  | 0 => rfl
  | k + 1 => by
    rw [← Nat.add_assoc]
    simp only [cntTo]
    have hn : ¬ occB w u (n + k) = true := by
      intro e
      have := (occB_iff.1 e).1
      omega
    rw [cntTo_out h k, if_neg hn]
    rfl

theorem cntTo_nil (w : List Int) : ∀ m, m ≤ w.length + 1 → cntTo w [] m = m
  | 0, _ => rfl
  | m + 1, h => by
    simp only [cntTo]
    rw [cntTo_nil w m (by omega), if_pos]
    rw [occB_iff, occ_get]
    exact ⟨by simp; omega, fun k hk => by simp at hk⟩

theorem VC46_of {w u : List Int} {i : Nat} (hi : i ≤ w.length) (hw : w.length ≤ 1000000) {K : Bool → Prop} (h : K (occB w u i)) : VC46 (w.drop i) u K := by
  unfold VC46 VC40
  have e : ((w.drop i).take ((u.length : Int)).toNat = u) ↔ ((w.take (i + u.length)).drop i = u) := by
    rw [Int.toNat_natCast, List.drop_take, Nat.add_sub_cancel_left]
  have e2 : decide ((u.length : Int) ≤ ((w.drop i).length : Int)) = decide (i + u.length ≤ w.length) := by
    apply decide_eq_decide.2
    simp only [List.length_drop]
    omega
  refine ⟨fun hc => ?_, ?_⟩
  · simp only [decide_eq_true_eq] at hc
    exact ⟨by omega, hc⟩
  · rw [e2]
    cases hb : decide (i + u.length ≤ w.length) with
    | false =>
      unfold gcall
      rw [if_neg (by decide)]
      simp only [occB, hb, Bool.false_and] at h ⊢
      exact h
    | true =>
      unfold gcall
      rw [if_pos rfl]
      simp only [occB, hb, Bool.true_and] at h ⊢
      rw [decide_eq_decide.2 e]
      exact h

theorem VC36_of {w u : List Int} (hw : w.length ≤ 60) (hu : u.length ≤ 60) {K : Int × Int → Prop} (h : K ((cntTo w u (w.length + 1) : Nat), 0)) : VC36 w u K := by
  unfold VC36
  refine VC38_of (by simp) ?_
  have : longB [w, u] = false := by simp [longB]; omega
  rw [this]
  simp only [Bool.false_eq_true, if_false]
  refine ⟨fun e => by simp at e, fun _ => ?_⟩
  refine Loop.by (fun s : Int × Int => ∃ i : Nat, s.2 = (i : Int) ∧ i ≤ w.length + 1 ∧ s.1 = (cntTo w u i : Nat)) (fun s => ((w.length : Int) + 1 - s.2).toNat) ⟨0, rfl, by omega, rfl⟩ ?_
  rintro ⟨n, i'⟩ ⟨i, h1, h2, h3⟩ X hX
  simp only at h1 h3 ⊢
  subst h1 h3
  have hcl := cntTo_le w u i
  unfold VC36_l1 VC36_k1 VC36_k2
  refine ⟨⟨by omega, by omega⟩, fun hb => ?_, fun hb => ?_⟩
  · simp only [decide_eq_true_eq] at hb
    refine ⟨⟨by omega, by omega⟩, ?_⟩
    rw [Int.toNat_natCast]
    refine VC46_of (by omega) (by omega) ⟨fun he => ?_, fun he => ?_⟩
    · refine ⟨⟨by omega, by omega⟩, ⟨by omega, by omega⟩, hX _ ⟨i + 1, by simp, by omega, ?_⟩ (by simp only; omega)⟩
      simp only [cntTo, he, if_true]
      omega
    · refine ⟨⟨by omega, by omega⟩, hX _ ⟨i + 1, by simp, by omega, ?_⟩ (by simp only; omega)⟩
      simp only [cntTo, he]
      simp
  · simp only [decide_eq_false_iff_not] at hb
    have := cntTo_out (w := w) (u := u) (n := i) (by omega) (w.length + 1 - i)
    rw [show i + (w.length + 1 - i) = w.length + 1 by omega] at this
    rw [this] at h
    exact h

/-- the first k letters of w are the last k of the first j of the text -/
def SB (w t : List Int) (j k : Nat) : Prop := k ≤ j ∧ k ≤ w.length ∧ ∀ i, i < k → w[i]? = t[j - k + i]?

def LSB (w t : List Int) (j k : Nat) : Prop := SB w t j k ∧ ∀ b, SB w t j b → b ≤ k

theorem SB.trans {w t : List Int} {j k b : Nat} (h1 : SB w t j k) (h2 : Bd (fun i => w[i]?) k b) : SB w t j b := by
  have e1 := h1.1
  have e2 := h2.1
  have e3 := h1.2.1
  refine ⟨by omega, by omega, fun i hi => ?_⟩
  have := h2.2 i hi
  simp only at this
  rw [this, h1.2.2 (k - b + i) (by omega)]
  congr 1
  omega

theorem SB.inner {w t : List Int} {j k b : Nat} (h1 : SB w t j k) (h2 : SB w t j b) (hb : b < k) : Bd (fun i => w[i]?) k b := by
  have e1 := h1.1
  refine ⟨hb, fun i hi => ?_⟩
  simp only
  rw [h2.2.2 i hi, h1.2.2 (k - b + i) (by omega)]
  congr 1
  omega

theorem SB.pred {w t : List Int} {j b : Nat} (h : SB w t (j + 1) (b + 1)) : SB w t j b ∧ w[b]? = t[j]? ∧ b < w.length := by
  have e1 := h.1
  have e2 := h.2.1
  refine ⟨⟨by omega, by omega, fun i hi => ?_⟩, ?_, by omega⟩
  · rw [h.2.2 i (by omega)]
    congr 1
    omega
  · rw [h.2.2 b (by omega)]
    congr 1
    omega

theorem SB.succ {w t : List Int} {j k : Nat} (h : SB w t j k) (hk : k < w.length) (he : w[k]? = t[j]?) : SB w t (j + 1) (k + 1) := by
  have e1 := h.1
  refine ⟨by omega, by omega, fun i hi => ?_⟩
  by_cases hik : i < k
  · rw [h.2.2 i hik]
    congr 1
    omega
  · have : i = k := by omega
    subst this
    rw [he]
    congr 1
    omega

theorem SB.zero {w t : List Int} {j : Nat} : SB w t j 0 := ⟨by omega, by omega, fun i hi => by omega⟩

theorem SB_occ {w t : List Int} {j : Nat} (hj : j ≤ t.length) (hw : w.length ≤ j) : SB w t j w.length ↔ occ t w (j - w.length) := by
  rw [occ_get]
  constructor
  · rintro ⟨_, _, h⟩
    exact ⟨by omega, fun k hk => (h k hk).symm⟩
  · rintro ⟨_, h⟩
    exact ⟨hw, Nat.le_refl _, fun k hk => (h k hk).symm⟩

theorem VC37_of {w t : List Int} (hw : w.length ≤ 60) (ht : t.length ≤ 60) {K : List Int × Int → Prop} (h : ∀ out : List Int, out.length = cntTo t w (t.length + 1) → K (out, 0)) : VC37 w t K := by
  unfold VC37
  refine VC38_of (by simp) ?_
  have : longB [w, t] = false := by simp [longB]; omega
  rw [this]
  simp only [Bool.false_eq_true, if_false]
  refine ⟨fun e => by simp at e, fun _ => ⟨fun hc => ?_, fun hc => ?_⟩⟩
  · simp only [decide_eq_true_eq] at hc
    have hw0 : w = [] := List.eq_nil_of_length_eq_zero (by omega)
    subst hw0
    refine ⟨⟨by omega, by omega⟩, ?_⟩
    refine Loop.by (fun s : Int × List Int => 0 ≤ s.1 ∧ s.1 ≤ (t.length : Int) + 1 ∧ (s.2.length : Int) = s.1) (fun s => ((t.length : Int) + 1 - s.1).toNat) ⟨by simp, by simp; omega, by simp⟩ ?_
    rintro ⟨i, out⟩ ⟨h1, h2, h3⟩ X hX
    simp only at h1 h2 h3 ⊢
    unfold VC37_l1 VC37_k1
    refine ⟨fun hb => ?_, fun hb => ?_⟩
    · simp only [decide_eq_true_eq] at hb
      refine ⟨by simp only [roomN, List.length_singleton]; omega, ⟨by omega, by omega⟩, hX _ ⟨by simp only; omega, by simp only; omega, by simp; omega⟩ (by simp only; omega)⟩
    · simp only [decide_eq_false_iff_not] at hb
      refine h out ?_
      rw [cntTo_nil t _ (by omega)]
      omega
  · simp only [decide_eq_false_iff_not] at hc
    refine VC42_of (by omega) fun bs hlen hbs => ?_
    refine Loop.by (fun s : Int × Int × List Int => ∃ k j : Nat, s.1 = (k : Int) ∧ s.2.1 = (j : Int) ∧ j ≤ t.length ∧ LSB w t j k ∧ s.2.2.length = cntTo t w (j + 1 - w.length)) (fun s => ((t.length : Int) - s.2.1).toNat)
      ⟨0, 0, rfl, rfl, by omega, ⟨SB.zero, fun b hb => hb.1⟩, by rw [show 0 + 1 - w.length = 0 by omega]; rfl⟩ ?_
    rintro ⟨k, j', out⟩ ⟨k0, j, h1, h2, h3, h4, h5⟩ X hX
    simp only at h1 h2 h5 ⊢
    subst h1 h2
    unfold VC37_l2 VC37_k2
    refine ⟨fun hb => ?_, fun hb => ?_⟩
    · simp only [decide_eq_true_eq] at hb
      refine ⟨⟨by omega, hb⟩, ?_⟩
      refine Loop.by (fun k : Int => ∃ n : Nat, k = (n : Int) ∧ SB w t j n ∧ ∀ b, SB w t (j + 1) (b + 1) → b ≤ n) (fun k => k.toNat) ⟨k0, rfl, h4.1, fun b hb => h4.2 b hb.pred.1⟩ ?_
      rintro k ⟨n, rfl, hn, hmax⟩ Y hY
      have hnj := hn.1
      have hnw := hn.2.1
      have tn : ((n : Int)).toNat = n := by omega
      have tj : ((j : Int)).toNat = j := by omega
      have hcmp : ∀ a, a < w.length → (w.getD a 0 = t.getD j 0 ↔ w[a]? = t[j]?) := by
        intro a ha
        rw [getD_eq ha, getD_eq (show j < t.length by omega), List.getElem?_eq_getElem ha, List.getElem?_eq_getElem (show j < t.length by omega), Option.some.injEq]
      have hfin : ∀ m : Nat, LSB w t (j + 1) m → VC37_k4 w (j : Int) out X (m : Int) := by
        intro m hm
        have hcl := cntTo_le t w (j + 1 - w.length)
        unfold VC37_k4 VC37_k5
        refine ⟨fun he => ?_, fun he => ?_⟩
        · simp only [decide_eq_true_eq] at he
          have hmw : m = w.length := by omega
          subst hmw
          have hm1 := hm.1.1
          refine ⟨⟨by omega, by omega⟩, ⟨by omega, by omega⟩, ?_, ⟨by omega, by omega⟩, hX _ ⟨_, j + 1, rfl, by simp, by omega, hm, ?_⟩ (by simp only; omega)⟩
          · simp only [roomN, List.length_singleton]; omega
          · simp only [List.length_append, List.length_singleton]
            rw [show j + 1 + 1 - w.length = (j + 1 - w.length) + 1 by omega]
            simp only [cntTo]
            rw [if_pos (occB_iff.2 ((SB_occ (by omega) hm1).1 hm.1)), h5]
        · simp only [decide_eq_false_iff_not] at he
          refine ⟨⟨by omega, by omega⟩, hX _ ⟨m, j + 1, rfl, by simp, by omega, hm, ?_⟩ (by simp only; omega)⟩
          simp only
          rw [h5]
          by_cases hjw : w.length ≤ j + 1
          · rw [show j + 1 + 1 - w.length = (j + 1 - w.length) + 1 by omega]
            simp only [cntTo]
            rw [if_neg]
            · rfl
            · intro e
              have := hm.2 _ ((SB_occ (by omega) hjw).2 (occB_iff.1 e))
              have := hm.1.2.1
              omega
          · rw [show j + 1 + 1 - w.length = j + 1 - w.length by omega]
      unfold VC37_l3 VC37_k3
      refine ⟨fun _ hne => ?_, fun hc2 => ?_, fun hc2 => ?_⟩
      · simp only [decide_eq_false_iff_not] at hne
        exact ⟨by omega, by omega⟩
      · simp only [Bool.and_eq_true, Bool.or_eq_true, decide_eq_true_eq, Bool.not_eq_true', decide_eq_false_iff_not, tn, tj] at hc2
        obtain ⟨hc3, hc4⟩ := hc2
        obtain ⟨k', e1, e2⟩ := hbs n (by omega) hnw
        rw [show ((n : Int) - 1).toNat = n - 1 by omega, getD_of_some' e1]
        refine ⟨⟨by omega, by omega⟩, ⟨by omega, by omega⟩, hY _ ⟨k', rfl, hn.trans e2.1, fun b hb => ?_⟩ ?_⟩
        · have hb1 := hmax b hb
          obtain ⟨hb2, hb3, hb4⟩ := hb.pred
          have hne : b ≠ n := by
            intro e
            subst e
            rcases hc4 with hc4 | hc4
            · omega
            · exact hc4 ((hcmp b hb4).2 hb3)
          exact e2.2 b (hn.inner hb2 (by omega))
        · have := e2.1.1
          omega
      · simp only [Bool.and_eq_false_iff, Bool.or_eq_false_iff, decide_eq_false_iff_not, Bool.not_eq_false', decide_eq_true_eq, tn, tj] at hc2
        have hnlt : n < w.length := by omega
        refine ⟨⟨by omega, by omega⟩, fun he => ?_, fun he => ?_⟩
        · simp only [decide_eq_true_eq, tn, tj] at he
          rw [hcmp n hnlt] at he
          refine ⟨⟨by omega, by omega⟩, ?_⟩
          have := hfin (n + 1) ⟨hn.succ hnlt he, fun b hb => by
            cases b with
            | zero => omega
            | succ b => have := hmax b hb; omega⟩
          simpa using this
        · simp only [decide_eq_false_iff_not, tn, tj] at he
          have hn0 : n = 0 := by
            rcases hc2 with hc2 | hc2
            · omega
            · exact absurd hc2.2 he
          subst hn0
          rw [hcmp 0 hnlt] at he
          exact hfin 0 ⟨SB.zero, fun b hb => by
            cases b with
            | zero => omega
            | succ b =>
              have h6 := hmax b hb
              have : b = 0 := by omega
              subst this
              exact absurd hb.pred.2.1 he⟩
    · simp only [decide_eq_false_iff_not] at hb
      have hj : j = t.length := by omega
      subst hj
      refine h out ?_
      rw [h5]
      have := cntTo_out (w := t) (u := w) (n := t.length + 1 - w.length) (by omega) w.length
      by_cases hwt : w.length ≤ t.length + 1
      · rw [show t.length + 1 - w.length + w.length = t.length + 1 by omega] at this
        exact this.symm
      · have e0 : t.length + 1 - w.length = 0 := by omega
        have := cntTo_out (w := t) (u := w) (n := 0) (by omega) (t.length + 1)
        rw [e0]
        rw [Nat.zero_add] at this
        exact this.symm

theorem occ_take {w u : List Int} {i m : Nat} (h : occ w u i) : occ w (u.take m) i := by
  rw [occ_get] at h ⊢
  refine ⟨by simp only [List.length_take]; omega, fun k hk => ?_⟩
  rw [List.length_take] at hk
  rw [List.getElem?_take, if_pos (by omega)]
  exact h.2 k (by omega)

theorem endsFew (w u : List Int) (k : Int) (hk : 0 ≤ k) : VC14 w u k (fun b => b = true) := by
  unfold VC14
  by_cases hl : longB [w, u] = true
  · have hl2 : longB [u, w] = true := by
      simp only [longB, List.any_cons, List.any_nil, Bool.or_false, Bool.or_eq_true] at hl ⊢
      exact hl.symm
    unfold VC36 VC37
    refine VC38_of (by simp) ?_
    rw [hl]
    simp only [if_true]
    refine ⟨fun _ => VC38_of (by simp) ?_, fun e => by simp at e⟩
    rw [hl2]
    simp only [if_true]
    refine ⟨fun _ => VC16_of (by simp) ?_, fun e => by simp at e⟩
    rw [hl]
    simp
  · have hl' : longB [w, u] = false := by simpa using hl
    have hwu : w.length ≤ 60 ∧ u.length ≤ 60 := by simpa [longB] using hl'
    refine VC36_of hwu.1 hwu.2 (VC37_of hwu.2 hwu.1 fun out hout => VC16_of (by simp) ?_)
    rw [hl']
    refine ⟨fun e => (by cases e), fun _ => ?_⟩
    have hm0 := Int.emod_nonneg k (show ((u.length : Int) + 1) ≠ 0 by omega)
    have hm1 := Int.emod_lt_of_pos k (show (0 : Int) < (u.length : Int) + 1 by omega)
    refine ⟨⟨by omega, by omega⟩, ⟨hk, by omega⟩, ⟨hm0, by omega⟩, ?_⟩
    refine VC36_of hwu.1 (by simp; omega) (VC36_of hwu.1 (by simp) ?_)
    refine ⟨fun _ => ⟨by omega, by omega⟩, ?_⟩
    have e1 := cntTo_nil w (w.length + 1) (by omega)
    have e2 := cntTo_mono w u (u.take (k % ((u.length : Int) + 1)).toNat) (fun i hi => occ_take hi) (w.length + 1)
    rw [e1, hout]
    simp only [decide_true, Bool.and_true, Bool.true_and, Bool.and_eq_true, decide_eq_true_eq]
    refine ⟨by omega, by omega⟩
theorem endsFew_ok (w u : List Int) (k : Int) (_ : Ok (.sl (.int .u8)) w) (_ : Ok (.sl (.int .u8)) u) (h : Ok (.int .u8) k) : VC14 w u k (fun b => b = true) := by
  refine endsFew w u k ?_
  have := h.1
  simpa [IntKind.min, IntKind.signed] using this
end Dec
