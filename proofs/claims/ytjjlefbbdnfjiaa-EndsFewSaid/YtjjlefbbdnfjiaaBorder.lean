/-
  'BorderPeriods' in plain Lean.
-/
import Derived.Test.YtjjlefbbdnfjiaaGenE
import Derived.Test.YtjjlefbbdnfjiaaFinePower
set_option linter.unusedSimpArgs false
set_option linter.unusedVariables false
namespace Dec
open Go Go.Proofs

/-- the first b letters are the last b of the first m -/
def Bd {α : Type} (f : Nat → α) (m b : Nat) : Prop := b < m ∧ ∀ t, t < b → f t = f (m - b + t)

def LB {α : Type} (f : Nat → α) (m k : Nat) : Prop := Bd f m k ∧ ∀ b, Bd f m b → b ≤ k

theorem Bd.trans {α : Type} {f : Nat → α} {i k b : Nat} (h1 : Bd f i k) (h2 : Bd f k b) : Bd f i b := by
  have e1 := h1.1
  have e2 := h2.1
  refine ⟨by omega, fun t ht => ?_⟩
  rw [h2.2 t ht, h1.2 (k - b + t) (by omega)]
  congr 1
  omega

theorem Bd.inner {α : Type} {f : Nat → α} {i k b : Nat} (h1 : Bd f i k) (h2 : Bd f i b) (hb : b < k) : Bd f k b := by
  have e1 := h1.1
  refine ⟨hb, fun t ht => ?_⟩
  rw [h2.2 t ht, h1.2 (k - b + t) (by omega)]
  congr 1
  omega

theorem Bd.pred {α : Type} {f : Nat → α} {i b : Nat} (h : Bd f (i + 1) (b + 1)) : Bd f i b ∧ f b = f i := by
  have e1 := h.1
  refine ⟨⟨by omega, fun t ht => ?_⟩, ?_⟩
  · rw [h.2 t (by omega)]
    congr 1
    omega
  · rw [h.2 b (by omega)]
    congr 1
    omega

theorem Bd.succ {α : Type} {f : Nat → α} {i k : Nat} (h : Bd f i k) (he : f k = f i) : Bd f (i + 1) (k + 1) := by
  have e1 := h.1
  refine ⟨by omega, fun t ht => ?_⟩
  by_cases htk : t < k
  · rw [h.2 t htk]
    congr 1
    omega
  · have : t = k := by omega
    subst this
    rw [he]
    congr 1
    omega

theorem Bd.zero {α : Type} {f : Nat → α} {m : Nat} (h : 0 < m) : Bd f m 0 := ⟨h, fun t ht => by omega⟩

theorem getD_of_some' {l : List Int} {i : Nat} {x : Int} (h : l[i]? = some x) : l.getD i 0 = x := by simp [List.getD, h]

theorem getD_iff {w : List Int} {a b : Nat} (ha : a < w.length) (hb : b < w.length) : w.getD a 0 = w.getD b 0 ↔ w[a]? = w[b]? := by
  rw [getD_eq ha, getD_eq hb, List.getElem?_eq_getElem ha, List.getElem?_eq_getElem hb, Option.some.injEq]

theorem VC42_of {w : List Int} (hl : w.length ≤ 1000000) {K : List Int → Prop}
    (h : ∀ out : List Int, out.length = w.length → (∀ m, 1 ≤ m → m ≤ w.length → ∃ k : Nat, out[m - 1]? = some (k : Int) ∧ LB (fun i => w[i]?) m k) → K out) : VC42 w K := by
  unfold VC42
  refine ⟨⟨by omega, by omega⟩, ?_⟩
  refine Loop.by (fun s : Int × Int × List Int => 1 ≤ s.2.1 ∧ s.2.2.length = w.length ∧ (∀ m : Nat, 1 ≤ m → (m : Int) ≤ s.2.1 → m ≤ w.length → ∃ k : Nat, s.2.2[m - 1]? = some (k : Int) ∧ LB (fun i => w[i]?) m k) ∧
      (s.2.1 ≤ (w.length : Int) → ∃ k : Nat, s.1 = (k : Int) ∧ LB (fun i => w[i]?) s.2.1.toNat k))
    (fun s => ((w.length : Int) - s.2.1).toNat) ⟨by simp, by simp, fun m hm hm1 hm2 => ?_, fun _ => ⟨0, rfl, Bd.zero (by simp), fun b hb => by have := hb.1; simp at this; omega⟩⟩ ?_
  · simp only at hm1
    have : m = 1 := by omega
    subst this
    exact ⟨0, by simp only [Nat.sub_self]; rw [List.getElem?_replicate, if_pos (by omega)]; rfl, Bd.zero (by omega), fun b hb => by have := hb.1; omega⟩
  rintro ⟨k, i, out⟩ ⟨h1, h2, h3, h4⟩ X hX
  simp only at h1 h2 h3 h4 ⊢
  unfold VC42_l1 VC42_k1
  refine ⟨fun hb => ?_, fun hb => ?_⟩
  · simp only [decide_eq_true_eq] at hb
    obtain ⟨k0, rfl, hk0⟩ := h4 (by omega)
    refine Loop.by (fun k : Int => ∃ n : Nat, k = (n : Int) ∧ Bd (fun i => w[i]?) i.toNat n ∧ ∀ b, Bd (fun i => w[i]?) (i.toNat + 1) (b + 1) → b ≤ n) (fun k => k.toNat) ⟨k0, rfl, hk0.1, fun b hb => hk0.2 b hb.pred.1⟩ ?_
    rintro k ⟨n, rfl, hn, hmax⟩ Y hY
    have hni := hn.1
    unfold VC42_l2 VC42_k2 VC42_k3
    have tn : ((n : Int)).toNat = n := by omega
    have hfin : ∀ m : Nat, LB (fun i => w[i]?) (i.toNat + 1) m → (inIdx i out.length ∧ (InR (i + (1 : Int)) ∧ X ((m : Int), (i + (1 : Int)), (out.set ((i).toNat) (m : Int))))) := by
      intro m hm
      refine ⟨⟨by omega, by omega⟩, ⟨by omega, by omega⟩, hX _ ⟨by simp only; omega, by simpa using h2, fun j hj hj1 hj2 => ?_, fun _ => ⟨m, rfl, ?_⟩⟩ (by simp only; omega)⟩
      · simp only at hj1 ⊢
        by_cases hji : (j : Int) ≤ i
        · rw [List.getElem?_set_ne (by omega)]
          exact h3 j hj hji hj2
        · have : j = i.toNat + 1 := by omega
          subst this
          refine ⟨m, ?_, hm⟩
          rw [Nat.add_sub_cancel, List.getElem?_set_self (by omega)]
      · simp only
        rw [show (i + 1).toNat = i.toNat + 1 by omega]
        exact hm
    refine ⟨fun _ => ⟨by omega, by omega⟩, fun _ => ⟨by omega, by omega⟩, fun hc => ?_, fun hc => ?_⟩
    · simp only [Bool.and_eq_true, decide_eq_true_eq, Bool.not_eq_true', decide_eq_false_iff_not, tn] at hc
      obtain ⟨hc1, hc2⟩ := hc
      rw [getD_iff (by omega) (by omega)] at hc2
      obtain ⟨k', e1, e2⟩ := h3 n (by omega) (by omega) (by omega)
      rw [show ((n : Int) - 1).toNat = n - 1 by omega, getD_of_some' e1]
      refine ⟨⟨by omega, by omega⟩, ⟨by omega, by omega⟩, hY _ ⟨k', rfl, hn.trans e2.1, fun b hb => ?_⟩ ?_⟩
      · have hb1 := hmax b hb
        obtain ⟨hb2, hb3⟩ := hb.pred
        have hne : b ≠ n := by
          intro e
          subst e
          exact hc2 hb3
        exact e2.2 b (hn.inner hb2 (by omega))
      · have := e2.1.1
        omega
    · refine ⟨⟨by omega, by omega⟩, ⟨by omega, by omega⟩, fun he => ?_, fun he => ?_⟩
      · simp only [decide_eq_true_eq, tn] at he
        rw [getD_iff (by omega) (by omega)] at he
        refine ⟨⟨by omega, by omega⟩, ?_⟩
        have := hfin (n + 1) ⟨hn.succ he, fun b hb => by
          cases b with
          | zero => omega
          | succ b => have := hmax b hb; omega⟩
        simpa using this
      · simp only [decide_eq_false_iff_not, tn] at he
        simp only [Bool.and_eq_false_iff, decide_eq_false_iff_not, Bool.not_eq_false', decide_eq_true_eq, tn] at hc
        have hn0 : n = 0 := by
          rcases hc with hc | hc
          · omega
          · exact absurd hc he
        subst hn0
        rw [getD_iff (by omega) (by omega)] at he
        exact hfin 0 ⟨Bd.zero (by omega), fun b hb => by
          cases b with
          | zero => omega
          | succ b =>
            have h5 := hmax b hb
            have : b = 0 := by omega
            subst this
            exact absurd hb.pred.2 he⟩
  · simp only [decide_eq_false_iff_not] at hb
    exact h out h2 fun m hm hm2 => h3 m hm (by omega) hm2

theorem VC26_of {w : List Int} (hl : w.length ≤ 60) {K : List Int × Int → Prop}
    (h : ∀ ps : List Int, (∀ q, ps[0]? = some q → perB w q = true ∧ ∀ q', perB w q' = true → q ≤ q') → (ps = [] → ∀ q', perB w q' = false) → K (ps, 0)) : VC26 w K := by
  unfold VC26
  refine VC38_of (by simp) ?_
  have : longB [w] = false := by simp [longB]; omega
  rw [this]
  simp only [Bool.false_eq_true, if_false]
  refine ⟨fun e => by simp at e, fun _ => ?_⟩
  refine Loop.by (fun s : Int × List Int => 1 ≤ s.1 ∧ s.1 ≤ (w.length : Int) + 1 ∧ (s.2.length : Int) < s.1 ∧ (∀ q, s.2[0]? = some q → perB w q = true ∧ ∀ q', perB w q' = true → q ≤ q') ∧ (s.2 = [] → ∀ q', q' < s.1 → perB w q' = false))
    (fun s => ((w.length : Int) + 1 - s.1).toNat) ⟨by simp, by simp only; omega, by simp, fun q hq => by simp at hq, fun _ q' hq' => ?_⟩ ?_
  · simp only at hq'
    cases hb : perB w q' with
    | false => rfl
    | true => have := perB_iff.1 hb; omega
  rintro ⟨p, out⟩ ⟨h0, h1, h2, h3, h4⟩ X hX
  simp only at h0 h1 h2 h3 h4 ⊢
  unfold VC26_l1 VC26_k1 VC26_k2
  refine ⟨fun hb => ?_, fun hb => ?_⟩
  · simp only [decide_eq_true_eq] at hb
    refine VC39_of (by omega) ⟨fun hp => ⟨?_, ⟨by omega, by omega⟩, hX _ ⟨by simp only; omega, by simp only; omega, by simp; omega, fun q hq => ?_, fun e => ?_⟩ (by simp only; omega)⟩, fun hp => ⟨⟨by omega, by omega⟩, hX _ ⟨by simp only; omega, by simp only; omega, by simp only; omega, h3, fun e q' hq' => ?_⟩ (by simp only; omega)⟩⟩
    · simp only [roomN, List.length_singleton]; omega
    · simp only at hq
      cases out with
      | nil =>
        simp at hq
        subst hq
        refine ⟨hp, fun q' hq' => ?_⟩
        by_cases hlt : q' < p
        · have := h4 rfl q' hlt
          rw [this] at hq'
          cases hq'
        · omega
      | cons a out => exact h3 q (by simpa using hq)
    · simp at e
    · simp only at hq' e
      by_cases hlt : q' < p
      · exact h4 e q' hlt
      · have : q' = p := by omega
        subst this
        exact hp
  · simp only [decide_eq_false_iff_not] at hb
    refine h out h3 fun e q' => ?_
    by_cases hlt : q' < p
    · exact h4 e q' hlt
    · cases hb2 : perB w q' with
      | false => rfl
      | true => have := perB_iff.1 hb2; omega

theorem bd_per {w : List Int} {m b : Nat} (hm : m ≤ w.length) (hb : b < m) : Bd (fun i => w[i]?) m b ↔ perB (w.take m) ((m : Int) - (b : Int)) = true := by
  rw [perB_iff, List.length_take, Nat.min_eq_left hm, show ((m : Int) - (b : Int)).toNat = m - b by omega]
  constructor
  · rintro ⟨_, h⟩
    refine ⟨by omega, by omega, fun t ht => ?_⟩
    simp only [List.getElem?_take]
    rw [if_pos (by omega), if_pos (by omega)]
    have := h t (by omega)
    simp only at this
    rw [this, Nat.add_comm]
  · rintro ⟨_, _, h⟩
    refine ⟨hb, fun t ht => ?_⟩
    have := h t (by omega)
    simp only [List.getElem?_take] at this
    rw [if_pos (by omega), if_pos (by omega)] at this
    simp only
    rw [this, Nat.add_comm]

theorem borderPeriods (w : List Int) : VC8 w (fun b => b = true) := by
  unfold VC8 VC25
  refine VC38_of (by simp) ?_
  by_cases hl : 60 < w.length
  · have : longB [w] = true := by simp [longB, hl]
    rw [this]
    simp only [if_true]
    refine ⟨fun _ => VC16_of (by simp) ?_, fun e => by simp at e⟩
    rw [this]
    simp
  have hlong : longB [w] = false := by simp [longB, hl]
  rw [hlong]
  simp only [Bool.false_eq_true, if_false]
  refine ⟨fun e => by simp at e, fun _ => VC42_of (by omega) fun bs hlen hbs => VC16_of (by simp) ?_⟩
  rw [hlong]
  simp only [hlen, decide_true, Bool.not_true, Bool.or_self]
  refine ⟨fun e => (by cases e), fun _ => ⟨fun e => (by cases e), fun _ => ?_⟩⟩
  refine Loop.by (fun i : Int => 1 ≤ i ∧ i ≤ (w.length : Int) + 1) (fun i => ((w.length : Int) + 1 - i).toNat) ⟨by omega, by omega⟩ ?_
  rintro i ⟨h0, h1⟩ X hX
  unfold VC8_l1 VC8_k1
  refine ⟨fun hb => ?_, fun _ => rfl⟩
  simp only [decide_eq_true_eq] at hb
  refine ⟨⟨by omega, hb⟩, VC26_of (by simp; omega) fun ps hp1 hp2 => ?_⟩
  obtain ⟨k, e1, e2, e3⟩ := hbs i.toNat (by omega) (by omega)
  have hki := e2.1
  have hper := (bd_per (by omega) hki).1 e2
  cases ps with
  | nil =>
    have := hp2 rfl ((i.toNat : Int) - (k : Int))
    rw [this] at hper
    cases hper
  | cons q ps =>
    obtain ⟨g1, g2⟩ := hp1 q rfl
    have gk : bs.getD (i - 1).toNat 0 = (k : Int) := by
      rw [show (i - 1).toNat = i.toNat - 1 by omega]
      exact getD_of_some' e1
    have hq : q = i - (k : Int) := by
      have l1 := g2 _ hper
      have g3 := perB_iff.1 g1
      rw [List.length_take, Nat.min_eq_left (by omega)] at g3
      have hbd := (bd_per (w := w) (m := i.toNat) (b := i.toNat - q.toNat) (by omega) (by omega)).2 (by
        rw [show ((i.toNat : Int) - ((i.toNat - q.toNat : Nat) : Int)) = q by omega]
        exact g1)
      have := e3 _ hbd
      omega
    refine ⟨fun _ => ⟨by omega, by simp⟩, fun _ => ⟨by omega, by omega⟩, fun _ => ⟨by omega, by simp only; omega⟩, fun _ => ?_, fun hc => ?_, fun _ => ⟨⟨by omega, by omega⟩, hX _ ⟨by omega, by omega⟩ (by omega)⟩⟩
    · simp only [gk]
      exact ⟨by omega, by omega⟩
    · exfalso
      simp only [gk] at hc
      simp [hq] at hc
      omega
end Dec
