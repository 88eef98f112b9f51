/-
  Plain contracts of the small functions: Large, long, period, Root, Bytes, Borders.
-/
import Derived.Test.YtjjlefbbdnfjiaaGenLb
import Derived.Test.YtjjlefbbdnfjiaaLyn
import Derived.Test.YtjjlefbbdnfjiaaLib
set_option linter.unusedSimpArgs false
set_option linter.unusedVariables false
namespace Dec
open Go Go.Proofs Fine

def longB (words : List (List Int)) : Bool := words.any fun x => decide (60 < x.length)

theorem getD_eq {α : Type} {l : List α} {i : Nat} {d : α} (h : i < l.length) : l.getD i d = l[i] := by simp [List.getD, h]

theorem any_of_get {words : List (List Int)} {i : Nat} (hi : i < words.length) (h : 60 < (words.getD i []).length) : longB words = true := by
  rw [getD_eq hi] at h
  simp only [longB, List.any_eq_true]
  exact ⟨words[i], List.getElem_mem hi, by simpa using h⟩

theorem not_any_of_get {words : List (List Int)} (h : ∀ i, i < words.length → ¬ 60 < (words.getD i []).length) : longB words = false := by
  simp only [longB, List.any_eq_false]
  intro x hx
  obtain ⟨i, hi, rfl⟩ := List.getElem_of_mem hx
  have := h i hi
  rw [getD_eq hi] at this
  simpa using this

theorem VC38_of {words : List (List Int)} (hl : words.length ≤ 1000000) {K : Int → Prop} (h : K (if longB words then 1 else 0)) : VC38 words K := by
  unfold VC38
  refine Loop.by (fun v : Int => 0 ≤ v ∧ v ≤ (words.length : Int) ∧ ∀ i : Nat, (i : Int) < v → ¬ 60 < (words.getD i []).length) (fun v : Int => ((words.length : Int) - v).toNat) ⟨by omega, by omega, fun i hi => by omega⟩ ?_
  rintro v ⟨h0, h1, h2⟩ X hX
  unfold VC38_l1 VC38_k1
  refine ⟨fun hb => ?_, fun hb => ?_⟩
  · simp only [decide_eq_true_eq] at hb
    refine ⟨⟨h0, hb⟩, fun hc => ?_, fun hc => ⟨⟨by omega, by omega⟩, hX _ ⟨by omega, by omega, fun i hi => ?_⟩ (by omega)⟩⟩
    · simp only [decide_eq_true_eq] at hc
      rw [if_pos (any_of_get (i := v.toNat) (by omega) (by omega))] at h
      exact h
    · simp only [decide_eq_false_iff_not] at hc
      by_cases e : (i : Int) < v
      · exact h2 i e
      · have : i = v.toNat := by omega
        subst this
        omega
  · simp only [decide_eq_false_iff_not] at hb
    rw [not_any_of_get (fun i hi => h2 i (by omega))] at h
    exact h

theorem VC16_of {words : List (List Int)} (hl : words.length ≤ 1000000) {K : Bool → Prop} (h : K (longB words)) : VC16 words K := by
  unfold VC16
  refine Loop.by (fun v : Int => 0 ≤ v ∧ v ≤ (words.length : Int) ∧ ∀ i : Nat, (i : Int) < v → ¬ 60 < (words.getD i []).length) (fun v : Int => ((words.length : Int) - v).toNat) ⟨by omega, by omega, fun i hi => by omega⟩ ?_
  rintro v ⟨h0, h1, h2⟩ X hX
  unfold VC16_l1 VC16_k1
  refine ⟨fun hb => ?_, fun hb => ?_⟩
  · simp only [decide_eq_true_eq] at hb
    refine ⟨⟨h0, hb⟩, fun hc => ?_, fun hc => ⟨⟨by omega, by omega⟩, hX _ ⟨by omega, by omega, fun i hi => ?_⟩ (by omega)⟩⟩
    · simp only [decide_eq_true_eq] at hc
      rw [any_of_get (i := v.toNat) (by omega) (by omega)] at h
      exact h
    · simp only [decide_eq_false_iff_not] at hc
      by_cases e : (i : Int) < v
      · exact h2 i e
      · have : i = v.toNat := by omega
        subst this
        omega
  · simp only [decide_eq_false_iff_not] at hb
    rw [not_any_of_get (fun i hi => h2 i (by omega))] at h
    exact h

def perB (w : List Int) (p : Int) : Bool := decide (1 ≤ p) && decide (p ≤ w.length) && decide (w.drop p.toNat = w.take (w.length - p.toNat))

theorem VC39_of {w : List Int} (hl : w.length ≤ 1000000) {p : Int} {K : Bool → Prop} (h : K (perB w p)) : VC39 w p K := by
  unfold VC39 VC40
  by_cases hb : (decide ((1 : Int) ≤ p) && decide (p ≤ (w.length : Int))) = true
  · simp only [Bool.and_eq_true, decide_eq_true_eq] at hb
    have e : ((w.length : Int) - p).toNat = w.length - p.toNat := by omega
    refine ⟨fun _ => ⟨by omega, by omega⟩, fun _ => ⟨by omega, by omega⟩, fun _ => ⟨by omega, by omega⟩, ?_⟩
    rw [e]
    unfold gcall
    rw [if_pos (by simpa using hb)]
    exact h
  · have hb' := Bool.eq_false_iff.2 hb
    refine ⟨fun e => absurd e hb, fun e => absurd e hb, fun e => absurd e hb, ?_⟩
    unfold gcall
    rw [if_neg hb]
    simp only [perB, hb', Bool.false_and] at h ⊢
    exact h

theorem perB_iff {w : List Int} {p : Int} : perB w p = true ↔ 1 ≤ p ∧ p ≤ w.length ∧ Fine.Per (fun i => w[i]?) w.length p.toNat := by
  simp only [perB, Bool.and_eq_true, decide_eq_true_eq]
  constructor
  · rintro ⟨⟨h1, h2⟩, h3⟩
    exact ⟨h1, h2, (Fine.per_iff w _ (by omega)).1 h3⟩
  · rintro ⟨h1, h2, h3⟩
    exact ⟨⟨h1, h2⟩, (Fine.per_iff w _ (by omega)).2 h3⟩

theorem VC41_of {s : List Int} (hl : s.length ≤ 1000000) {K : List Int → Prop} (h : K s) : VC41 s K := by
  unfold VC41
  intro b hb
  refine ⟨fun e => ?_, fun _ => ⟨?_, ?_⟩⟩
  · rw [hb e] at h; exact h
  · simp only [roomN, List.length_nil]; omega
  · simpa using h

abbrev PerL (w : List Int) (p : Nat) : Prop := Per (fun i => w[i]?) w.length p

theorem perB_nat {w : List Int} {p : Nat} (h1 : 1 ≤ p) (h2 : p ≤ w.length) : perB w (p : Int) = true ↔ PerL w p := by
  rw [perB_iff]
  constructor
  · rintro ⟨_, _, h⟩; exact h
  · intro h; exact ⟨by omega, by omega, h⟩

theorem VC24_of {w : List Int} (hl : w.length ≤ 60) {K : List Int × Int × Int → Prop} (hnil : w.length = 0 → K ([], 0, 0))
    (h : ∀ p : Nat, 1 ≤ p → p ≤ w.length → p ∣ w.length → PerL w p → (∀ q, 1 ≤ q → q < p → q ∣ w.length → ¬ PerL w q) → K (w.take p, ((w.length / p : Nat) : Int), 0)) : VC24 w K := by
  unfold VC24
  refine VC38_of (by simp) ?_
  have : longB [w] = false := by simp [longB]; omega
  rw [this]
  simp only [Bool.false_eq_true, if_false]
  refine ⟨fun e => by simp at e, fun _ => ?_⟩
  refine Loop.by (fun p : Int => 1 ≤ p ∧ p ≤ (w.length : Int) + 1 ∧ ∀ q : Nat, 1 ≤ q → (q : Int) < p → q ∣ w.length → ¬ PerL w q) (fun p => ((w.length : Int) + 1 - p).toNat) ⟨by omega, by omega, fun q h1 h2 => by omega⟩ ?_
  rintro p ⟨h0, h1, h2⟩ X hX
  unfold VC24_l1 VC24_k1
  obtain ⟨n, rfl⟩ : ∃ n : Nat, p = (n : Int) := ⟨p.toNat, by omega⟩
  have hmod : ((w.length : Int) % (n : Int) = 0) ↔ n ∣ w.length := by
    rw [← Int.natCast_emod]
    constructor
    · intro e; exact Nat.dvd_of_mod_eq_zero (by omega)
    · intro e; have := Nat.mod_eq_zero_of_dvd e; omega
  refine ⟨fun hb => ?_, fun hb => ?_⟩
  · simp only [decide_eq_true_eq] at hb
    refine ⟨⟨by omega, by omega⟩, ?_⟩
    have next : ¬ (n ∣ w.length ∧ PerL w n) → (InR ((n : Int) + (1 : Int)) ∧ X ((n : Int) + (1 : Int))) := by
      intro hn
      refine ⟨⟨by omega, by omega⟩, hX _ ⟨by omega, by omega, fun q hq1 hq2 hq3 hq4 => ?_⟩ (by omega)⟩
      by_cases hlt : (q : Int) < (n : Int)
      · exact h2 q hq1 hlt hq3 hq4
      · have : q = n := by omega
        subst this
        exact hn ⟨hq3, hq4⟩
    by_cases hd : n ∣ w.length
    · have e1 : decide ((w.length : Int) % (n : Int) = 0) = true := decide_eq_true (hmod.2 hd)
      rw [e1]
      unfold gcall
      rw [if_pos rfl]
      refine VC39_of (by omega) ?_
      simp only [Bool.true_and]
      refine ⟨fun hp => ⟨⟨by omega, hb⟩, ⟨by omega, by omega⟩, VC41_of (by simp; omega) ?_⟩, fun hp => next fun hh => ?_⟩
      · have := h n (by omega) (by omega) hd ((perB_nat (by omega) (by omega)).1 hp) (fun q hq1 hq2 => h2 q hq1 (by omega))
        rw [show ((w.length : Int) / (n : Int)) = ((w.length / n : Nat) : Int) from (Int.natCast_ediv _ _).symm]
        simpa using this
      · rw [(perB_nat (by omega) (by omega)).2 hh.2] at hp
        cases hp
    · have e1 : decide ((w.length : Int) % (n : Int) = 0) = false := decide_eq_false (fun e => hd (hmod.1 e))
      rw [e1]
      unfold gcall
      rw [if_neg (by decide)]
      exact ⟨fun e => (by cases e), fun _ => next fun hh => hd hh.1⟩
  · simp only [decide_eq_false_iff_not] at hb
    refine hnil (Nat.eq_zero_of_not_pos fun hpos => ?_)
    exact h2 w.length (by omega) (by omega) (Nat.dvd_refl _) (fun i hi => by omega)

theorem VC21_of {a b : List Int} (hl : a.length ≤ 1000000) {K : Bool → Prop} (h : K (decide (a = b))) : VC21 a b K := by
  unfold VC21
  by_cases hlen : a.length = b.length
  · refine ⟨fun e => by simp [hlen] at e, fun _ => ?_⟩
    refine Loop.by (fun v : Int => 0 ≤ v ∧ v ≤ (a.length : Int) ∧ ∀ i : Nat, (i : Int) < v → a[i]? = b[i]?) (fun v => ((a.length : Int) - v).toNat) ⟨by omega, by omega, fun i hi => by omega⟩ ?_
    rintro v ⟨h0, h1, h2⟩ X hX
    unfold VC21_l1 VC21_k1
    refine ⟨fun hb => ?_, fun hb => ?_⟩
    · simp only [decide_eq_true_eq] at hb
      have hga : a[v.toNat]? = some (a.getD v.toNat 0) := by rw [getD_eq (show v.toNat < a.length by omega)]; exact List.getElem?_eq_getElem _
      have hgb : b[v.toNat]? = some (b.getD v.toNat 0) := by rw [getD_eq (show v.toNat < b.length by omega)]; exact List.getElem?_eq_getElem _
      refine ⟨⟨h0, hb⟩, ⟨h0, by omega⟩, fun hc => ?_, fun hc => ⟨⟨by omega, by omega⟩, hX _ ⟨by omega, by omega, fun i hi => ?_⟩ (by omega)⟩⟩
      · simp only [Bool.not_eq_true', decide_eq_false_iff_not] at hc
        have hne : ¬ a = b := fun e => hc (by rw [e])
        rw [decide_eq_false hne] at h
        exact h
      · simp only [Bool.not_eq_false', decide_eq_true_eq] at hc
        by_cases e : (i : Int) < v
        · exact h2 i e
        · have : i = v.toNat := by omega
          subst this
          rw [hga, hgb, hc]
    · simp only [decide_eq_false_iff_not] at hb
      have heq : a = b := by
        apply List.ext_getElem?
        intro i
        by_cases hi : i < a.length
        · exact h2 i (by omega)
        · rw [List.getElem?_eq_none (by omega), List.getElem?_eq_none (by omega)]
      rw [decide_eq_true heq] at h
      exact h
  · have hne : ¬ a = b := fun e => hlen (by rw [e])
    rw [decide_eq_false hne] at h
    refine ⟨fun _ => h, fun e => ?_⟩
    simp only [Bool.not_eq_false', decide_eq_true_eq] at e
    omega

/-- the first b letters are the last b of the first m -/
def Bd {α : Type} (f : Nat → α) (m b : Nat) : Prop := b < m ∧ ∀ t, t < b → f t = f (m - b + t)

def LB {α : Type} (f : Nat → α) (m k : Nat) : Prop := Bd f m k ∧ ∀ b, Bd f m b → b ≤ k

theorem Bd.trans {α : Type} {f : Nat → α} {i k b : Nat} (h1 : Bd f i k) (h2 : Bd f k b) : Bd f i b := by
  have e1 := h1.1
  have e2 := h2.1
  refine ⟨by omega, fun t ht => ?_⟩
  rw [h2.2 t ht, h1.2 (k - b + t) (by omega)]
  congr 1
  omega

theorem Bd.inner {α : Type} {f : Nat → α} {i k b : Nat} (h1 : Bd f i k) (h2 : Bd f i b) (hb : b < k) : Bd f k b := by
  have e1 := h1.1
  refine ⟨hb, fun t ht => ?_⟩
  rw [h2.2 t ht, h1.2 (k - b + t) (by omega)]
  congr 1
  omega

theorem Bd.pred {α : Type} {f : Nat → α} {i b : Nat} (h : Bd f (i + 1) (b + 1)) : Bd f i b ∧ f b = f i := by
  have e1 := h.1
  refine ⟨⟨by omega, fun t ht => ?_⟩, ?_⟩
  · rw [h.2 t (by omega)]
    congr 1
    omega
  · rw [h.2 b (by omega)]
    congr 1
    omega

theorem Bd.succ {α : Type} {f : Nat → α} {i k : Nat} (h : Bd f i k) (he : f k = f i) : Bd f (i + 1) (k + 1) := by
  have e1 := h.1
  refine ⟨by omega, fun t ht => ?_⟩
  by_cases htk : t < k
  · rw [h.2 t htk]
    congr 1
    omega
  · have : t = k := by omega
    subst this
    rw [he]
    congr 1
    omega

theorem Bd.zero {α : Type} {f : Nat → α} {m : Nat} (h : 0 < m) : Bd f m 0 := ⟨h, fun t ht => by omega⟩

theorem getD_of_some' {l : List Int} {i : Nat} {x : Int} (h : l[i]? = some x) : l.getD i 0 = x := by simp [List.getD, h]

theorem getD_iff {w : List Int} {a b : Nat} (ha : a < w.length) (hb : b < w.length) : w.getD a 0 = w.getD b 0 ↔ w[a]? = w[b]? := by
  rw [getD_eq ha, getD_eq hb, List.getElem?_eq_getElem ha, List.getElem?_eq_getElem hb, Option.some.injEq]

theorem VC42_of {w : List Int} (hl : w.length ≤ 1000000) {K : List Int → Prop}
    (h : ∀ out : List Int, out.length = w.length → (∀ m, 1 ≤ m → m ≤ w.length → ∃ k : Nat, out[m - 1]? = some (k : Int) ∧ LB (fun i => w[i]?) m k) → K out) : VC42 w K := by
  unfold VC42
  refine ⟨⟨by omega, by omega⟩, ?_⟩
  refine Loop.by (fun s : Int × Int × List Int => 1 ≤ s.2.1 ∧ s.2.2.length = w.length ∧ (∀ m : Nat, 1 ≤ m → (m : Int) ≤ s.2.1 → m ≤ w.length → ∃ k : Nat, s.2.2[m - 1]? = some (k : Int) ∧ LB (fun i => w[i]?) m k) ∧
      (s.2.1 ≤ (w.length : Int) → ∃ k : Nat, s.1 = (k : Int) ∧ LB (fun i => w[i]?) s.2.1.toNat k))
    (fun s => ((w.length : Int) - s.2.1).toNat) ⟨by simp, by simp, fun m hm hm1 hm2 => ?_, fun _ => ⟨0, rfl, Bd.zero (by simp), fun b hb => by have := hb.1; simp at this; omega⟩⟩ ?_
  · simp only at hm1
    have : m = 1 := by omega
    subst this
    exact ⟨0, by simp only [Nat.sub_self]; rw [List.getElem?_replicate, if_pos (by omega)]; rfl, Bd.zero (by omega), fun b hb => by have := hb.1; omega⟩
  rintro ⟨k, i, out⟩ ⟨h1, h2, h3, h4⟩ X hX
  simp only at h1 h2 h3 h4 ⊢
  unfold VC42_l1 VC42_k1
  refine ⟨fun hb => ?_, fun hb => ?_⟩
  · simp only [decide_eq_true_eq] at hb
    obtain ⟨k0, rfl, hk0⟩ := h4 (by omega)
    refine Loop.by (fun k : Int => ∃ n : Nat, k = (n : Int) ∧ Bd (fun i => w[i]?) i.toNat n ∧ ∀ b, Bd (fun i => w[i]?) (i.toNat + 1) (b + 1) → b ≤ n) (fun k => k.toNat) ⟨k0, rfl, hk0.1, fun b hb => hk0.2 b hb.pred.1⟩ ?_
    rintro k ⟨n, rfl, hn, hmax⟩ Y hY
    have hni := hn.1
    unfold VC42_l2 VC42_k2 VC42_k3
    have tn : ((n : Int)).toNat = n := by omega
    have hfin : ∀ m : Nat, LB (fun i => w[i]?) (i.toNat + 1) m → (inIdx i out.length ∧ (InR (i + (1 : Int)) ∧ X ((m : Int), (i + (1 : Int)), (out.set ((i).toNat) (m : Int))))) := by
      intro m hm
      refine ⟨⟨by omega, by omega⟩, ⟨by omega, by omega⟩, hX _ ⟨by simp only; omega, by simpa using h2, fun j hj hj1 hj2 => ?_, fun _ => ⟨m, rfl, ?_⟩⟩ (by simp only; omega)⟩
      · simp only at hj1 ⊢
        by_cases hji : (j : Int) ≤ i
        · rw [List.getElem?_set_ne (by omega)]
          exact h3 j hj hji hj2
        · have : j = i.toNat + 1 := by omega
          subst this
          refine ⟨m, ?_, hm⟩
          rw [Nat.add_sub_cancel, List.getElem?_set_self (by omega)]
      · simp only
        rw [show (i + 1).toNat = i.toNat + 1 by omega]
        exact hm
    refine ⟨fun _ => ⟨by omega, by omega⟩, fun _ => ⟨by omega, by omega⟩, fun hc => ?_, fun hc => ?_⟩
    · simp only [Bool.and_eq_true, decide_eq_true_eq, Bool.not_eq_true', decide_eq_false_iff_not, tn] at hc
      obtain ⟨hc1, hc2⟩ := hc
      rw [getD_iff (by omega) (by omega)] at hc2
      obtain ⟨k', e1, e2⟩ := h3 n (by omega) (by omega) (by omega)
      rw [show ((n : Int) - 1).toNat = n - 1 by omega, getD_of_some' e1]
      refine ⟨⟨by omega, by omega⟩, ⟨by omega, by omega⟩, hY _ ⟨k', rfl, hn.trans e2.1, fun b hb => ?_⟩ ?_⟩
      · have hb1 := hmax b hb
        obtain ⟨hb2, hb3⟩ := hb.pred
        have hne : b ≠ n := by
          intro e
          subst e
          exact hc2 hb3
        exact e2.2 b (hn.inner hb2 (by omega))
      · have := e2.1.1
        omega
    · refine ⟨⟨by omega, by omega⟩, ⟨by omega, by omega⟩, fun he => ?_, fun he => ?_⟩
      · simp only [decide_eq_true_eq, tn] at he
        rw [getD_iff (by omega) (by omega)] at he
        refine ⟨⟨by omega, by omega⟩, ?_⟩
        have := hfin (n + 1) ⟨hn.succ he, fun b hb => by
          cases b with
          | zero => omega
          | succ b => have := hmax b hb; omega⟩
        simpa using this
      · simp only [decide_eq_false_iff_not, tn] at he
        simp only [Bool.and_eq_false_iff, decide_eq_false_iff_not, Bool.not_eq_false', decide_eq_true_eq, tn] at hc
        have hn0 : n = 0 := by
          rcases hc with hc | hc
          · omega
          · exact absurd hc he
        subst hn0
        rw [getD_iff (by omega) (by omega)] at he
        exact hfin 0 ⟨Bd.zero (by omega), fun b hb => by
          cases b with
          | zero => omega
          | succ b =>
            have h5 := hmax b hb
            have : b = 0 := by omega
            subst this
            exact absurd hb.pred.2 he⟩
  · simp only [decide_eq_false_iff_not] at hb
    exact h out h2 fun m hm hm2 => h3 m hm (by omega) hm2

end Dec
