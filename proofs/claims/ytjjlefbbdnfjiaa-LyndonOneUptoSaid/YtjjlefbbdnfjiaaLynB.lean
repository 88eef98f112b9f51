/-
  Plain contracts of the Lyndon functions: Is, Parts, Turn, and of Less, Low, Join, Turned, Concat, Meet.
-/
import Derived.Test.YtjjlefbbdnfjiaaLynA
set_option linter.unusedSimpArgs false
set_option linter.unusedVariables false
namespace Dec
open Go Go.Proofs Fine Lyn

theorem cmpL_lt : ∀ {a b : List Int}, cmpL a b < 0 ↔ LtL a b
  | [], [] => by simp [cmpL, LtL]
  | [], _ :: _ => by simp [cmpL, LtL]
  | _ :: _, [] => by simp [cmpL, LtL]
  | x :: a, y :: b => by
    simp only [cmpL, LtL]
    by_cases h : x < y
    · simp [h]
    · by_cases h2 : y < x
      · rw [if_neg h, if_pos h2]
        simp only [h, false_or]
        constructor
        · intro h3; omega
        · rintro ⟨h3, _⟩; omega
      · rw [if_neg h, if_neg h2, cmpL_lt]
        have : x = y := by omega
        simp [this]

instance decLt (a b : List Int) : Decidable (LtL a b) := decidable_of_iff _ cmpL_lt

theorem cmpL_ge {a b : List Int} : 0 ≤ cmpL a b ↔ ¬ LtL a b := by rw [← cmpL_lt]; omega

/-- is it a Lyndon word? -/
def LynB (w : List Int) : Prop := w ≠ [] ∧ ∀ d, 1 ≤ d → d < w.length → LtL w (w.drop d)

theorem lynB_iff {w : List Int} : LynB w ↔ Lyn w := by
  constructor
  · rintro ⟨h1, h2⟩
    refine ⟨h1, fun p s e hp hs => ?_⟩
    have hp1 := len_pos hp
    have hs1 := len_pos hs
    have := h2 p.length hp1 (by rw [e, List.length_append]; omega)
    rw [e, List.drop_left] at this
    rw [e]; exact this
  · rintro ⟨h1, h2⟩
    exact ⟨h1, fun d hd hdl => h2 (w.take d) (w.drop d) (List.take_append_drop d w).symm (fun e => by have := congrArg List.length e; rw [List.length_take] at this; simp only [List.length_nil] at this; omega) (fun e => by have := congrArg List.length e; rw [List.length_drop] at this; simp only [List.length_nil] at this; omega)⟩

theorem VC27_of {w : List Int} (hl : w.length ≤ 60) {K : Bool × Int → Prop} (h : ∀ b : Bool, (b = true ↔ Lyn w) → K (b, 0)) : VC27 w K := by
  unfold VC27
  refine VC38_of (by simp) ?_
  have : longB [w] = false := by simp [longB]; omega
  rw [this]
  simp only [Bool.false_eq_true, if_false]
  refine ⟨fun e => by simp at e, fun _ => ?_⟩
  refine Loop.by (fun i : Int => 1 ≤ i ∧ ∀ d : Nat, 1 ≤ d → (d : Int) < i → d < w.length → LtL w (w.drop d)) (fun i => ((w.length : Int) - i).toNat) ⟨by omega, fun d h1 h2 => by omega⟩ ?_
  rintro i ⟨h0, h1⟩ X hX
  unfold VC27_l1 VC27_k1 VC43
  refine ⟨fun hb => ?_, fun hb => ?_⟩
  · simp only [decide_eq_true_eq] at hb
    refine ⟨⟨by omega, by omega⟩, fun hc => ?_, fun hc => ⟨⟨by omega, by omega⟩, hX _ ⟨by omega, fun d hd1 hd2 hd3 => ?_⟩ (by omega)⟩⟩
    · simp only [decide_eq_true_eq, cmpL_ge] at hc
      refine h false ⟨fun e => (by cases e), fun hL => ?_⟩
      exact absurd ((lynB_iff.2 hL).2 i.toNat (by omega) (by omega)) hc
    · simp only [decide_eq_false_iff_not, cmpL_ge, Decidable.not_not] at hc
      by_cases e : (d : Int) < i
      · exact h1 d hd1 e hd3
      · have : d = i.toNat := by omega
        rw [this]; exact hc
  · simp only [decide_eq_false_iff_not] at hb
    refine h _ ?_
    simp only [decide_eq_true_eq]
    rw [← lynB_iff]
    constructor
    · intro hp
      exact ⟨fun e => by rw [e] at hp; simp at hp, fun d hd1 hd2 => h1 d hd1 (by omega) hd2⟩
    · intro hL
      have := len_pos hL.1
      omega

theorem VC27_long {w : List Int} (hl : 60 < w.length) {K : Bool × Int → Prop} (h : K (false, 1)) : VC27 w K := by
  unfold VC27
  refine VC38_of (by simp) ?_
  have : longB [w] = true := by simp [longB, hl]
  rw [this]
  exact ⟨fun _ => h, fun e => by simp at e⟩

theorem VC29_of {a b : List Int} (hl : a.length ≤ 4611686018427387904) {K : Bool → Prop} (h : K (decide (LtL a b))) : VC29 a b K := by
  unfold VC29
  refine loop_count (min a.length b.length) (fun i => ∀ s, s < i → a.getD s 0 = b.getD s 0) (by intro s hs; omega) ?_
  intro i hi hP X hX
  unfold VC29_l1 VC29_k1
  refine ⟨fun hb => ?_, fun hb => ?_⟩
  · simp only [Bool.and_eq_true, decide_eq_true_eq] at hb
    simp only [Int.toNat_natCast]
    refine ⟨⟨by omega, by omega⟩, ⟨by omega, by omega⟩, fun hc => ⟨⟨by omega, by omega⟩, ⟨by omega, by omega⟩, ?_⟩, fun hc => ⟨⟨by omega, by omega⟩, hX (by omega) fun s hs => ?_⟩⟩
    · simp only [Bool.not_eq_true', decide_eq_false_iff_not] at hc
      by_cases hlt : a.getD i 0 < b.getD i 0
      · have : LtL a b := SL_lt ⟨i, by omega, by omega, hlt, hP⟩
        rw [decide_eq_true this] at h
        rw [decide_eq_true hlt]
        exact h
      · have : LtL b a := SL_lt ⟨i, by omega, by omega, by omega, fun s hs => (hP s hs).symm⟩
        rw [decide_eq_false (LtL_asymm this)] at h
        rw [decide_eq_false hlt]
        exact h
    · simp only [Bool.not_eq_false', decide_eq_true_eq] at hc
      by_cases e : s < i
      · exact hP s e
      · have : s = i := by omega
        subst this; exact hc
  · simp only [Bool.and_eq_false_iff, decide_eq_false_iff_not] at hb
    have hi2 : i = min a.length b.length := by omega
    by_cases hlt : a.length < b.length
    · have e : b = a ++ b.drop a.length := by
        conv => lhs; rw [← List.take_append_drop a.length b]
        congr 1
        refine ext_getD 0 (by simp; omega) fun s hs => ?_
        rw [List.length_take] at hs
        have := hP s (by omega)
        rw [this]
        simp only [List.getD, List.getElem?_take]
        rw [if_pos (by omega)]
      have h2 : LtL a b := by rw [e]; exact LtL_prefix (fun e => by have := congrArg List.length e; rw [List.length_drop] at this; simp only [List.length_nil] at this; omega)
      rw [decide_eq_true h2] at h
      rw [decide_eq_true (by omega)]
      exact h
    · have e : a = b ++ a.drop b.length := by
        conv => lhs; rw [← List.take_append_drop b.length a]
        congr 1
        refine ext_getD 0 (by simp; omega) fun s hs => ?_
        rw [List.length_take] at hs
        have := hP s (by omega)
        rw [← this]
        simp only [List.getD, List.getElem?_take]
        rw [if_pos (by omega)]
      have h2 : ¬ LtL a b := by rw [e]; exact not_lt_prefix
      rw [decide_eq_false h2] at h
      rw [decide_eq_false (by omega)]
      exact h

theorem VC28_of {w : List Int} (hl : w.length ≤ 4611686018427387904) {K : Bool → Prop} (h : ∀ b : Bool, (b = true ↔ Lyn w) → K b) : VC28 w K := by
  unfold VC28
  refine Loop.by (fun i : Int => 1 ≤ i ∧ ∀ d : Nat, 1 ≤ d → (d : Int) < i → d < w.length → LtL w (w.drop d)) (fun i => ((w.length : Int) - i).toNat) ⟨by omega, fun d h1 h2 => by omega⟩ ?_
  rintro i ⟨h0, h1⟩ X hX
  unfold VC28_l1 VC28_k1
  refine ⟨fun hb => ?_, fun hb => ?_⟩
  · simp only [decide_eq_true_eq] at hb
    refine ⟨⟨by omega, by omega⟩, VC29_of hl ⟨fun hc => ?_, fun hc => ⟨⟨by omega, by omega⟩, hX _ ⟨by omega, fun d hd1 hd2 hd3 => ?_⟩ (by omega)⟩⟩⟩
    · simp only [Bool.not_eq_true', decide_eq_false_iff_not] at hc
      refine h false ⟨fun e => (by cases e), fun hL => ?_⟩
      exact absurd ((lynB_iff.2 hL).2 i.toNat (by omega) (by omega)) hc
    · simp only [Bool.not_eq_false', decide_eq_true_eq] at hc
      by_cases e : (d : Int) < i
      · exact h1 d hd1 e hd3
      · have : d = i.toNat := by omega
        rw [this]; exact hc
  · simp only [decide_eq_false_iff_not] at hb
    refine h _ ?_
    simp only [decide_eq_true_eq]
    rw [← lynB_iff]
    constructor
    · intro hp
      exact ⟨fun e => by rw [e] at hp; simp at hp, fun d hd1 hd2 => h1 d hd1 (by omega) hd2⟩
    · intro hL
      have := len_pos hL.1
      omega

theorem VC22_of {a b : List Int} (ha : a.length ≤ 1000000) (hb : b.length ≤ 1000000) {K : List Int → Prop} (h : K (a ++ b)) : VC22 a b K := by
  unfold VC22
  refine ⟨?_, ?_, by simpa using h⟩
  · simp only [roomN, List.length_nil]; omega
  · simp only [roomN, List.length_append, List.length_nil]; omega

theorem VC33_of {w : List Int} (hw : w.length ≤ 1000000) {k : Int} (hk0 : 0 ≤ k) (hk : k ≤ w.length) {K : List Int → Prop} (h : K (rot w k.toNat)) : VC33 w k K := by
  unfold VC33
  exact ⟨⟨by omega, by omega⟩, ⟨by omega, by omega⟩, VC22_of (by simp; omega) (by simp; omega) h⟩

theorem VC48_of {n : Nat} (hn : n ≤ 1000000) {K : List Int → Prop} (h : K []) : VC48 (n : Int) K := by
  unfold VC48 VC48_k1
  refine ⟨fun e => by simp only [decide_eq_true_eq] at e; omega, fun _ => ⟨⟨by omega, by omega⟩, ⟨by omega, by omega⟩, fun hb => ?_, fun _ => h⟩⟩
  simp only [decide_eq_true_eq] at hb
  refine ⟨⟨by omega, by omega⟩, ⟨by omega, by omega⟩, ⟨by omega, by omega⟩, ?_⟩
  simpa using h

theorem VC44_of {a b : List Int} (ha : a.length ≤ 400000) (hb : b.length ≤ 400000) {K : List Int → Prop} (h : K (a ++ b)) : VC44 [a, b] K := by
  unfold VC44
  refine Loop.by (fun s : Int × Int => (s = (0, 0)) ∨ s = ((a.length : Int), 1) ∨ s = ((a.length : Int) + (b.length : Int), 2)) (fun s => (2 - s.2).toNat) (Or.inl rfl) ?_
  rintro ⟨z, i⟩ hs X hX
  unfold VC44_l2 VC44_k1
  simp only
  rcases hs with hs | hs | hs
  · obtain ⟨rfl, rfl⟩ := Prod.mk.inj hs
    refine ⟨fun _ => ⟨⟨by omega, by simp⟩, ?_⟩, fun e => by simp at e⟩
    simp only [Int.toNat_zero, List.getD_cons_zero]
    refine ⟨⟨by omega, by omega⟩, fun e => by simp only [decide_eq_true_eq] at e; omega, fun _ => ⟨⟨by omega, by omega⟩, hX _ (Or.inr (Or.inl (by simp))) (by simp only; omega)⟩⟩
  · obtain ⟨rfl, rfl⟩ := Prod.mk.inj hs
    refine ⟨fun _ => ⟨⟨by omega, by simp⟩, ?_⟩, fun e => by simp at e⟩
    simp only [Int.toNat_one, List.getD_cons_succ, List.getD_cons_zero]
    refine ⟨⟨by omega, by omega⟩, fun e => by simp only [decide_eq_true_eq] at e; omega, fun _ => ⟨⟨by omega, by omega⟩, hX _ (Or.inr (Or.inr (by simp))) (by simp only; omega)⟩⟩
  · obtain ⟨rfl, rfl⟩ := Prod.mk.inj hs
    refine ⟨fun e => by simp at e, fun _ => ?_⟩
    rw [← Int.natCast_add]
    refine VC48_of (by omega) ?_
    refine Loop.by (fun s : Int × List Int => (s = (0, [])) ∨ s = (1, a) ∨ s = (2, a ++ b)) (fun s => (2 - s.1).toNat) (Or.inl rfl) ?_
    rintro ⟨i, l⟩ hs X hX
    unfold VC44_l1 VC44_k2
    simp only
    rcases hs with hs | hs | hs
    · obtain ⟨rfl, rfl⟩ := Prod.mk.inj hs
      refine ⟨fun _ => ⟨⟨by omega, by simp⟩, ?_⟩, fun e => by simp at e⟩
      simp only [Int.toNat_zero, List.getD_cons_zero]
      refine ⟨by simp only [roomN, List.length_nil]; omega, ⟨by omega, by omega⟩, hX _ (Or.inr (Or.inl (by simp))) (by simp only; omega)⟩
    · obtain ⟨rfl, rfl⟩ := Prod.mk.inj hs
      refine ⟨fun _ => ⟨⟨by omega, by simp⟩, ?_⟩, fun e => by simp at e⟩
      simp only [Int.toNat_one, List.getD_cons_succ, List.getD_cons_zero]
      refine ⟨by simp only [roomN]; omega, ⟨by omega, by omega⟩, hX _ (Or.inr (Or.inr (by simp))) (by simp only; omega)⟩
    · obtain ⟨rfl, rfl⟩ := Prod.mk.inj hs
      exact ⟨fun e => by simp at e, fun _ => h⟩

theorem VC31_of {u v : List Int} {K : Bool × Int → Prop} (h : K (if longB [u, v] then (false, 1) else (decide (u ++ v = v ++ u), 0))) : VC31 u v K := by
  unfold VC31
  refine VC38_of (by simp) ?_
  by_cases hl : longB [u, v] = true
  · rw [if_pos hl] at h
    rw [hl]
    exact ⟨fun _ => h, fun e => by simp at e⟩
  · rw [if_neg hl] at h
    rw [Bool.eq_false_iff.2 hl]
    refine ⟨fun e => by simp at e, fun _ => ?_⟩
    simp [longB] at hl
    refine VC44_of (by omega) (by omega) (VC44_of (by omega) (by omega) ?_)
    unfold VC40
    exact h

theorem VC24_nil {K : List Int × Int × Int → Prop} (h : K ([], 0, 0)) : VC24 [] K := VC24_of (by simp) (fun _ => h) (fun p h1 h2 => by simp at h2; omega)

theorem VC24_root {w : List Int} (hl : w.length ≤ 60) (h0 : w ≠ []) {K : List Int × Int × Int → Prop} (h : ∀ p : Nat, RootLen w p → K (w.take p, ((w.length / p : Nat) : Int), 0)) : VC24 w K :=
  VC24_of hl (fun e => absurd (List.length_eq_zero_iff.1 e) h0) (fun p h1 h2 h3 h4 h5 => h p ⟨h1, h2, h3, h4, h5⟩)

theorem powerCommutes (u v : List Int) : VC10 u v (fun b => b = true) := by
  unfold VC10
  refine VC31_of ?_
  refine VC16_of (by simp) ?_
  by_cases hl : longB [u, v] = true
  · rw [if_pos hl, hl]
    exact ⟨fun _ => by simp, fun e => by simp at e⟩
  · rw [if_neg hl, Bool.eq_false_iff.2 hl]
    refine ⟨fun e => by simp at e, fun _ => ?_⟩
    simp [longB] at hl
    by_cases hu : u = []
    · subst hu
      refine VC24_nil ?_
      by_cases hv : v = []
      · subst hv
        refine VC24_nil ?_
        simp [gcall]
      · refine VC24_root (by omega) hv fun p hp => ?_
        simp [gcall]
    · refine VC24_root (by omega) hu fun p hp => ?_
      by_cases hv : v = []
      · subst hv
        refine VC24_nil ?_
        simp [gcall]
      · refine VC24_root (by omega) hv fun q hq => ?_
        refine ⟨fun e => by simp at e, fun _ => ?_⟩
        have e1 : ¬ ((u.length : Int) = 0) := by have := len_pos hu; omega
        have e2 : ¬ ((v.length : Int) = 0) := by have := len_pos hv; omega
        rw [decide_eq_false e1, decide_eq_false e2]
        unfold gcall
        rw [if_pos (by simp)]
        refine VC21_of (by simp only [List.length_take]; omega) ?_
        have := commute_iff hp hq
        simp only [Bool.or_self, Bool.false_or, beq_iff_eq]
        exact decide_eq_decide.2 this

theorem lynJoins (u v : List Int) : VC11 u v (fun b => b = true) := by
  unfold VC11
  by_cases hu : 60 < u.length
  · refine VC27_long hu ?_
    have hl : longB [u, v] = true := by simp [longB, hu]
    by_cases hv : 60 < v.length
    · refine VC27_long hv (VC16_of (by simp) ?_)
      rw [hl]
      exact ⟨fun _ => by simp, fun e => by simp at e⟩
    · refine VC27_of (by omega) fun b hb => VC16_of (by simp) ?_
      rw [hl]
      exact ⟨fun _ => by simp, fun e => by simp at e⟩
  · refine VC27_of (by omega) fun a ha => ?_
    by_cases hv : 60 < v.length
    · refine VC27_long hv (VC16_of (by simp) ?_)
      have hl : longB [u, v] = true := by simp [longB, hv]
      rw [hl]
      exact ⟨fun _ => by simp, fun e => by simp at e⟩
    · refine VC27_of (by omega) fun b hb => VC16_of (by simp) ?_
      have hl : longB [u, v] = false := by simp [longB]; omega
      rw [hl]
      refine ⟨fun e => by simp at e, fun _ => ?_⟩
      simp only [gcall]
      rw [if_pos (by simp)]
      refine VC28_of (by omega) fun c hc => ?_
      have hac : a = c := by
        cases a <;> cases c <;> simp_all
      subst hac
      refine ⟨fun e => by simp at e, fun _ => ?_⟩
      have last : VC11_k1 u v (fun b => b = true) (a, 0) (b, 0) := by
        unfold VC11_k1
        refine VC22_of (by omega) (by omega) ?_
        by_cases huv : 60 < (u ++ v).length
        · refine VC27_long huv ?_
          simp [gcall]
        · refine VC27_of (by omega) fun d hd => ?_
          cases a with
          | false => simp [gcall]
          | true =>
            cases b with
            | false => simp [gcall]
            | true =>
              unfold gcall
              rw [if_pos (by simp)]
              refine VC29_of (by omega) ?_
              simp only [Bool.or_eq_true, Bool.not_eq_true', decide_eq_false_iff_not]
              by_cases hlt : LtL u v
              · exact Or.inr (hd.2 (lyn_join (ha.1 rfl) (hb.1 rfl) hlt))
              · simp [hlt]
      refine ⟨fun hat => ?_, fun _ => last⟩
      try simp only at hat
      subst hat
      have hL := ha.1 rfl
      have h0 := len_pos hL.1
      refine VC24_root (by omega) hL.1 fun p hp => ?_
      have hpl : p = u.length := by
        have h1 := hp.2.1
        by_cases e : p = u.length
        · exact e
        · exact absurd hp.2.2.2.1 (lyn_noper hL hp.1 (by omega))
      subst hpl
      unfold VC25
      refine VC38_of (by simp) ?_
      have hl1 : longB [u] = false := by simp [longB]; omega
      rw [hl1]
      refine ⟨fun e => by simp at e, fun _ => VC42_of (by omega) fun out hout hall => ?_⟩
      obtain ⟨k, hk, hLB⟩ := hall u.length h0 (Nat.le_refl _)
      have hk0 : k = 0 := by
        refine Decidable.byContradiction fun hne => ?_
        obtain ⟨hk1, hk2⟩ := hLB.1
        refine lyn_noper hL (p := u.length - k) (by omega) (by omega) ?_
        intro i hi
        have := hk2 i (by omega)
        simp only at this ⊢
        rw [this]
        congr 1
        omega
      subst hk0
      have hg : out.getD (u.length - 1) 0 = 0 := by simp [List.getD, hk]
      have hd : (u.length : Int) / (u.length : Int) = 1 := Int.ediv_self (by omega)
      have e1 : ((out.length : Int) - 1).toNat = u.length - 1 := by omega
      rw [Nat.div_self h0, hout]
      rw [show ((u.length : Int) - 1).toNat = u.length - 1 by omega, hg]
      refine ⟨fun _ => ⟨by omega, by omega⟩, fun _ => ⟨by omega, by omega⟩, fun e => by simp at e, fun _ => last⟩

theorem VC32_of {w : List Int} (hl : w.length ≤ 60) {K : Int × Int → Prop} (h : ∀ n : Nat, (n < w.length ∨ (n = 0 ∧ w = [])) → (∀ k, k < w.length → ¬ LtL (rot w k) (rot w n)) → K ((n : Int), 0)) : VC32 w K := by
  unfold VC32
  refine VC38_of (by simp) ?_
  have : longB [w] = false := by simp [longB]; omega
  rw [this]
  simp only [Bool.false_eq_true, if_false]
  refine ⟨fun e => by simp at e, fun _ => VC44_of (by omega) (by omega) ?_⟩
  have cut : ∀ k : Nat, k ≤ w.length → ((w ++ w).drop k).take (k + w.length - k) = rot w k := by
    intro k hk
    unfold rot
    rw [List.drop_append_of_le_length hk, Nat.add_sub_cancel_left, List.take_append]
    rw [List.take_of_length_le (by simp)]
    congr 1
    rw [List.length_drop]
    congr 1
    omega
  refine Loop.by (fun s : Int × Int => 1 ≤ s.2 ∧ ∃ n : Nat, s.1 = (n : Int) ∧ (n < w.length ∨ (n = 0 ∧ w = [])) ∧ ∀ k : Nat, (k : Int) < s.2 → k < w.length → ¬ LtL (rot w k) (rot w n)) (fun s => ((w.length : Int) - s.2).toNat) ⟨by simp, 0, rfl, ?_, fun k hk1 hk2 => ?_⟩ ?_
  · cases w with
    | nil => exact Or.inr ⟨rfl, rfl⟩
    | cons x w => exact Or.inl (by simp)
  · have : k = 0 := by simp only at hk1; omega
    subst this
    exact LtL_irrefl _
  rintro ⟨best, i⟩ ⟨h0, n, hn, h1, h2⟩ X hX
  simp only at h0 hn h2 ⊢
  subst hn
  unfold VC32_l1 VC32_k2 VC32_k1 VC43
  have hlen : (w ++ w).length = w.length + w.length := by simp
  refine ⟨fun hb => ?_, fun hb => ?_⟩
  · simp only [decide_eq_true_eq] at hb
    have hnw : n < w.length := by
      rcases h1 with h1 | ⟨_, e⟩
      · exact h1
      · rw [e] at hb; simp at hb; omega
    obtain ⟨j, rfl⟩ : ∃ j : Nat, i = (j : Int) := ⟨i.toNat, by omega⟩
    rw [hlen]
    refine ⟨⟨by omega, by omega⟩, ⟨by omega, by omega, by omega⟩, ⟨by omega, by omega⟩, ⟨by omega, by omega, by omega⟩, ?_⟩
    simp only [Int.toNat_natCast, show ((j : Int) + (w.length : Int)).toNat = j + w.length by omega, show ((n : Int) + (w.length : Int)).toNat = n + w.length by omega, cut j (by omega), cut n (by omega)]
    refine ⟨fun hc => ⟨⟨by omega, by omega⟩, hX _ ⟨by simp only; omega, j, rfl, Or.inl (by omega), fun k hk1 hk2 => ?_⟩ (by simp only; omega)⟩, fun hc => ⟨⟨by omega, by omega⟩, hX _ ⟨by simp only; omega, n, rfl, h1, fun k hk1 hk2 => ?_⟩ (by simp only; omega)⟩⟩
    · simp only [decide_eq_true_eq, cmpL_lt] at hc
      simp only at hk1
      by_cases e : k = j
      · subst e; exact LtL_irrefl _
      · intro hlt
        exact h2 k (by omega) hk2 (LtL_trans hlt hc)
    · simp only [decide_eq_false_iff_not, cmpL_lt] at hc
      simp only at hk1
      by_cases e : k = j
      · subst e; exact hc
      · exact h2 k (by omega) hk2
  · simp only [decide_eq_false_iff_not] at hb
    exact h n h1 fun k hk => h2 k (by omega) hk

theorem VC32_long {w : List Int} (hl : 60 < w.length) {K : Int × Int → Prop} (h : K (0, 1)) : VC32 w K := by
  unfold VC32
  refine VC38_of (by simp) ?_
  have : longB [w] = true := by simp [longB, hl]
  rw [this]
  exact ⟨fun _ => h, fun e => by simp at e⟩

theorem lynTurn (w : List Int) (k : Int) (hk : 0 ≤ k) : VC12 w k (fun b => b = true) := by
  unfold VC12
  by_cases hl : 60 < w.length
  · refine VC32_long hl (VC16_of (by simp) ?_)
    have : longB [w] = true := by simp [longB, hl]
    rw [this]
    exact ⟨fun _ => by simp, fun e => by simp at e⟩
  · refine VC32_of (by omega) fun n hn hmin => VC16_of (by simp) ?_
    have : longB [w] = false := by simp [longB]; omega
    rw [this]
    refine ⟨fun e => by simp at e, fun _ => ⟨fun h0 => ?_, fun h0 => ?_⟩⟩
    · simp only [decide_eq_true_eq] at h0
      have : n = 0 := by rcases hn with h | h <;> omega
      simp [this]
    · simp only [decide_eq_false_iff_not] at h0
      have hpos : 0 < w.length := by omega
      have hw0 : w ≠ [] := fun e => by rw [e] at hpos; simp at hpos
      have hnl : n < w.length := by
        rcases hn with h | ⟨_, e⟩
        · exact h
        · exact absurd e hw0
      refine ⟨⟨hk, by omega⟩, ?_⟩
      have hm0 : 0 ≤ k % (w.length : Int) := Int.emod_nonneg _ (by omega)
      have hm1 : k % (w.length : Int) < w.length := Int.emod_lt_of_pos _ (by omega)
      obtain ⟨j, hj⟩ : ∃ j : Nat, k % (w.length : Int) = (j : Int) := ⟨(k % (w.length : Int)).toNat, by omega⟩
      rw [hj] at hm0 hm1 ⊢
      refine VC33_of (by omega) (by omega) (by omega) ?_
      rw [Int.toNat_natCast]
      refine VC32_of (by rw [rot_length]; omega) fun m hm hmin2 => ?_
      have hml : m < w.length := by
        rcases hm with h | ⟨_, e⟩
        · rw [rot_length] at h; exact h
        · have := congrArg List.length e; rw [rot_length] at this; simp at this; exact absurd this hw0
      refine ⟨fun e => ?_, fun _ => ?_⟩
      · simp at e; omega
      refine VC33_of (by omega) (by omega) (by omega) ?_
      rw [Int.toNat_natCast]
      refine VC24_root (by omega) hw0 fun p hp => ?_
      refine VC27_of (by rw [rot_length]; omega) fun b hb => ?_
      simp only [gcall]
      rw [if_pos (by simp)]
      refine VC33_of (by rw [rot_length]; omega) (by omega) (by rw [rot_length]; omega) ?_
      rw [if_pos (by simp), Int.toNat_natCast]
      refine VC21_of (by rw [rot_length]; omega) ?_
      -- both are the least rotation
      have hjl : j ≤ w.length := by omega
      have e1 : rot (rot w j) m = rot w ((j + m) % w.length) := rot_rot hjl (by omega) hpos
      have e2 : rot w n = rot (rot w j) ((n + (w.length - j)) % w.length) := by
        rw [rot_rot hjl (Nat.le_of_lt (Nat.mod_lt _ hpos)) hpos, Nat.add_mod_mod, show j + (n + (w.length - j)) = n + w.length by omega, Nat.add_mod_right, Nat.mod_eq_of_lt hnl]
      have hsame : rot w n = rot (rot w j) m := by
        rcases LtL_tri (rot w n) (rot (rot w j) m) with h | h | h
        · rw [e2] at h
          exact absurd h (hmin2 _ (by rw [rot_length]; exact Nat.mod_lt _ hpos))
        · exact h
        · rw [e1] at h
          exact absurd h (hmin _ (Nat.mod_lt _ hpos))
      rw [decide_eq_true hsame]
      have hiff : Lyn (rot w n) ↔ p = w.length := by
        constructor
        · intro hL
          refine Decidable.byContradiction fun hne => ?_
          have hlt : p < w.length := by have := hp.2.1; omega
          have h1 := rot_per (Nat.le_of_lt hnl) (by have := hp.1; omega) hp.2.2.1 hp.2.2.2.1
          exact lyn_noper hL hp.1 (by rw [rot_length]; exact hlt) h1
        · intro e
          subst e
          have hprim : Prim w := fun q h1 h2 h3 h4 => hp.2.2.2.2 q h1 h2 h3 h4
          refine least_lyn (fun e => by have := congrArg List.length e; rw [rot_length] at this; simp at this; exact absurd this hw0) (prim_rot (Nat.le_of_lt hnl) hprim) fun q hq => ?_
          rw [rot_length] at hq
          rw [rot_rot (Nat.le_of_lt hnl) hq hpos]
          exact hmin _ (Nat.mod_lt _ hpos)
      have hdiv : ((w.length / p : Nat) : Int) = 1 ↔ p = w.length := by
        obtain ⟨c, hc⟩ := hp.2.2.1
        have hp1 := hp.1
        constructor
        · intro e
          have e3 : w.length / p = 1 := by omega
          rw [hc, Nat.mul_div_cancel_left _ (by omega)] at e3
          rw [hc, e3]; omega
        · intro e
          rw [← e, Nat.div_self (by omega)]; rfl
      have : b = decide (((w.length / p : Nat) : Int) = 1) := by
        rw [Bool.eq_iff_iff, hb, decide_eq_true_eq, hiff, hdiv]
      simp only [Bool.and_true, decide_true, Bool.true_and, beq_iff_eq]
      exact this
theorem lynTurn_ok (w : List Int) (k : Int) (h : Ok (.int .u8) k) : VC12 w k (fun b => b = true) := by
  have : IntKind.u8.min ≤ k ∧ k ≤ IntKind.u8.max := h
  simp [IntKind.min, IntKind.max, IntKind.signed, IntKind.bits] at this
  exact lynTurn w k (by omega)
end Dec
