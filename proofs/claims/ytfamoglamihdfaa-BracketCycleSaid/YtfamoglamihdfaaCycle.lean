/-
  'BracketCycle' in plain Lean: of all turns just one rises.
-/
import Derived.Test.YtfamoglamihdfaaLib
import Derived.Test.YtfamoglamihdfaaGenBca
set_option linter.unusedSimpArgs false
set_option linter.unusedVariables false
namespace Dec
open Go Go.Proofs

def hgt (b : Bool) : Int := if b then 1 else -1
def deep : List Bool → Int
  | [] => 0
  | b :: l => hgt b + deep l

theorem deep_append : ∀ a b : List Bool, deep (a ++ b) = deep a + deep b
  | [], b => by simp [deep]
  | x :: a, b => by simp only [List.cons_append, deep, deep_append a b]; omega

theorem deep_bound : ∀ l : List Bool, -(l.length : Int) ≤ deep l ∧ deep l ≤ (l.length : Int)
  | [] => by simp [deep]
  | x :: l => by
    have := deep_bound l
    have h2 : hgt x = 1 ∨ hgt x = -1 := by cases x <;> simp [hgt]
    simp only [deep, List.length_cons, Int.natCast_add]
    omega

theorem deep_snoc (l : List Bool) {i : Nat} (h : i < l.length) : deep (l.take (i + 1)) = deep (l.take i) + hgt (l.getD i false) := by
  rw [List.take_succ_eq_append_getElem h, deep_append, ← getD_lt false h]
  simp [deep]

def Rises (l : List Bool) : Prop := ∀ j, 1 ≤ j → j ≤ l.length → 1 ≤ deep (l.take j)

theorem take_bound (l : List Bool) (i : Nat) : -(i : Int) ≤ deep (l.take i) ∧ deep (l.take i) ≤ (i : Int) := by
  have := deep_bound (l.take i)
  rw [List.length_take] at this
  omega

theorem VC43_of {b : Bool} {K : Int → Prop} (h : K (hgt b)) : VC43 b K := by
  unfold VC43
  refine ⟨fun hb => ?_, fun hb => ?_⟩ <;> subst hb <;> exact h

open Classical in
theorem VC44_of {l : List Bool} (hl : l.length ≤ 1000000) {K : Bool → Prop} (h : K (decide (Rises l))) : VC44 l K := by
  unfold VC44
  refine loop_state' l.length (fun i => deep (l.take i)) (fun i => ∀ j, 1 ≤ j → j ≤ i → 1 ≤ deep (l.take j)) (fun j h1 h2 => absurd h1 (by omega)) ?_
  intro i hi hP X hX
  try dsimp only
  unfold VC44_l1
  have hb := take_bound l i
  refine ⟨fun hlt => ?_, fun hge => ?_⟩
  · simp only [decide_eq_true_eq] at hlt
    refine ⟨⟨by omega, by omega⟩, VC43_of ?_⟩
    have hil : i < l.length := by omega
    simp only [Int.toNat_natCast]
    simp only [← deep_snoc l hil]
    have hb2 := take_bound l (i + 1)
    refine ⟨⟨by omega, by omega⟩, fun hneg => ?_, fun hpos => ⟨⟨by omega, by omega⟩, hX hil fun j h1 h2 => ?_⟩⟩
    · simp only [decide_eq_true_eq] at hneg
      have : ¬ Rises l := fun hr => by have := hr (i + 1) (by omega) (by omega); omega
      simpa [this] using h
    · simp only [decide_eq_false_iff_not] at hpos
      by_cases hj : j ≤ i
      · exact hP j h1 hj
      · have : j = i + 1 := by omega
        subst this; omega
  · simp only [decide_eq_false_iff_not] at hge
    have : Rises l := fun j h1 h2 => hP j h1 (by omega)
    unfold VC44_k1
    simpa [this] using h

open Classical in
theorem VC22_of {l : List Bool} (hl : l.length ≤ 1000000) {K : Bool → Prop} (h : K (decide (Rises l))) : VC22 l K := by
  unfold VC22
  refine loop_state' l.length (fun i => deep (l.take i)) (fun i => ∀ j, 1 ≤ j → j ≤ i → 1 ≤ deep (l.take j)) (fun j h1 h2 => absurd h1 (by omega)) ?_
  intro i hi hP X hX
  try dsimp only
  unfold VC22_l1
  have hb := take_bound l i
  refine ⟨fun hlt => ?_, fun hge => ?_⟩
  · simp only [decide_eq_true_eq] at hlt
    refine ⟨⟨by omega, by omega⟩, ?_⟩
    have hil : i < l.length := by omega
    simp only [Int.toNat_natCast]
    have hs := deep_snoc l hil
    have step : VC22_k2 K (i : Int) X (deep (l.take (i + 1))) := by
      unfold VC22_k2
      refine ⟨fun hneg => ?_, fun hpos => ⟨⟨by omega, by omega⟩, hX hil fun j h1 h2 => ?_⟩⟩
      · simp only [decide_eq_true_eq] at hneg
        have : ¬ Rises l := fun hr => by have := hr (i + 1) (by omega) (by omega); omega
        simpa [this] using h
      · simp only [decide_eq_false_iff_not] at hpos
        by_cases hj : j ≤ i
        · exact hP j h1 hj
        · have : j = i + 1 := by omega
          subst this; omega
    refine ⟨fun ht => ⟨⟨by omega, by omega⟩, ?_⟩, fun hf => ⟨⟨by omega, by omega⟩, ?_⟩⟩
    · rw [ht] at hs
      have e : deep (l.take i) + 1 = deep (l.take (i + 1)) := by rw [hs]; rfl
      rw [e]; exact step
    · rw [hf] at hs
      have e : deep (l.take i) - 1 = deep (l.take (i + 1)) := by rw [hs]; rfl
      rw [e]; exact step
  · simp only [decide_eq_false_iff_not] at hge
    have : Rises l := fun j h1 h2 => hP j h1 (by omega)
    unfold VC22_k1
    simpa [this] using h

theorem VC21_of {l : List Bool} (hl : l.length ≤ 1000000) {K : Int → Prop} (h : K (deep l)) : VC21 l K := by
  unfold VC21
  refine loop_state' l.length (fun i => deep (l.take i)) (fun i => True) trivial ?_
  intro i hi hP X hX
  try dsimp only
  unfold VC21_l1
  have hb := take_bound l i
  refine ⟨fun hlt => ?_, fun hge => ?_⟩
  · simp only [decide_eq_true_eq] at hlt
    refine ⟨⟨by omega, by omega⟩, ?_⟩
    have hil : i < l.length := by omega
    simp only [Int.toNat_natCast]
    have hs := deep_snoc l hil
    unfold VC21_k2
    refine ⟨fun ht => ⟨⟨by omega, by omega⟩, ⟨by omega, by omega⟩, ?_⟩, fun hf => ⟨⟨by omega, by omega⟩, ⟨by omega, by omega⟩, ?_⟩⟩
    · rw [ht] at hs
      have e : deep (l.take i) + 1 = deep (l.take (i + 1)) := by rw [hs]; rfl
      rw [e]; exact hX hil trivial
    · rw [hf] at hs
      have e : deep (l.take i) - 1 = deep (l.take (i + 1)) := by rw [hs]; rfl
      rw [e]; exact hX hil trivial
  · simp only [decide_eq_false_iff_not] at hge
    have : i = l.length := by omega
    subst this
    unfold VC21_k1
    rw [List.take_length]
    exact h

theorem VC67_of {n : Int} (hn : 0 ≤ n ∧ n ≤ 1000000) {K : List Bool → Prop} (h : K []) : VC67 n K := by
  unfold VC67
  refine ⟨fun hc => ?_, fun _ => ⟨⟨by omega, by omega⟩, ⟨by omega, by omega⟩, fun hc => ?_, fun hc => ?_⟩⟩
  · simp at hc; omega
  · simp only [decide_eq_true_eq] at hc
    unfold VC67_k1
    exact ⟨⟨by omega, by omega⟩, ⟨by omega, by omega⟩, ⟨by omega, by omega⟩, by simpa using h⟩
  · unfold VC67_k1
    exact h

theorem VC45_of {a b : List Bool} (ha : a.length ≤ 100000) (hb : b.length ≤ 100000) {K : List Bool → Prop} (h : K (a ++ b)) : VC45 [a, b] K := by
  unfold VC45
  refine loop_state' 2 (fun i => if i = 0 then (0 : Int) else if i = 1 then (a.length : Int) else (a.length : Int) + (b.length : Int)) (fun i => True) trivial ?_
  intro i hi _ X hX
  try dsimp only
  unfold VC45_l2
  have hcase : i = 0 ∨ i = 1 ∨ i = 2 := by omega
  rcases hcase with rfl | rfl | rfl
  · refine ⟨fun _ => ⟨⟨by omega, by simp⟩, ⟨by simp <;> omega, by simp <;> omega⟩, fun hc => ?_, fun _ => ⟨⟨by omega, by omega⟩, ?_⟩⟩, fun hge => ?_⟩
    · exfalso; simp at hc; omega
    · simpa using hX (by omega) trivial
    · simp at hge
  · refine ⟨fun _ => ⟨⟨by omega, by simp⟩, ⟨by simp <;> omega, by simp <;> omega⟩, fun hc => ?_, fun _ => ⟨⟨by omega, by omega⟩, ?_⟩⟩, fun hge => ?_⟩
    · exfalso; simp at hc; omega
    · simpa using hX (by omega) trivial
    · simp at hge
  · refine ⟨fun hlt => ?_, fun _ => ?_⟩
    · simp at hlt
    · unfold VC45_k1
      refine VC67_of ⟨by simp <;> omega, by simp <;> omega⟩ ?_
      refine loop_state 2 (fun i => if i = 0 then [] else if i = 1 then a else a ++ b) (fun i => True) trivial ?_
      intro j hj _ X2 hX2
      try dsimp only
      unfold VC45_l1
      have hcase : j = 0 ∨ j = 1 ∨ j = 2 := by omega
      rcases hcase with rfl | rfl | rfl
      · refine ⟨fun _ => ⟨⟨by omega, by simp⟩, by unfold roomN; simp; omega, ⟨by omega, by omega⟩, by simpa using hX2 (by omega) trivial⟩, fun hge => ?_⟩
        simp at hge
      · refine ⟨fun _ => ⟨⟨by omega, by simp⟩, by unfold roomN; simp; omega, ⟨by omega, by omega⟩, by simpa using hX2 (by omega) trivial⟩, fun hge => ?_⟩
        simp at hge
      · refine ⟨fun hlt => ?_, fun _ => ?_⟩
        · simp at hlt
        · unfold VC45_k2
          simpa using h

def rot (l : List Bool) (i : Nat) : List Bool := l.drop i ++ l.take i

theorem deep_rot {l : List Bool} (h1 : deep l = 1) {i j : Nat} (hi : i ≤ l.length) :
    (j ≤ l.length - i → deep ((rot l i).take j) = deep (l.take (i + j)) - deep (l.take i)) ∧ (l.length - i ≤ j → j ≤ l.length → deep ((rot l i).take j) = 1 - deep (l.take i) + deep (l.take (j - (l.length - i)))) := by
  refine ⟨fun hj => ?_, fun hj hj2 => ?_⟩
  · have e : l.take (i + j) = l.take i ++ (l.drop i).take j := by rw [List.take_add]
    rw [rot, List.take_append_of_le_length (by rw [List.length_drop]; exact hj), e, deep_append]
    omega
  · have e : deep l = deep (l.take i) + deep (l.drop i) := by rw [← deep_append, List.take_append_drop]
    have e2 : (l.drop i).take j = l.drop i := List.take_of_length_le (by rw [List.length_drop]; exact hj)
    rw [rot, List.take_append, e2, deep_append, List.length_drop, List.take_take, Nat.min_eq_left (by omega)]
    omega

theorem rises_iff {l : List Bool} (h1 : deep l = 1) {i : Nat} (hi : i < l.length) :
    Rises (rot l i) ↔ (∀ t, i < t → t ≤ l.length → deep (l.take i) < deep (l.take t)) ∧ (∀ t, 1 ≤ t → t ≤ i → deep (l.take i) ≤ deep (l.take t)) := by
  have hlen : (rot l i).length = l.length := by simp [rot]; omega
  constructor
  · intro h
    refine ⟨fun t h2 h3 => ?_, fun t h2 h3 => ?_⟩
    · have := h (t - i) (by omega) (by omega)
      rw [(deep_rot h1 (by omega)).1 (by omega), show i + (t - i) = t by omega] at this
      omega
    · have := h (t + (l.length - i)) (by omega) (by omega)
      rw [(deep_rot h1 (by omega)).2 (by omega) (by omega), show t + (l.length - i) - (l.length - i) = t by omega] at this
      omega
  · rintro ⟨h2, h3⟩ j hj1 hj2
    rw [hlen] at hj2
    by_cases hj : j ≤ l.length - i
    · rw [(deep_rot h1 (by omega)).1 hj]
      have := h2 (i + j) (by omega) (by omega)
      omega
    · rw [(deep_rot h1 (by omega)).2 (by omega) hj2]
      have := h3 (j - (l.length - i)) (by omega) (by omega)
      omega

theorem cycle_some {l : List Bool} (h1 : deep l = 1) (hl : 0 < l.length) : ∃ i, i < l.length ∧ Rises (rot l i) := by
  have key : ∀ n, ∃ i, i ≤ n ∧ (∀ t, i < t → t ≤ n → deep (l.take i) < deep (l.take t)) ∧ ∀ t, t ≤ i → deep (l.take i) ≤ deep (l.take t) := by
    intro n
    induction n with
    | zero =>
      refine ⟨0, by omega, fun t h2 h3 => absurd h2 (by omega), fun t ht => ?_⟩
      have : t = 0 := by omega
      subst this
      exact Int.le_refl _
    | succ n ih =>
      obtain ⟨i, hi, h2, h3⟩ := ih
      by_cases hc : deep (l.take (n + 1)) ≤ deep (l.take i)
      · refine ⟨n + 1, Nat.le_refl _, fun t h4 h5 => absurd h4 (by omega), fun t ht => ?_⟩
        by_cases ht1 : t = n + 1
        · subst ht1; exact Int.le_refl _
        · by_cases ht2 : t ≤ i
          · have := h3 t ht2; omega
          · have := h2 t (by omega) (by omega); omega
      · refine ⟨i, by omega, fun t h4 h5 => ?_, h3⟩
        by_cases ht1 : t = n + 1
        · subst ht1; omega
        · exact h2 t h4 (by omega)
  obtain ⟨i, hi, h2, h3⟩ := key (l.length - 1)
  refine ⟨i, by omega, (rises_iff h1 (by omega)).2 ⟨fun t h4 h5 => ?_, fun t _ h5 => h3 t h5⟩⟩
  by_cases ht : t = l.length
  · subst ht
    rw [List.take_length, h1]
    have := h3 0 (by omega)
    simp [deep] at this
    omega
  · exact h2 t h4 (by omega)

theorem cycle_one {l : List Bool} (h1 : deep l = 1) {i k : Nat} (hik : i < k) (hk : k < l.length) (hi : Rises (rot l i)) : ¬ Rises (rot l k) := by
  intro hr
  obtain ⟨a1, a2⟩ := (rises_iff h1 (by omega)).1 hi
  obtain ⟨b1, b2⟩ := (rises_iff h1 hk).1 hr
  have h2 := a1 k hik (by omega)
  by_cases h0 : i = 0
  · subst h0
    have h3 := b1 l.length hk (Nat.le_refl _)
    rw [List.take_length, h1] at h3
    simp [deep] at h2
    omega
  · have := b2 i (by omega) (by omega)
    omega

theorem VC20_of {l : List Bool} {K : Int × Int → Prop} (hbad : ¬ (l.length ≤ 60 ∧ deep l = 1) → ∀ e, e ≠ 0 → K (0, e)) (h : l.length ≤ 60 → deep l = 1 → ∀ i : Nat, i < l.length → Rises (rot l i) → K ((i : Int), 0)) : VC20 l K := by
  unfold VC20
  refine ⟨fun hc => hbad (fun hh => ?_) 1 (by omega), fun hc => ?_⟩
  · simp at hc; omega
  have hl : l.length ≤ 60 := by simp at hc; omega
  refine loop_state' l.length (fun i => deep (l.take i)) (fun i => True) trivial ?_
  intro i hi hP X hX
  try dsimp only
  unfold VC20_l2
  have hb := take_bound l i
  refine ⟨fun hlt => ?_, fun hge => ?_⟩
  · simp only [decide_eq_true_eq] at hlt
    refine ⟨⟨by omega, by omega⟩, VC43_of ?_⟩
    have hil : i < l.length := by omega
    simp only [Int.toNat_natCast]
    simp only [← deep_snoc l hil]
    have hb2 := take_bound l (i + 1)
    exact ⟨⟨by omega, by omega⟩, ⟨by omega, by omega⟩, hX hil trivial⟩
  · simp only [decide_eq_false_iff_not] at hge
    have : i = l.length := by omega
    subst this
    rw [List.take_length]
    unfold VC20_k1
    refine ⟨fun hne => hbad (fun hh => ?_) 3 (by omega), fun heq => ?_⟩
    · rw [hh.2] at hne; simp at hne
    have h1 : deep l = 1 := by simpa using heq
    have hpos : 0 < l.length := by
      refine Nat.pos_of_ne_zero fun h0 => ?_
      have : l = [] := List.length_eq_zero_iff.1 h0
      subst this
      simp [deep] at h1
    refine loop_count l.length (fun i => ∀ j, j < i → ¬ Rises (rot l j)) (fun j hj => absurd hj (by omega)) ?_
    intro j hj hP2 X2 hX2
    unfold VC20_l1
    refine ⟨fun hlt => ?_, fun hge2 => ?_⟩
    · simp only [decide_eq_true_eq] at hlt
      refine ⟨⟨by omega, by omega⟩, ⟨by omega, by omega⟩, ?_⟩
      simp only [Int.toNat_natCast]
      refine VC45_of (by simp; omega) (by simp; omega) (VC44_of (by simp; omega) ⟨fun ht => ?_, fun hf => ⟨⟨by omega, by omega⟩, hX2 (by omega) fun q hq => ?_⟩⟩)
      · exact h hl h1 j (by omega) (@of_decide_eq_true _ (_) ht)
      · by_cases hqj : q < j
        · exact hP2 q hqj
        · have : q = j := by omega
          subst this
          exact @of_decide_eq_false _ (_) hf
    · simp only [decide_eq_false_iff_not] at hge2
      exfalso
      obtain ⟨i, hi, hr⟩ := cycle_some h1 hpos
      exact hP2 i (by omega) hr

theorem bracketCycle {l : List Bool} {k : Int} (hlm : l.length ≤ 9223372036854775807) : VC6 l k (fun b => b = true) := by
  unfold VC6
  refine VC20_of (fun hno e he => gcall_of (deep l) (fun hc hk => VC21_of (by simp at hc; omega) hk) ⟨fun _ => (by simpa using he), fun hc => ?_⟩) (fun hl h1 n hn hr => gcall_of (deep l) (fun hc hk => VC21_of (by simp at hc; omega) hk) ?_)
  · exfalso
    apply hno
    by_cases h60 : (60 : Int) < (l.length : Int)
    · simp [h60] at hc
    · simp only [h60, decide_false, Bool.not_false, if_true, Bool.false_or, Bool.not_eq_false', decide_eq_true_eq] at hc
      exact ⟨by omega, hc⟩
  · have h60 : ¬ (60 : Int) < (l.length : Int) := by omega
    simp only [h60, decide_false, Bool.not_false, if_true, Bool.false_or, h1, decide_true, Bool.not_true]
    refine ⟨fun hc => (by cases hc), fun _ => ⟨fun hc => ?_, fun _ => ⟨fun _ => trivial, fun hk => ?_⟩⟩⟩
    · exfalso
      simp only [Bool.or_eq_true, decide_eq_true_eq] at hc
      omega
    simp only [Bool.or_eq_false_iff, decide_eq_false_iff_not] at hk
    obtain ⟨j, rfl⟩ : ∃ j : Nat, k = (j : Int) := ⟨k.toNat, by omega⟩
    simp only [Int.toNat_natCast, List.nil_append]
    refine ⟨⟨by omega, by omega⟩, ⟨by omega, by omega⟩, by unfold roomN; simp; omega, by unfold roomN; simp; omega, VC22_of (by simp; omega) ?_⟩
    have e : (Rises (l.drop j ++ l.take j)) ↔ (j : Int) = (n : Int) := by
      constructor
      · intro hj
        refine Classical.byContradiction fun hne => ?_
        rcases Nat.lt_or_gt_of_ne (show j ≠ n by omega) with hlt | hlt
        · exact cycle_one h1 hlt hn hj hr
        · exact cycle_one h1 hlt (by omega) hr hj
      · intro hj
        have : j = n := by omega
        subst this; exact hr
    have e2 : (@decide (Rises (l.drop j ++ l.take j)) (Classical.propDecidable _)) = decide ((j : Int) = (n : Int)) := by rw [decide_eq_decide]; exact e
    rw [e2]
    simp
end Dec
