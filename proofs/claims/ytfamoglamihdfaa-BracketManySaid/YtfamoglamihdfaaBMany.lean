/-
  'BracketMany' in plain Lean.
-/
import Derived.Test.YtfamoglamihdfaaLib
import Derived.Test.YtfamoglamihdfaaGenBmw
set_option linter.unusedSimpArgs false
set_option linter.unusedVariables false
namespace Dec
open Go Go.Proofs

theorem loop_invB {τ : Type} {B : Int × τ → (Int × τ → Prop) → Prop} (n : Nat) (I : Nat → τ → Prop) {s0 : τ} (h0 : I 0 s0)
    (h : ∀ i : Nat, i ≤ n → ∀ s, I i s → ∀ X : Int × τ → Prop, (∀ s', i < n → I (i + 1) s' → X ((i : Int) + 1, s')) → B ((i : Int), s) X) : Loop B (0, s0) := by
  refine Loop.by (fun s => ∃ i : Nat, i ≤ n ∧ I i s.2 ∧ s.1 = (i : Int)) (fun s => ((n : Int) - s.1).toNat) ⟨0, by omega, h0, rfl⟩ ?_
  rintro ⟨c, s⟩ ⟨i, hi, hP, rfl⟩ X hX
  exact h i hi s hP X fun s' hlt hP' => hX _ ⟨i + 1, by omega, hP', by simp⟩ (by simp only; omega)

/-- so many ways lead from a height to nought -/
def wS (S : Nat) : Nat → Nat → Int
  | 0, h => if h = 0 then 1 else 0
  | t + 1, h => if h ≤ S then wS S t (h + 1) + (if 0 < h then wS S t (h - 1) else 0) else 0

theorem wS_bound (S : Nat) : ∀ t h, 0 ≤ wS S t h ∧ wS S t h ≤ ((2 ^ t : Nat) : Int)
  | 0, h => by unfold wS; split <;> simp
  | t + 1, h => by
    have h1 := wS_bound S t (h + 1)
    have h2 := wS_bound S t (h - 1)
    unfold wS
    rw [Nat.pow_succ, Int.natCast_mul]
    split
    · split <;> omega
    · omega

theorem wS_small (S : Nat) {t : Nat} (ht : t ≤ 16) (h : Nat) : 0 ≤ wS S t h ∧ wS S t h ≤ 65536 := by
  have h1 := wS_bound S t h
  have h2 : (2 : Nat) ^ t ≤ 2 ^ 16 := Nat.pow_le_pow_right (by decide) ht
  have e : (2 : Nat) ^ 16 = 65536 := by decide
  omega

def wRow (S t : Nat) : List Int := (List.range (S + 2)).map (wS S t)
def wTab (S n : Nat) : List (List Int) := (List.range n).map (wRow S)
theorem wRow_len (S t : Nat) : (wRow S t).length = S + 2 := by simp [wRow]
theorem wRow_get {S t h : Nat} (hh : h < S + 2) : (wRow S t).getD h 0 = wS S t h := by rw [wRow, getD_lt _ (by simpa using hh)]; simp
theorem wTab_len (S n : Nat) : (wTab S n).length = n := by simp [wTab]
theorem wTab_get {S n t : Nat} (h : t < n) : (wTab S n).getD t [] = wRow S t := by rw [wTab, getD_lt _ (by simpa using h)]; simp

theorem getD_setB (l : List Int) (i j : Nat) (x : Int) (hi : i < l.length) : (l.set i x).getD j 0 = if j = i then x else l.getD j 0 := by
  by_cases h : j = i
  · subst h
    rw [getD_lt _ (by simpa using hi)]; simp
  · by_cases hj : j < l.length
    · rw [getD_lt _ (by simpa using hj), getD_lt _ hj, List.getElem_set_ne (by omega)]; simp [h]
    · rw [getD_ge _ (by simp; omega), getD_ge _ (by omega)]; simp [h]

theorem VC41_of {S : Nat} (hS : S ≤ 16) {K : List (List Int) → Prop} (h : K (wTab S (S + 1))) : VC41 (S : Int) K := by
  have e2 : ((S : Int) + 2).toNat = S + 2 := by omega
  unfold VC41
  rw [e2]
  have hrow0 : (List.replicate (S + 2) (0 : Int)).set ((0 : Int)).toNat 1 = wRow S 0 := by
    refine ext_getD 0 (by simp [wRow_len]) fun i hi => ?_
    simp at hi
    rw [wRow_get hi]
    show ((List.replicate (S + 2) (0 : Int)).set 0 1).getD i 0 = _
    rw [getD_setB _ _ _ _ (by simp)]
    unfold wS
    by_cases h0 : i = 0
    · simp [h0]
    · rw [if_neg h0, if_neg h0, getD_lt _ (by simp; omega)]; simp
  rw [hrow0]
  refine ⟨⟨by omega, by omega⟩, ⟨by omega, by omega⟩, ⟨by omega, by simp; omega⟩, ?_⟩
  refine Loop.by (fun s : List Int × Int × List (List Int) => ∃ t : Nat, t ≤ S ∧ s.1 = wRow S t ∧ s.2.1 = (t : Int) ∧ s.2.2 = wTab S (t + 1)) (fun s => ((S : Int) - s.2.1).toNat) ⟨0, by omega, rfl, rfl, rfl⟩ ?_
  rintro ⟨row, c, out⟩ ⟨t, ht, e3, e4, e5⟩ X hX
  dsimp only at e3 e4 e5
  subst e3 e4 e5
  dsimp only
  unfold VC41_l1
  refine ⟨fun hlt => ⟨⟨by omega, by omega⟩, ⟨by omega, by omega⟩, ⟨by omega, by omega⟩, ?_⟩, fun hge => ?_⟩
  · simp only [decide_eq_true_eq] at hlt
    rw [e2]
    refine loop_invB (S + 1) (fun v next => next.length = S + 2 ∧ ∀ q, q < S + 2 → next.getD q 0 = if q < v then wS S (t + 1) q else 0) ⟨by simp, fun q hq => by rw [getD_lt _ (by simp; omega)]; simp⟩ ?_
    rintro v hv next ⟨hl, hn⟩ X2 hX2
    dsimp only
    unfold VC41_l2
    refine ⟨fun hlt2 => ?_, fun hge2 => ?_⟩
    · simp only [decide_eq_true_eq] at hlt2
      have hvS : v ≤ S := by omega
      have b1 := wS_small S (t := t) (by omega) (v + 1)
      have b2 := wS_small S (t := t) (by omega) (v - 1)
      have ev1 : ((v : Int) + 1).toNat = v + 1 := by omega
      simp only [ev1, Int.toNat_natCast, wRow_get (show v + 1 < S + 2 by omega), wRow_len, List.length_set, hl]
      refine ⟨⟨by omega, by omega⟩, ⟨by omega, by omega⟩, ⟨by omega, by omega⟩, fun hp => ?_, fun hp => ?_⟩
      · simp only [decide_eq_true_eq] at hp
        have ev2 : ((v : Int) - 1).toNat = v - 1 := by omega
        have eg : (next.set v (wS S t (v + 1))).getD v 0 = wS S t (v + 1) := by rw [getD_setB _ _ _ _ (by omega), if_pos rfl]
        simp only [ev2, wRow_get (show v - 1 < S + 2 by omega), eg]
        refine ⟨⟨by omega, by omega⟩, ⟨by omega, by omega⟩, ⟨by omega, by omega⟩, ⟨by omega, by omega⟩, ⟨by omega, by omega⟩, ?_⟩
        unfold VC41_k3
        refine ⟨⟨by omega, by omega⟩, hX2 _ (by omega) ⟨by simp [hl], fun q hq => ?_⟩⟩
        rw [getD_setB _ _ _ _ (by simp; omega), getD_setB _ _ _ _ (by omega), hn q hq]
        by_cases hqv : q = v
        · subst hqv
          have hp0 : 0 < q := by omega
          simp [wS, hvS, hp0]
        · have : (q < v + 1) ↔ q < v := by omega
          simp [hqv, this]
      · simp only [decide_eq_false_iff_not] at hp
        have hv0 : v = 0 := by omega
        subst hv0
        unfold VC41_k3
        refine ⟨⟨by omega, by omega⟩, hX2 _ (by omega) ⟨by simp [hl], fun q hq => ?_⟩⟩
        rw [getD_setB _ _ _ _ (by omega), hn q hq]
        by_cases hqv : q = 0
        · subst hqv
          simp [wS]
        · have : ¬ q < 0 + 1 := by omega
          simp [hqv, this]
    · simp only [decide_eq_false_iff_not] at hge2
      have : v = S + 1 := by omega
      subst this
      have hrow : next = wRow S (t + 1) := by
        refine ext_getD 0 (by rw [wRow_len, hl]) fun q hq => ?_
        rw [hn q (by omega), wRow_get (by omega)]
        by_cases hq2 : q < S + 1
        · rw [if_pos hq2]
        · have : q = S + 1 := by omega
          subst this
          rw [if_neg hq2, wS, if_neg (by omega)]
      subst hrow
      unfold VC41_k2
      refine ⟨by unfold roomN; rw [wTab_len]; simp; omega, ⟨by omega, by omega⟩, hX _ ⟨t + 1, by omega, rfl, by simp, ?_⟩ (by dsimp only; omega)⟩
      dsimp only
      unfold wTab
      rw [List.range_succ (n := t + 1), List.map_append]
      rfl
  · simp only [decide_eq_false_iff_not] at hge
    have : t = S := by omega
    subst this
    unfold VC41_k1
    exact h


theorem VC16_of {n : Int} {K : Int × Int → Prop} (hbad : ¬ (0 ≤ n ∧ n ≤ 8) → K (0, 1)) (h : 0 ≤ n → n ≤ 8 → K (wS (2 * n).toNat (2 * n).toNat 0, 0)) : VC16 n K := by
  unfold VC16
  refine ⟨fun hc => hbad (fun hh => ?_), fun hc => ?_⟩
  · simp at hc; omega
  have hn : 0 ≤ n ∧ n ≤ 8 := by simp at hc; omega
  obtain ⟨S, hS⟩ : ∃ S : Nat, 2 * n = (S : Int) := ⟨(2 * n).toNat, by omega⟩
  rw [hS] at h ⊢
  simp only [Int.toNat_natCast] at h
  refine ⟨⟨by omega, by omega⟩, VC41_of (by omega) ?_⟩
  have e0 : ((0 : Int)).toNat = 0 := rfl
  simp only [Int.toNat_natCast, e0, wTab_get (show S < S + 1 by omega), wTab_len, wRow_len, wRow_get (show 0 < S + 2 by omega)]
  exact ⟨⟨by omega, by omega⟩, ⟨by omega, by omega⟩, ⟨by omega, by omega⟩, h hn.1 hn.2⟩

/-- a row made from the one before -/
def nxt (S : Nat) (r : List Int) : List Int := (List.range (S + 2)).map fun h => if h ≤ S then r.getD (h + 1) 0 + (if 0 < h then r.getD (h - 1) 0 else 0) else 0
def rowN (S : Nat) : Nat → List Int
  | 0 => (List.range (S + 2)).map fun h => if h = 0 then 1 else 0
  | t + 1 => nxt S (rowN S t)

theorem rowN_get (S : Nat) : ∀ t h, h < S + 2 → (rowN S t).getD h 0 = wS S t h
  | 0, h, hh => by rw [rowN, getD_lt _ (by simpa using hh)]; simp [wS]
  | t + 1, h, hh => by
    rw [rowN, nxt, getD_lt _ (by simpa using hh)]
    simp only [List.getElem_map, List.getElem_range, wS]
    by_cases h1 : h ≤ S
    · rw [if_pos h1, if_pos h1, rowN_get S t (h + 1) (by omega), rowN_get S t (h - 1) (by omega)]
    · rw [if_neg h1, if_neg h1]

theorem cat_all : ∀ n : Fin 8, 1 ≤ (rowN (2 * n.val) (2 * n.val)).getD 0 0 ∧ ((n.val : Int) + 2) * (rowN (2 * n.val + 2) (2 * n.val + 2)).getD 0 0 = (4 * (n.val : Int) + 2) * (rowN (2 * n.val) (2 * n.val)).getD 0 0 ∧ (rowN (2 * n.val) (2 * n.val)).getD 0 0 ≤ 65536 ∧ 0 ≤ (rowN (2 * n.val + 2) (2 * n.val + 2)).getD 0 0 ∧ (rowN (2 * n.val + 2) (2 * n.val + 2)).getD 0 0 ≤ 65536 := by decide +kernel

theorem bracketMany {n : Int} (hn : -9223372036854775808 ≤ n ∧ n ≤ 9223372036854775807) : VC4 n (fun b => b = true) := by
  unfold VC4
  by_cases hr : 0 ≤ n ∧ n < 8
  · obtain ⟨k, rfl⟩ : ∃ k : Nat, n = (k : Int) := ⟨n.toNat, by omega⟩
    have hw : IntKind.wrap .i64 ((k : Int) + 1) = (k : Int) + 1 := wrap64 ⟨by omega, by omega⟩
    rw [hw]
    refine VC16_of (fun hno => absurd ⟨by omega, by omega⟩ hno) fun _ _ => VC16_of (fun hno => absurd ⟨by omega, by omega⟩ hno) fun _ _ => ?_
    have e1 : (2 * (k : Int)).toNat = 2 * k := by omega
    have e2 : (2 * ((k : Int) + 1)).toNat = 2 * k + 2 := by omega
    rw [e1, e2]
    have hc := cat_all ⟨k, by omega⟩
    rw [rowN_get _ _ _ (by omega), rowN_get _ _ _ (by omega)] at hc
    dsimp only at hc
    obtain ⟨c1, c2, c3, c4, c5⟩ := hc
    generalize wS (2 * k) (2 * k) 0 = a at *
    generalize wS (2 * k + 2) (2 * k + 2) 0 = b at *
    have m1 : 0 ≤ ((k : Int) + 2) * b ∧ ((k : Int) + 2) * b ≤ 10 * 65536 := ⟨Int.mul_nonneg (by omega) c4, Int.mul_le_mul (by omega) c5 c4 (by omega)⟩
    refine ⟨fun hh => ?_, fun _ => ⟨fun _ => ⟨by omega, by omega⟩, fun _ => ⟨by dsimp only; omega, by dsimp only; omega⟩, fun _ => ⟨by omega, by omega⟩, fun _ => ⟨by omega, by omega⟩, fun _ => ⟨by dsimp only; omega, by dsimp only; omega⟩, ?_⟩⟩
    · exfalso; simp at hh; omega
    · simp [c1, c2]
  · have hbig : n < 0 ∨ 8 ≤ n := by omega
    have hfalse : ((decide (n < (0 : Int))) || (decide ((8 : Int) ≤ n))) = true := by
      rcases hbig with h | h <;> simp [h]
    have hwrap : (0 ≤ IntKind.wrap .i64 (n + 1)) → (IntKind.wrap .i64 (n + 1) ≤ 8) → n < 0 := by
      intro h0 h8
      rcases hbig with h | h
      · exact h
      · exfalso
        by_cases hmax : n = 9223372036854775807
        · subst hmax
          have : IntKind.wrap .i64 (9223372036854775807 + 1) = -9223372036854775808 := by decide
          rw [this] at h0
          omega
        · rw [wrap64 ⟨by omega, by omega⟩] at h8
          omega
    refine VC16_of (fun _ => ?_) fun _ _ => ?_
    · refine VC16_of (fun _ => ⟨fun _ => (by simp), fun hc => ?_⟩) fun h0 h8 => ⟨fun _ => ?_, fun hc => ?_⟩
      · rw [hfalse] at hc; cases hc
      · have := hwrap h0 h8
        simp [this]
      · rw [hfalse] at hc; cases hc
    · refine VC16_of (fun _ => ⟨fun _ => (by simp), fun hc => ?_⟩) fun h0 h8 => ⟨fun _ => ?_, fun hc => ?_⟩
      · rw [hfalse] at hc; cases hc
      · have := hwrap h0 h8
        simp [this]
      · rw [hfalse] at hc; cases hc

theorem i64_ok {n : Int} (h : Ok (.int .i64) n) : -9223372036854775808 ≤ n ∧ n ≤ 9223372036854775807 := by
  have h1 : IntKind.i64.min ≤ n ∧ n ≤ IntKind.i64.max := h
  simp [IntKind.min, IntKind.max, IntKind.signed, IntKind.bits] at h1
  omega
end Dec
