/-
  'BracketBack' in plain Lean: the places of right brackets.
-/
import Derived.Test.YtfamoglamihdfaaLib
import Derived.Test.YtfamoglamihdfaaGenBba
set_option linter.unusedSimpArgs false
set_option linter.unusedVariables false
namespace Dec
open Go Go.Proofs

theorem loop_invB {τ : Type} {B : Int × τ → (Int × τ → Prop) → Prop} (n : Nat) (I : Nat → τ → Prop) {s0 : τ} (h0 : I 0 s0)
    (h : ∀ i : Nat, i ≤ n → ∀ s, I i s → ∀ X : Int × τ → Prop, (∀ s', i < n → I (i + 1) s' → X ((i : Int) + 1, s')) → B ((i : Int), s) X) : Loop B (0, s0) := by
  refine Loop.by (fun s => ∃ i : Nat, i ≤ n ∧ I i s.2 ∧ s.1 = (i : Int)) (fun s => ((n : Int) - s.1).toNat) ⟨0, by omega, h0, rfl⟩ ?_
  rintro ⟨c, s⟩ ⟨i, hi, hP, rfl⟩ X hX
  exact h i hi s hP X fun s' hlt hP' => hX _ ⟨i + 1, by omega, hP', by simp⟩ (by simp only; omega)

/-- so many ways lead from a height to nought -/
def wS (S : Nat) : Nat → Nat → Int
  | 0, h => if h = 0 then 1 else 0
  | t + 1, h => if h ≤ S then wS S t (h + 1) + (if 0 < h then wS S t (h - 1) else 0) else 0

theorem wS_bound (S : Nat) : ∀ t h, 0 ≤ wS S t h ∧ wS S t h ≤ ((2 ^ t : Nat) : Int)
  | 0, h => by unfold wS; split <;> simp
  | t + 1, h => by
    have h1 := wS_bound S t (h + 1)
    have h2 := wS_bound S t (h - 1)
    unfold wS
    rw [Nat.pow_succ, Int.natCast_mul]
    split
    · split <;> omega
    · omega

theorem wS_small (S : Nat) {t : Nat} (ht : t ≤ 16) (h : Nat) : 0 ≤ wS S t h ∧ wS S t h ≤ 65536 := by
  have h1 := wS_bound S t h
  have h2 : (2 : Nat) ^ t ≤ 2 ^ 16 := Nat.pow_le_pow_right (by decide) ht
  have e : (2 : Nat) ^ 16 = 65536 := by decide
  omega

def wRow (S t : Nat) : List Int := (List.range (S + 2)).map (wS S t)
def wTab (S n : Nat) : List (List Int) := (List.range n).map (wRow S)
theorem wRow_len (S t : Nat) : (wRow S t).length = S + 2 := by simp [wRow]
theorem wRow_get {S t h : Nat} (hh : h < S + 2) : (wRow S t).getD h 0 = wS S t h := by rw [wRow, getD_lt _ (by simpa using hh)]; simp
theorem wTab_len (S n : Nat) : (wTab S n).length = n := by simp [wTab]
theorem wTab_get {S n t : Nat} (h : t < n) : (wTab S n).getD t [] = wRow S t := by rw [wTab, getD_lt _ (by simpa using h)]; simp

theorem getD_setB (l : List Int) (i j : Nat) (x : Int) (hi : i < l.length) : (l.set i x).getD j 0 = if j = i then x else l.getD j 0 := by
  by_cases h : j = i
  · subst h
    rw [getD_lt _ (by simpa using hi)]; simp
  · by_cases hj : j < l.length
    · rw [getD_lt _ (by simpa using hj), getD_lt _ hj, List.getElem_set_ne (by omega)]; simp [h]
    · rw [getD_ge _ (by simp; omega), getD_ge _ (by omega)]; simp [h]

theorem VC41_of {S : Nat} (hS : S ≤ 16) {K : List (List Int) → Prop} (h : K (wTab S (S + 1))) : VC41 (S : Int) K := by
  have e2 : ((S : Int) + 2).toNat = S + 2 := by omega
  unfold VC41
  rw [e2]
  have hrow0 : (List.replicate (S + 2) (0 : Int)).set ((0 : Int)).toNat 1 = wRow S 0 := by
    refine ext_getD 0 (by simp [wRow_len]) fun i hi => ?_
    simp at hi
    rw [wRow_get hi]
    show ((List.replicate (S + 2) (0 : Int)).set 0 1).getD i 0 = _
    rw [getD_setB _ _ _ _ (by simp)]
    unfold wS
    by_cases h0 : i = 0
    · simp [h0]
    · rw [if_neg h0, if_neg h0, getD_lt _ (by simp; omega)]; simp
  rw [hrow0]
  refine ⟨⟨by omega, by omega⟩, ⟨by omega, by omega⟩, ⟨by omega, by simp; omega⟩, ?_⟩
  refine Loop.by (fun s : List Int × Int × List (List Int) => ∃ t : Nat, t ≤ S ∧ s.1 = wRow S t ∧ s.2.1 = (t : Int) ∧ s.2.2 = wTab S (t + 1)) (fun s => ((S : Int) - s.2.1).toNat) ⟨0, by omega, rfl, rfl, rfl⟩ ?_
  rintro ⟨row, c, out⟩ ⟨t, ht, e3, e4, e5⟩ X hX
  dsimp only at e3 e4 e5
  subst e3 e4 e5
  dsimp only
  unfold VC41_l1
  refine ⟨fun hlt => ⟨⟨by omega, by omega⟩, ⟨by omega, by omega⟩, ⟨by omega, by omega⟩, ?_⟩, fun hge => ?_⟩
  · simp only [decide_eq_true_eq] at hlt
    rw [e2]
    refine loop_invB (S + 1) (fun v next => next.length = S + 2 ∧ ∀ q, q < S + 2 → next.getD q 0 = if q < v then wS S (t + 1) q else 0) ⟨by simp, fun q hq => by rw [getD_lt _ (by simp; omega)]; simp⟩ ?_
    rintro v hv next ⟨hl, hn⟩ X2 hX2
    dsimp only
    unfold VC41_l2
    refine ⟨fun hlt2 => ?_, fun hge2 => ?_⟩
    · simp only [decide_eq_true_eq] at hlt2
      have hvS : v ≤ S := by omega
      have b1 := wS_small S (t := t) (by omega) (v + 1)
      have b2 := wS_small S (t := t) (by omega) (v - 1)
      have ev1 : ((v : Int) + 1).toNat = v + 1 := by omega
      simp only [ev1, Int.toNat_natCast, wRow_get (show v + 1 < S + 2 by omega), wRow_len, List.length_set, hl]
      refine ⟨⟨by omega, by omega⟩, ⟨by omega, by omega⟩, ⟨by omega, by omega⟩, fun hp => ?_, fun hp => ?_⟩
      · simp only [decide_eq_true_eq] at hp
        have ev2 : ((v : Int) - 1).toNat = v - 1 := by omega
        have eg : (next.set v (wS S t (v + 1))).getD v 0 = wS S t (v + 1) := by rw [getD_setB _ _ _ _ (by omega), if_pos rfl]
        simp only [ev2, wRow_get (show v - 1 < S + 2 by omega), eg]
        refine ⟨⟨by omega, by omega⟩, ⟨by omega, by omega⟩, ⟨by omega, by omega⟩, ⟨by omega, by omega⟩, ⟨by omega, by omega⟩, ?_⟩
        unfold VC41_k3
        refine ⟨⟨by omega, by omega⟩, hX2 _ (by omega) ⟨by simp [hl], fun q hq => ?_⟩⟩
        rw [getD_setB _ _ _ _ (by simp; omega), getD_setB _ _ _ _ (by omega), hn q hq]
        by_cases hqv : q = v
        · subst hqv
          have hp0 : 0 < q := by omega
          simp [wS, hvS, hp0]
        · have : (q < v + 1) ↔ q < v := by omega
          simp [hqv, this]
      · simp only [decide_eq_false_iff_not] at hp
        have hv0 : v = 0 := by omega
        subst hv0
        unfold VC41_k3
        refine ⟨⟨by omega, by omega⟩, hX2 _ (by omega) ⟨by simp [hl], fun q hq => ?_⟩⟩
        rw [getD_setB _ _ _ _ (by omega), hn q hq]
        by_cases hqv : q = 0
        · subst hqv
          simp [wS]
        · have : ¬ q < 0 + 1 := by omega
          simp [hqv, this]
    · simp only [decide_eq_false_iff_not] at hge2
      have : v = S + 1 := by omega
      subst this
      have hrow : next = wRow S (t + 1) := by
        refine ext_getD 0 (by rw [wRow_len, hl]) fun q hq => ?_
        rw [hn q (by omega), wRow_get (by omega)]
        by_cases hq2 : q < S + 1
        · rw [if_pos hq2]
        · have : q = S + 1 := by omega
          subst this
          rw [if_neg hq2, wS, if_neg (by omega)]
      subst hrow
      unfold VC41_k2
      refine ⟨by unfold roomN; rw [wTab_len]; simp; omega, ⟨by omega, by omega⟩, hX _ ⟨t + 1, by omega, rfl, by simp, ?_⟩ (by dsimp only; omega)⟩
      dsimp only
      unfold wTab
      rw [List.range_succ (n := t + 1), List.map_append]
      rfl
  · simp only [decide_eq_false_iff_not] at hge
    have : t = S := by omega
    subst this
    unfold VC41_k1
    exact h

def hgtB (b : Bool) : Int := if b then 1 else -1
def balB : List Bool → Int → Bool
  | [], h => decide (h = 0)
  | b :: s, h => decide (0 ≤ h + hgtB b) && balB s (h + hgtB b)

theorem balB_len : ∀ {s : List Bool} {h : Int}, balB s h = true → h ≤ (s.length : Int)
  | [], h, hb => by simp [balB] at hb; simp; omega
  | b :: s, h, hb => by
    simp only [balB, Bool.and_eq_true] at hb
    have := balB_len hb.2
    have h2 : hgtB b = 1 ∨ hgtB b = -1 := by cases b <;> simp [hgtB]
    simp only [List.length_cons, Int.natCast_add]
    omega

theorem balB_even : ∀ {s : List Bool} {h : Int}, balB s h = true → (s.length : Int) % 2 = h % 2
  | [], h, hb => by simp [balB] at hb; simp [hb]
  | b :: s, h, hb => by
    simp only [balB, Bool.and_eq_true] at hb
    have := balB_even hb.2
    have h2 : hgtB b = 1 ∨ hgtB b = -1 := by cases b <;> simp [hgtB]
    simp only [List.length_cons, Int.natCast_add]
    omega

/-- how many come before: from a height -/
def rk (S : Nat) : List Bool → Int → Int
  | [], _ => 0
  | b :: s, h => (if b then 0 else wS S s.length (h + 1).toNat) + rk S s (h + hgtB b)

theorem rk_bound (S : Nat) : ∀ {s : List Bool} {h : Int}, s.length ≤ S → 0 ≤ h → balB s h = true → 0 ≤ rk S s h ∧ rk S s h < wS S s.length h.toNat
  | [], h, _, h0, hb => by
    simp [balB] at hb
    subst hb
    simp [rk, wS]
  | b :: s, h, hl, h0, hb => by
    have hlen := balB_len hb
    simp only [balB, Bool.and_eq_true, decide_eq_true_eq] at hb
    simp only [List.length_cons] at hl hlen
    have ih := rk_bound S (by omega) hb.1 hb.2
    have hw := (wS_bound S s.length (h + 1).toNat).1
    have hw2 := (wS_bound S s.length (h.toNat - 1)).1
    have e1 : (h + 1).toNat = h.toNat + 1 := by omega
    simp only [rk, List.length_cons]
    rw [wS, if_pos (show h.toNat ≤ S by omega)]
    cases b with
    | true =>
      have e2 : h + hgtB true = h + 1 := rfl
      rw [e2, e1] at ih
      simp only [if_true, e2]
      split <;> omega
    | false =>
      have e2 : h + hgtB false = h - 1 := rfl
      have hh := hb.1
      rw [e2] at ih hh
      have e3 : (h - 1).toNat = h.toNat - 1 := by omega
      rw [e3] at ih
      have hp : 0 < h.toNat := by omega
      rw [e1] at hw
      simp only [Bool.false_eq_true, if_false, e2, e1, if_pos hp]
      omega

theorem rk_inj (S : Nat) : ∀ {s t : List Bool} {h : Int}, s.length ≤ S → s.length = t.length → 0 ≤ h → balB s h = true → balB t h = true → rk S s h = rk S t h → s = t
  | [], [], _, _, _, _, _, _, _ => rfl
  | a :: s, b :: t, h, hl, hlen, h0, hs, ht, he => by
    simp only [balB, Bool.and_eq_true, decide_eq_true_eq] at hs ht
    simp only [List.length_cons] at hl hlen
    have hlen' : s.length = t.length := by omega
    have b1 := rk_bound S (by omega) hs.1 hs.2
    have b2 := rk_bound S (s := t) (by omega) ht.1 ht.2
    simp only [rk, ← hlen'] at he
    rw [← hlen'] at b2
    cases a <;> cases b
    · have := rk_inj S (by omega) hlen' hs.1 hs.2 ht.2 (by simpa using he)
      rw [this]
    · exfalso
      have e2 : h + hgtB true = h + 1 := rfl
      simp only [Bool.false_eq_true, if_false, if_true, e2] at he b2
      omega
    · exfalso
      have e2 : h + hgtB true = h + 1 := rfl
      simp only [Bool.false_eq_true, if_false, if_true, e2] at he b1
      omega
    · have := rk_inj S (by omega) hlen' hs.1 hs.2 ht.2 (by simpa using he)
      rw [this]

theorem VC43_of {b : Bool} {K : Int → Prop} (h : K (hgtB b)) : VC43 b K := by
  unfold VC43
  refine ⟨fun hb => ?_, fun hb => ?_⟩ <;> subst hb <;> exact h

theorem drop_cons {l : List Bool} {i : Nat} (h : i < l.length) : l.drop i = l.getD i false :: l.drop (i + 1) := by
  rw [List.drop_eq_getElem_cons h, ← getD_lt false h]

theorem hgt_bound (b : Bool) : -1 ≤ hgtB b ∧ hgtB b ≤ 1 := by cases b <;> simp [hgtB]

theorem VC42_of {l : List Bool} (hl : l.length ≤ 1000000) {K : Bool → Prop} (h : K (balB l 0)) : VC42 l K := by
  unfold VC42
  refine Loop.by (fun s : Int × Int => ∃ i : Nat, i ≤ l.length ∧ s.2 = (i : Int) ∧ (0 ≤ s.1 ∧ s.1 ≤ (i : Int)) ∧ balB (l.drop i) s.1 = balB l 0) (fun s => ((l.length : Int) - s.2).toNat) ⟨0, by omega, rfl, ⟨by simp, by simp⟩, rfl⟩ ?_
  rintro ⟨n, c⟩ ⟨i, hi, e1, ⟨hn0, hn1⟩, hb⟩ X hX
  dsimp only at e1 hn0 hn1 hb
  subst e1
  dsimp only
  unfold VC42_l1
  refine ⟨fun hlt => ?_, fun hge => ?_⟩
  · simp only [decide_eq_true_eq] at hlt
    have hil : i < l.length := by omega
    simp only [Int.toNat_natCast]
    have hg := hgt_bound (l.getD i false)
    rw [drop_cons hil, balB] at hb
    refine ⟨⟨by omega, by omega⟩, VC43_of ⟨⟨by omega, by omega⟩, fun hneg => ?_, fun hpos => ⟨⟨by omega, by omega⟩, hX _ ⟨i + 1, by omega, by simp, ⟨?_, ?_⟩, ?_⟩ (by dsimp only; omega)⟩⟩⟩
    · simp only [decide_eq_true_eq] at hneg
      have : ¬ 0 ≤ n + hgtB (l.getD i false) := by omega
      simp only [this, decide_false, Bool.false_and] at hb
      rw [← hb] at h; exact h
    · simp only [decide_eq_false_iff_not] at hpos; dsimp only; omega
    · dsimp only; omega
    · simp only [decide_eq_false_iff_not] at hpos
      have : 0 ≤ n + hgtB (l.getD i false) := by omega
      simp only [this, decide_true, Bool.true_and] at hb
      exact hb
  · simp only [decide_eq_false_iff_not] at hge
    have : i = l.length := by omega
    subst this
    rw [List.drop_length, balB] at hb
    unfold VC42_k1
    rw [hb]; exact h

theorem VC18_of {l : List Bool} (hl : l.length ≤ 60) {K : Bool × Int → Prop} (h : K (balB l 0, 0)) : VC18 l K := by
  unfold VC18
  refine ⟨fun hc => ?_, fun _ => VC42_of (by omega) h⟩
  exfalso; simp at hc; omega

theorem VC23_of {l : List Bool} {K : Int × Int → Prop} (hbad : ¬ (l.length ≤ 16 ∧ balB l 0 = true) → ∀ e, e ≠ 0 → K (0, e)) (h : l.length ≤ 16 → balB l 0 = true → K (rk l.length l 0, 0)) : VC23 l K := by
  unfold VC23
  refine ⟨fun hc => hbad (fun hh => ?_) 1 (by omega), fun hc => ?_⟩
  · simp at hc; omega
  have hl : l.length ≤ 16 := by simp at hc; omega
  refine VC42_of (by omega) ⟨fun hb => hbad (fun hh => ?_) 3 (by omega), fun hb => VC41_of hl ?_⟩
  · rw [hh.2] at hb; cases hb
  have hbal : balB l 0 = true := by simpa using hb
  refine Loop.by (fun s : Int × Int × Int => ∃ i : Nat, i ≤ l.length ∧ s.2.2 = (i : Int) ∧ 0 ≤ s.2.1 ∧ balB (l.drop i) s.2.1 = true ∧ s.1 + rk l.length (l.drop i) s.2.1 = rk l.length l 0 ∧ (0 ≤ s.1 ∧ s.1 ≤ 65536 * (i : Int))) (fun s => ((l.length : Int) - s.2.2).toNat) ⟨0, by omega, rfl, by simp, hbal, by simp, ⟨by simp, by simp⟩⟩ ?_
  rintro ⟨n, hv, c⟩ ⟨i, hi, e1, hh0, hb2, hrk, hn0, hn1⟩ X hX
  dsimp only at e1 hh0 hb2 hrk hn0 hn1
  subst e1
  dsimp only
  unfold VC23_l1
  refine ⟨fun hlt => ?_, fun hge => ?_⟩
  · simp only [decide_eq_true_eq] at hlt
    have hil : i < l.length := by omega
    have hlen := balB_len hb2
    rw [List.length_drop] at hlen
    rw [drop_cons hil, balB, Bool.and_eq_true, decide_eq_true_eq] at hb2
    rw [drop_cons hil, rk] at hrk
    have hdl : (l.drop (i + 1)).length = l.length - 1 - i := by rw [List.length_drop]; omega
    rw [hdl] at hrk
    have hg := hgt_bound (l.getD i false)
    have hwb := wS_small l.length (t := l.length - 1 - i) (by omega) (hv + 1).toNat
    have eidx : (((l.length : Int) - 1) - (i : Int)).toNat = l.length - 1 - i := by omega
    simp only [Int.toNat_natCast, eidx, wTab_get (show l.length - 1 - i < l.length + 1 by omega), wRow_len, wTab_len, wRow_get (show (hv + 1).toNat < l.length + 2 by omega)]
    refine ⟨⟨by omega, by omega⟩, fun hf => ⟨⟨by omega, by omega⟩, ⟨by omega, by omega⟩, ⟨by omega, by omega⟩, ⟨by omega, by omega⟩, ⟨by omega, by omega⟩, ⟨by omega, by omega⟩, ?_⟩, fun ht => ?_⟩
    · have hf' : l.getD i false = false := by simpa [-List.getD_eq_getElem?_getD] using hf
      unfold VC23_k2
      simp only [Int.toNat_natCast]
      refine VC43_of ⟨⟨by omega, by omega⟩, ⟨by omega, by omega⟩, hX _ ⟨i + 1, by omega, by simp, by dsimp only; exact hb2.1, by dsimp only; exact hb2.2, ?_, by dsimp only; omega, by dsimp only; omega⟩ (by dsimp only; omega)⟩
      dsimp only
      rw [hf'] at hrk ⊢
      simp only [Bool.false_eq_true, if_false] at hrk
      omega
    · have ht' : l.getD i false = true := by simpa [-List.getD_eq_getElem?_getD] using ht
      unfold VC23_k2
      simp only [Int.toNat_natCast]
      refine VC43_of ⟨⟨by omega, by omega⟩, ⟨by omega, by omega⟩, hX _ ⟨i + 1, by omega, by simp, by dsimp only; exact hb2.1, by dsimp only; exact hb2.2, ?_, by dsimp only; omega, by dsimp only; omega⟩ (by dsimp only; omega)⟩
      dsimp only
      rw [ht'] at hrk ⊢
      simp only [if_true] at hrk
      omega
  · simp only [decide_eq_false_iff_not] at hge
    have : i = l.length := by omega
    subst this
    rw [List.drop_length, rk] at hrk
    unfold VC23_k1
    have := h hl hbal
    rw [← hrk, Int.add_zero] at this
    exact this

theorem balB_cut : ∀ (A B : List Bool) (h : Int), 0 ≤ h → balB (A ++ true :: false :: B) h = balB (A ++ B) h
  | [], B, h, h0 => by
    simp only [List.nil_append, balB]
    have e1 : h + hgtB true = h + 1 := rfl
    have e2 : h + 1 + hgtB false = h := by show h + 1 + -1 = h; omega
    have h1 : 0 ≤ h + 1 := by omega
    rw [e1, e2]
    simp [h0, h1]
  | a :: A, B, h, _ => by
    simp only [List.cons_append, balB]
    by_cases h0 : 0 ≤ h + hgtB a
    · rw [balB_cut A B _ h0]
    · simp [h0]

def NoAdj (l : List Bool) : Prop := ∀ j, j + 1 < l.length → ¬ (l.getD j false = true ∧ l.getD (j + 1) false = false)

theorem noAdj_tail {a : Bool} {s : List Bool} (h : NoAdj (a :: s)) : NoAdj s := by
  intro j hj
  have := h (j + 1) (by simp; omega)
  exact this

theorem noAdj_open : ∀ (s : List Bool) (h : Int), 0 ≤ h → NoAdj (true :: s) → balB (true :: s) h = false
  | [], h, h0, _ => by
    have e : h + hgtB true = h + 1 := rfl
    simp only [balB, e]
    have : ¬ h + 1 = 0 := by omega
    simp [this]
  | b :: s, h, h0, hn => by
    have hb : b = true := by
      cases b with
      | true => rfl
      | false => exact absurd ⟨rfl, rfl⟩ (hn 0 (by simp))
    subst hb
    have ih := noAdj_open s (h + 1) (by omega) (noAdj_tail hn)
    have e : h + hgtB true = h + 1 := rfl
    rw [balB, e, ih, Bool.and_false]

theorem noAdj_bal {l : List Bool} (h : NoAdj l) : balB l 0 = decide (l = []) := by
  cases l with
  | nil => rfl
  | cons a s =>
    cases a with
    | true => rw [noAdj_open s 0 (by omega) h]; simp
    | false => simp [balB, hgtB]

theorem VC24_of {l : List Bool} (hl : l.length ≤ 16) {K : Bool → Prop} (h : K (balB l 0)) : VC24 l K := by
  unfold VC24
  refine ⟨by unfold roomN; simp; omega, ?_⟩
  rw [List.nil_append]
  refine Loop.by (fun s : Int × List Bool => s.2.length ≤ 16 ∧ balB s.2 0 = balB l 0 ∧ ∃ i : Nat, s.1 = (i : Int) ∧ i ≤ s.2.length ∧ ∀ j, j < i → j + 1 < s.2.length → ¬ (s.2.getD j false = true ∧ s.2.getD (j + 1) false = false)) (fun s => s.2.length * 100 + (s.2.length - s.1.toNat)) ⟨hl, rfl, 0, rfl, by omega, fun j hj => absurd hj (by omega)⟩ ?_
  rintro ⟨c, left⟩ ⟨h16, hb, i, e, hi, hno⟩ X hX
  dsimp only at h16 hb e hi hno
  subst e
  dsimp only
  unfold VC24_l1
  have ei1 : ((i : Int) + 1).toNat = i + 1 := by omega
  have ei2 : ((i : Int) + 2).toNat = i + 2 := by omega
  refine ⟨⟨by omega, by omega⟩, fun hlt => ?_, fun hge => ?_⟩
  · simp only [decide_eq_true_eq] at hlt
    have hil : i + 1 < left.length := by omega
    simp only [Int.toNat_natCast, ei1, ei2]
    refine ⟨⟨by omega, by omega⟩, fun _ => ⟨by omega, by omega⟩, fun _ => ⟨by omega, by omega⟩, fun hc => ?_, fun hc => ?_⟩
    · have hc1 : left.getD i false = true ∧ left.getD (i + 1) false = false := by simpa [-List.getD_eq_getElem?_getD] using hc
      have et : (left.drop (i + 2)).take (left.length - (i + 2)) = left.drop (i + 2) := List.take_of_length_le (by rw [List.length_drop]; exact Nat.le_refl _)
      rw [List.drop_zero, et, List.nil_append]
      have esplit : left = left.take i ++ true :: false :: left.drop (i + 2) := by
        have h1 := List.take_append_drop i left
        rw [drop_cons (by omega), drop_cons hil, hc1.1, hc1.2] at h1
        exact h1.symm
      have hlen : (left.take i ++ left.drop (i + 2)).length = left.length - 2 := by simp; omega
      refine ⟨⟨by omega, by omega⟩, ⟨by omega, by omega⟩, ⟨by omega, by omega⟩, by unfold roomN; simp; omega, by unfold roomN; simp; omega, ?_⟩
      unfold VC24_k2
      refine hX _ ⟨by dsimp only; omega, ?_, 0, rfl, Nat.zero_le _, fun j hj => absurd hj (by omega)⟩ ?_
      · dsimp only
        rw [← hb]
        have := balB_cut (left.take i) (left.drop (i + 2)) 0 (by omega)
        rw [← esplit] at this
        exact this.symm
      · dsimp only; rw [hlen]; simp; omega
    · unfold VC24_k2
      refine ⟨⟨by omega, by omega⟩, hX _ ⟨h16, hb, i + 1, by simp, by dsimp only; omega, fun j hj hj2 => ?_⟩ (by dsimp only; omega)⟩
      by_cases hji : j < i
      · exact hno j hji hj2
      · have : j = i := by omega
        subst this
        intro hh
        dsimp only at hh
        rw [hh.1, hh.2] at hc
        cases hc
  · simp only [decide_eq_false_iff_not] at hge
    unfold VC24_k1
    have hn : NoAdj left := fun j hj => hno j (by omega) hj
    have hd := noAdj_bal hn
    rw [hb] at hd
    have e : decide ((left.length : Int) = 0) = decide (left = []) := by
      rw [decide_eq_decide]
      constructor
      · intro h0; exact List.length_eq_zero_iff.1 (by omega)
      · intro h0; rw [h0]; rfl
    rw [e, ← hd]
    exact h

theorem VC25_of {n i : Int} {K : List Bool × Int → Prop} (hbad : ¬ (0 ≤ n ∧ n ≤ 8) → K ([], 1)) (hnone : 0 ≤ n → n ≤ 8 → ¬ (0 ≤ i ∧ i < wS (2 * n).toNat (2 * n).toNat 0) → K ([], 5))
    (h : 0 ≤ n → n ≤ 8 → ∀ w, w.length = (2 * n).toNat → balB w 0 = true → rk (2 * n).toNat w 0 = i → K (w, 0)) : VC25 n i K := by
  unfold VC25
  refine ⟨fun hc => hbad (fun hh => ?_), fun hc => ?_⟩
  · simp at hc; omega
  have hn : 0 ≤ n ∧ n ≤ 8 := by simp at hc; omega
  obtain ⟨S, hS⟩ : ∃ S : Nat, 2 * n = (S : Int) := ⟨(2 * n).toNat, by omega⟩
  rw [hS] at hnone h ⊢
  simp only [Int.toNat_natCast] at hnone h
  refine ⟨⟨by omega, by omega⟩, VC41_of (by omega) ?_⟩
  have e0 : ((0 : Int)).toNat = 0 := rfl
  simp only [Int.toNat_natCast, e0, wTab_get (show S < S + 1 by omega), wTab_len, wRow_len, wRow_get (show 0 < S + 2 by omega)]
  refine ⟨fun _ => ⟨by omega, by omega⟩, fun _ => ⟨by omega, by omega⟩, fun _ => ⟨by omega, by omega⟩, fun hno => hnone hn.1 hn.2 (by simp at hno; omega), fun hyes => ⟨⟨by omega, by omega⟩, ⟨by omega, by omega⟩, ?_⟩⟩
  have hi : 0 ≤ i ∧ i < wS S S 0 := by simp at hyes; omega
  refine Loop.by (fun s : Int × Int × Int × List Bool => ∃ l : Nat, l ≤ S ∧ s.2.2.1 = (l : Int) - 1 ∧ s.2.2.2.length = S - l ∧ (0 ≤ s.2.1 ∧ s.2.1 ≤ (S : Int) - (l : Int)) ∧ (0 ≤ s.1 ∧ s.1 < wS S l s.2.1.toNat) ∧
    ∀ t : List Bool, t.length = l → balB t s.2.1 = true → balB (s.2.2.2 ++ t) 0 = true ∧ rk S (s.2.2.2 ++ t) 0 = i - s.1 + rk S t s.2.1) (fun s => (s.2.2.1 + 1).toNat) ⟨S, Nat.le_refl _, rfl, by simp, ⟨by simp, by simp⟩, hi, fun t _ hb => ⟨hb, by simp⟩⟩ ?_
  rintro ⟨i2, hv, left, out⟩ ⟨l, hl, e1, hlen, ⟨hv0, hv1⟩, ⟨hi0, hi1⟩, hall⟩ X hX
  dsimp only at e1 hlen hv0 hv1 hi0 hi1 hall
  subst e1
  dsimp only
  unfold VC25_l1
  refine ⟨fun hlt => ?_, fun hge => ?_⟩
  · simp only [decide_eq_true_eq] at hlt
    obtain ⟨l', rfl⟩ : ∃ l', l = l' + 1 := ⟨l - 1, by omega⟩
    have hleft : (((l' + 1 : Nat) : Int) - 1) = (l' : Int) := by omega
    have ev1 : (hv + 1).toNat = hv.toNat + 1 := by omega
    rw [wS, if_pos (show hv.toNat ≤ S by omega)] at hi1
    have hwb := wS_small S (t := l') (by omega) (hv.toNat + 1)
    have hwb2 := wS_small S (t := l') (by omega) (hv.toNat - 1)
    simp only [hleft, Int.toNat_natCast, ev1, wTab_get (show l' < S + 1 by omega), wTab_len, wRow_len, wRow_get (show hv.toNat + 1 < S + 2 by omega)]
    have tail : ∀ (b : Bool) (i3 : Int), (decide (i2 < wS S l' (hv.toNat + 1))) = b → (0 ≤ hv + hgtB b) → (hv + hgtB b ≤ (S : Int) - (l' : Int)) → (0 ≤ i3 ∧ i3 < wS S l' (hv + hgtB b).toNat) → (i3 = i2 - (if b then 0 else wS S l' (hv.toNat + 1))) → VC25_k2 (wTab S (S + 1)) i2 hv (l' : Int) out X i3 := by
      intro b i3 hb g0 g1 g2 g3
      unfold VC25_k2
      simp only [Int.toNat_natCast, ev1, wTab_get (show l' < S + 1 by omega), wRow_get (show hv.toNat + 1 < S + 2 by omega), hb]
      refine ⟨by unfold roomN; simp; omega, VC43_of ⟨⟨by omega, by omega⟩, ⟨by omega, by omega⟩, hX _ ⟨l', by omega, rfl, by simp; omega, ⟨g0, g1⟩, g2, fun t ht hbt => ?_⟩ (by dsimp only; omega)⟩⟩
      dsimp only at hbt ⊢
      have hb2 : balB (b :: t) hv = true := by rw [balB, hbt]; simp [g0]
      obtain ⟨k1, k2⟩ := hall (b :: t) (by simp [ht]) hb2
      rw [List.append_assoc]
      refine ⟨k1, ?_⟩
      show rk S (out ++ b :: t) 0 = _
      rw [k2, rk, ht, g3, ev1]
      omega
    refine ⟨⟨by omega, by omega⟩, ⟨by omega, by omega⟩, ⟨by omega, by omega⟩, fun hcl => ?_, fun hop => ?_⟩
    · have hcl' : ¬ i2 < wS S l' (hv.toNat + 1) := by simpa using hcl
      have hp : 0 < hv.toNat := by
        refine Nat.pos_of_ne_zero fun h0 => ?_
        rw [if_neg (by omega)] at hi1
        omega
      rw [if_pos hp] at hi1
      have e2 : hv + hgtB false = hv - 1 := rfl
      have e3 : (hv - 1).toNat = hv.toNat - 1 := by omega
      refine ⟨⟨by omega, by omega⟩, ⟨by omega, by omega⟩, ⟨by omega, by omega⟩, ⟨by omega, by omega⟩, ?_⟩
      exact tail false _ (by simpa using hcl') (by rw [e2]; omega) (by rw [e2]; omega) ⟨by omega, by rw [e2, e3]; omega⟩ (by simp)
    · have hop' : i2 < wS S l' (hv.toNat + 1) := by simpa using hop
      have e2 : hv + hgtB true = hv + 1 := rfl
      exact tail true i2 (by simpa using hop') (by rw [e2]; omega) (by rw [e2]; omega) ⟨hi0, by rw [e2, ev1]; exact hop'⟩ (by simp)
  · simp only [decide_eq_false_iff_not] at hge
    have : l = 0 := by omega
    subst this
    unfold VC25_k1
    have hz : hv = 0 ∧ i2 = 0 := by
      simp only [wS] at hi1
      split at hi1
      · omega
      · omega
    obtain ⟨k1, k2⟩ := hall [] rfl (by simp [balB, hz.1])
    rw [List.append_nil] at k1 k2
    refine h hn.1 hn.2 out (by omega) k1 ?_
    rw [k2, rk, hz.2]
    omega

theorem bracketBack {l : List Bool} {n i : Int} (hlm : l.length ≤ 9223372036854775807) : VC7 l n i (fun b => b = true) := by
  have last : VC7_k1 n i (fun b => b = true) := by
    unfold VC7_k1
    refine VC25_of (fun _ => ⟨fun _ => (by simp), fun hc => (by simp at hc)⟩) (fun _ _ _ => ⟨fun _ => (by simp), fun hc => (by simp at hc)⟩) fun h0 h8 w hw hb hr => ⟨fun hc => (by simp at hc), fun _ => ?_⟩
    refine VC18_of (by dsimp only; omega) (VC23_of (fun hno => absurd ⟨by dsimp only; omega, hb⟩ hno) fun _ _ => ?_)
    dsimp only
    refine ⟨fun _ => ⟨by omega, by omega⟩, ?_⟩
    rw [hb, hw, hr]
    have : (((2 * n).toNat : Nat) : Int) = 2 * n := by omega
    simp [this]
  unfold VC7
  refine VC23_of (fun hno e he => gcall_of (balB l 0) (fun hc hk => VC24_of (by simp at hc; omega) hk) ⟨fun _ => ⟨fun hc => absurd (by simpa using hc) he, fun _ => last⟩, fun hc => ?_⟩) (fun h16 hb => gcall_of (balB l 0) (fun hc hk => VC24_of h16 hk) ?_)
  · exfalso
    apply hno
    by_cases h : (16 : Int) < (l.length : Int)
    · simp [h] at hc
    · simp [h] at hc
      exact ⟨by omega, hc⟩
  · have h : ¬ (16 : Int) < (l.length : Int) := by omega
    simp only [h, decide_false, Bool.not_false, if_true, Bool.false_or, hb, Bool.not_true]
    refine ⟨fun hc => (by cases hc), fun _ => ⟨⟨by omega, by omega⟩, ?_⟩⟩
    have hev := balB_even hb
    have e2 : 2 * ((l.length : Int) / 2) = (l.length : Int) := by omega
    have e3 : (2 * ((l.length : Int) / 2)).toNat = l.length := by omega
    have hrb := rk_bound l.length (s := l) (h := 0) (Nat.le_refl _) (by omega) hb
    refine VC25_of (fun hno => absurd ⟨by omega, by omega⟩ hno) (fun _ _ hno => ?_) fun _ _ w hw hbw hr => ?_
    · rw [e3] at hno
      exact absurd hrb hno
    · rw [e3] at hw hr
      have hwl : w = l := rk_inj l.length (by omega) (by omega) (by omega) hbw hb hr
      subst hwl
      refine ⟨fun hc => (by simp at hc), fun _ => ?_⟩
      refine loop_count w.length (fun _ => True) trivial ?_
      intro j hj _ X hX
      unfold VC7_l1
      refine ⟨fun hlt => ?_, fun hge => ?_⟩
      · simp only [decide_eq_true_eq] at hlt
        exact ⟨⟨by omega, by omega⟩, ⟨by omega, by dsimp only; omega⟩, fun hc => (by simp at hc), fun _ => ⟨⟨by omega, by omega⟩, hX (by omega) trivial⟩⟩
      · unfold VC7_k2
        exact last
end Dec
