/-
  Duval's factors: 'LyndonOne' in plain Lean.
-/
import Derived.Test.YtjjlefbbdnfjiaaLynB
set_option linter.unusedSimpArgs false
set_option linter.unusedVariables false
namespace Dec
open Go Go.Proofs Fine Lyn

theorem NI_snoc : ∀ {l : List (List Int)} {v : List Int}, NI l → (∀ x, l.getLast? = some x → ¬ LtL x v) → NI (l ++ [v])
  | [], _, _, _ => trivial
  | [a], v, _, h => ⟨h a rfl, trivial⟩
  | a :: b :: l, v, h1, h2 => ⟨h1.1, NI_snoc (l := b :: l) h1.2 (fun x hx => h2 x (by rw [List.getLast?_cons_cons]; exact hx))⟩

theorem seg_mul {f : Nat → Int} {i j P : Nat} (hper : ∀ t, i ≤ t → t + P < j → f t = f (t + P)) : ∀ m t, i ≤ t → t + m * P < j → f t = f (t + m * P) := by
  intro m
  induction m with
  | zero => intro t _ _; simp
  | succ m ih =>
    intro t h1 h2
    rw [Nat.add_mul, Nat.one_mul] at h2 ⊢
    rw [ih t h1 (by omega), hper (t + m * P) (by omega) (by omega), Nat.add_assoc]

theorem VC30_long {w : List Int} (hl : 60 < w.length) {K : List (List Int) × Int → Prop} (h : K ([], 1)) : VC30 w K := by
  unfold VC30
  refine VC38_of (by simp) ?_
  have : longB [w] = true := by simp [longB, hl]
  rw [this]
  exact ⟨fun _ => h, fun e => by simp at e⟩

/-- what is kept between two factors -/
structure DInv (w : List Int) (i : Nat) (out : List (List Int)) : Prop where
  le : i ≤ w.length
  flat : out.flatten = w.take i
  lyn : ∀ x ∈ out, Lyn x
  ni : NI out
  few : out.length ≤ i

theorem VC30_of {w : List Int} (hl : w.length ≤ 60) {K : List (List Int) × Int → Prop} (h : ∀ out, NI out → (∀ x ∈ out, Lyn x) → out.flatten = w → K (out, 0)) : VC30 w K := by
  unfold VC30
  refine VC38_of (by simp) ?_
  have : longB [w] = false := by simp [longB]; omega
  rw [this]
  simp only [Bool.false_eq_true, if_false]
  refine ⟨fun e => by simp at e, fun _ => ?_⟩
  refine Loop.by (fun s : Int × List (List Int) => ∃ i : Nat, s.1 = (i : Int) ∧ DInv w i s.2 ∧ ∀ v, s.2.getLast? = some v → LtL (w.drop i) v) (fun s => ((w.length : Int) - s.1).toNat) ⟨0, rfl, ⟨by omega, by simp, by simp, trivial, by simp⟩, fun v hv => by simp at hv⟩ ?_
  rintro ⟨i', out⟩ ⟨i, e, hD, hlast⟩ X hX
  simp only at e hD hlast
  subst e
  unfold VC30_l1 VC30_k1
  refine ⟨fun hb => ⟨by have := hD.le; exact ⟨by omega, by omega⟩, ?_⟩, fun hb => ?_⟩
  · simp only [decide_eq_true_eq] at hb
    refine Loop.by (fun s : Int × Int => ∃ j k : Nat, s = ((j : Int), (k : Int)) ∧ i ≤ k ∧ k < j ∧ j ≤ w.length ∧ Seg (fun t => w.getD t 0) i (j - k) ∧ ∀ t, i ≤ t → t + (j - k) < j → w.getD t 0 = w.getD (t + (j - k)) 0) (fun s => ((w.length : Int) - s.1).toNat) ⟨i + 1, i, by simp, by omega, by omega, by omega, ⟨by omega, fun d h1 h2 => by omega⟩, fun t h1 h2 => by omega⟩ ?_
    rintro ⟨j', k'⟩ ⟨j, k, e, h1, h2, h3, hseg, hper⟩ Y hY
    obtain ⟨rfl, rfl⟩ := Prod.mk.inj e
    unfold VC30_l3
    refine ⟨fun hc => ?_, fun hc => ?_, fun hc => ?_, fun hc => ?_⟩
    · simp only [decide_eq_true_eq] at hc; exact ⟨by omega, by omega⟩
    · simp only [decide_eq_true_eq] at hc; exact ⟨by omega, by omega⟩
    · simp only [Bool.and_eq_true, decide_eq_true_eq, Int.toNat_natCast] at hc
      simp only [Int.toNat_natCast]
      unfold VC30_k4
      refine ⟨⟨by omega, by omega⟩, ⟨by omega, by omega⟩, fun hd => ⟨⟨by omega, by omega⟩, hY _ ⟨j + 1, i, by simp, by omega, by omega, by omega, ?_, fun t h4 h5 => by omega⟩ (by simp only; omega)⟩, fun hd => ⟨⟨by omega, by omega⟩, ⟨by omega, by omega⟩, hY _ ⟨j + 1, k + 1, by simp, by omega, by omega, by omega, ?_, fun t h4 h5 => ?_⟩ (by simp only; omega)⟩⟩
      · simp only [decide_eq_true_eq] at hd
        exact seg_grow hseg (by omega) hper (by rw [show j - (j - k) = k by omega]; exact hd)
      · rw [show j + 1 - (k + 1) = j - k by omega]; exact hseg
      · rw [show j + 1 - (k + 1) = j - k by omega] at h5 ⊢
        by_cases e : t + (j - k) < j
        · exact hper t h4 e
        · have e2 : t = k := by omega
          subst e2
          simp only [decide_eq_false_iff_not] at hd
          rw [show t + (j - t) = j by omega]
          omega
    · -- the factors
      have hexit : j = w.length ∨ (j < w.length ∧ w.getD j 0 < w.getD k 0) := by
        simp only [Bool.and_eq_false_iff, decide_eq_false_iff_not, Int.toNat_natCast] at hc
        by_cases e : j < w.length
        · right
          rcases hc with hc | hc
          · omega
          · exact ⟨e, by omega⟩
        · left; omega
      clear hc
      unfold VC30_k2
      generalize hP : j - k = P at hseg hper
      have hP0 : 0 < P := by omega
      have hmul := seg_mul (f := fun t => w.getD t 0) hper
      have hV : Lyn ((w.drop i).take P) := seg_lyn (by omega) hseg
      have hcutlen : ∀ a : Nat, a + P ≤ w.length → ((w.take (a + P)).drop a).length = P := by
        intro a ha; simp only [List.length_drop, List.length_take]; omega
      have hcut : ∀ m, i + m * P + P ≤ j → (w.take (i + m * P + P)).drop (i + m * P) = (w.drop i).take P := by
        intro m hm
        refine ext_getD 0 (by rw [hcutlen _ (by omega)]; simp only [List.length_take, List.length_drop]; omega) fun t ht => ?_
        rw [hcutlen _ (by omega)] at ht
        have e1 : ((w.take (i + m * P + P)).drop (i + m * P)).getD t 0 = w.getD (i + m * P + t) 0 := by
          simp only [List.getD, List.getElem?_drop, List.getElem?_take]
          rw [if_pos (by omega)]
        have e2 : ((w.drop i).take P).getD t 0 = w.getD (i + t) 0 := by
          simp only [List.getD, List.getElem?_drop, List.getElem?_take]
          rw [if_pos ht]
        rw [e1, e2]
        have := hmul m (i + t) (by omega) (by omega)
        rw [this]
        congr 1
        omega
      refine Loop.by (fun s : Int × List (List Int) => ∃ m : Nat, s.1 = ((i + m * P : Nat) : Int) ∧ i + m * P ≤ j ∧ DInv w (i + m * P) s.2 ∧ ((m = 0 ∧ s.2 = out) ∨ (1 ≤ m ∧ s.2.getLast? = some ((w.drop i).take P)))) (fun s => ((k : Int) + 1 - s.1).toNat) ⟨0, by simp, by omega, by simpa using hD, Or.inl ⟨rfl, rfl⟩⟩ ?_
      rintro ⟨i2', out2⟩ ⟨m, e, hm, hD2, hor⟩ Z hZ
      simp only at e hD2 hor
      subst e
      unfold VC30_l2 VC30_k3
      have hnext : i + m * P + P = i + (m + 1) * P := by rw [Nat.add_mul, Nat.one_mul]; omega
      refine ⟨fun hd => ?_, fun hd => ?_⟩
      · simp only [decide_eq_true_eq] at hd
        have e3 : (((i + m * P : Nat) : Int) + (j : Int) - (k : Int)) = ((i + m * P + P : Nat) : Int) := by omega
        have e4 : (((i + m * P : Nat) : Int) + ((j : Int) - (k : Int))) = ((i + (m + 1) * P : Nat) : Int) := by omega
        simp only [e3, e4, Int.toNat_natCast]
        have hstep : i + m * P + P ≤ j := by omega
        rw [hcut m hstep]
        refine ⟨⟨by omega, by omega⟩, ⟨by omega, by omega⟩, ⟨by omega, by omega, by omega⟩, VC41_of (by simp only [List.length_take]; omega) ⟨?_, ⟨by omega, by omega⟩, ⟨by omega, by omega⟩, hZ _ ⟨m + 1, rfl, by omega, ⟨by omega, ?_, ?_, ?_, ?_⟩, Or.inr ⟨by omega, by simp⟩⟩ (by simp only; omega)⟩⟩
        · have := hD2.few
          simp only [roomN, List.length_singleton]
          omega
        · simp only [List.flatten_append, hD2.flat, List.flatten_cons, List.flatten_nil, List.append_nil]
          rw [← hcut m hstep, ← hnext]
          conv => rhs; rw [← List.take_append_drop (i + m * P) (w.take (i + m * P + P)), List.take_take]
          rw [Nat.min_eq_left (by omega)]
        · intro x hx
          rcases List.mem_append.1 hx with hx | hx
          · exact hD2.lyn x hx
          · rw [List.mem_singleton.1 hx]; exact hV
        · refine NI_snoc hD2.ni fun x hx => ?_
          rcases hor with ⟨rfl, rfl⟩ | ⟨_, hl2⟩
          · intro hlt
            have h5 := LtL_trans (hlast x hx) hlt
            have h6 : w.drop i = (w.drop i).take P ++ (w.drop i).drop P := (List.take_append_drop _ _).symm
            rw [h6] at h5
            rw [List.take_left'] at h5
            · exact not_lt_prefix h5
            · simp only [List.length_take, List.length_drop]; omega
          · rw [hl2] at hx
            injection hx with hx
            rw [← hx]
            exact LtL_irrefl _
        · have := hD2.few
          simp only [List.length_append, List.length_singleton]
          omega
      · simp only [decide_eq_false_iff_not] at hd
        have hm1 : 1 ≤ m := by
          rcases Nat.eq_zero_or_pos m with e | e
          · subst e; simp at hd; omega
          · exact e
        have hlast2 : out2.getLast? = some ((w.drop i).take P) := by
          rcases hor with ⟨e, _⟩ | ⟨_, hl2⟩
          · omega
          · exact hl2
        refine hX _ ⟨i + m * P, rfl, hD2, fun v hv => ?_⟩ ?_
        · rw [hlast2] at hv
          injection hv with hv
          subst hv
          -- the rest is before the last factor
          have hVl : ((w.drop i).take P).length = P := by simp only [List.length_take, List.length_drop]; omega
          have hVg : ∀ t, t < P → ((w.drop i).take P).getD t 0 = w.getD (i + t) 0 := by
            intro t ht
            simp only [List.getD, List.getElem?_drop, List.getElem?_take]
            rw [if_pos ht]
          have hrg : ∀ t, (w.drop (i + m * P)).getD t 0 = w.getD (i + m * P + t) 0 := by
            intro t
            simp only [List.getD, List.getElem?_drop]
          have hsame : ∀ t, i + m * P + t < j → t < P → (w.drop (i + m * P)).getD t 0 = ((w.drop i).take P).getD t 0 := by
            intro t ht1 ht2
            rw [hrg, hVg t ht2]
            have := hmul m (i + t) (by omega) (by omega)
            rw [this]
            congr 1
            omega
          rcases hexit with hj | ⟨hj, hlt⟩
          · have e5 : (w.drop i).take P = w.drop (i + m * P) ++ ((w.drop i).take P).drop (w.length - (i + m * P)) := by
              have hl1 : (w.drop (i + m * P)).length = w.length - (i + m * P) := by simp
              conv => lhs; rw [← List.take_append_drop (w.length - (i + m * P)) ((w.drop i).take P)]
              congr 1
              refine ext_getD 0 (by rw [hl1, List.length_take, hVl]; omega) fun t ht => ?_
              rw [List.length_take, hVl] at ht
              rw [hsame t (by omega) (by omega)]
              simp only [List.getD]
              rw [List.getElem?_take, if_pos (by omega)]
            rw [e5]
            refine LtL_prefix fun e => ?_
            have := congrArg List.length e
            rw [List.length_drop, hVl] at this
            simp only [List.length_nil] at this
            omega
          · refine SL_lt ⟨j - (i + m * P), by simp only [List.length_drop]; omega, by rw [hVl]; omega, ?_, fun s hs => hsame s (by omega) (by omega)⟩
            rw [hrg, hVg _ (by omega), show i + m * P + (j - (i + m * P)) = j by omega]
            obtain ⟨m, rfl⟩ : ∃ n, m = n + 1 := ⟨m - 1, by omega⟩
            rw [Nat.add_mul, Nat.one_mul] at hm ⊢
            have := hmul m (i + (j - (i + (m * P + P)))) (by omega) (by omega)
            rw [this, show i + (j - (i + (m * P + P))) + m * P = k by omega]
            exact hlt
        · have : P ≤ m * P := Nat.le_mul_of_pos_left P hm1
          simp only
          omega
  · simp only [decide_eq_false_iff_not] at hb
    have := hD.le
    refine h out hD.ni hD.lyn ?_
    rw [hD.flat, List.take_of_length_le (by omega)]

theorem lyndonOne (parts : List (List Int)) (hl : parts.length ≤ 1048576) : VC9 parts (fun b => b = true) := by
  unfold VC9
  refine Loop.by (fun s : Int × List Int => ∃ n : Nat, s.1 = (n : Int) ∧ n ≤ parts.length ∧ s.2 = (parts.take n).flatten ∧ s.2.length ≤ 60 * n ∧ (∀ x ∈ parts.take n, Lyn x) ∧ NI (parts.take n)) (fun s => ((parts.length : Int) - s.1).toNat) ⟨0, rfl, by omega, by simp, by simp, by simp, trivial⟩ ?_
  rintro ⟨n', all⟩ ⟨n, e, hn, hall, hlen, hlyn, hni⟩ X hX
  simp only at e hall hlen
  subst e
  unfold VC9_l2
  refine ⟨fun hb => ?_, fun hb => ?_⟩
  · simp only [decide_eq_true_eq] at hb
    have hnl : n < parts.length := by omega
    simp only [Int.toNat_natCast]
    refine ⟨⟨by omega, by omega⟩, ?_⟩
    by_cases hp : 60 < (parts.getD n []).length
    · refine VC27_long hp ⟨fun _ => VC16_of (by simp) ?_, fun e => by simp at e⟩
      simp [longB] at hp ⊢
      exact hp
    · refine VC27_of (by omega) fun a ha => ⟨fun e => by simp at e, fun _ => VC28_of (by omega) fun c hc => ?_⟩
      have hac : a = c := by
        cases a <;> cases c <;> simp_all
      subst hac
      refine ⟨fun e => by simp at e, fun _ => ⟨fun _ h0 => ?_, fun _ h0 => ?_, ?_⟩⟩
      · simp only [decide_eq_true_eq] at h0; exact ⟨by omega, by omega⟩
      · simp only [decide_eq_true_eq] at h0; exact ⟨by omega, by omega⟩
      cases a with
      | false => simp [gcall]
      | true =>
        have hL := ha.1 rfl
        have htake : parts.take (n + 1) = parts.take n ++ [parts.getD n []] := by
          rw [List.take_add_one, getD_lt [] hnl, List.getElem?_eq_getElem hnl]; rfl
        have step : (∀ x, (parts.take n).getLast? = some x → ¬ LtL x (parts.getD n [])) → (roomN (all.length + (parts.getD n []).length) ∧ (InR ((n : Int) + (1 : Int)) ∧ X (((n : Int) + (1 : Int)), (all ++ parts.getD n [])))) := by
          intro hle
          refine ⟨by simp only [roomN]; omega, ⟨by omega, by omega⟩, hX _ ⟨n + 1, by simp, by omega, ?_, ?_, ?_, ?_⟩ (by simp only; omega)⟩
          · simp only [htake, List.flatten_append, hall]; simp
          · simp only [List.length_append]; omega
          · intro x hx
            rw [htake] at hx
            rcases List.mem_append.1 hx with hx | hx
            · exact hlyn x hx
            · rw [List.mem_singleton.1 hx]; exact hL
          · rw [htake]; exact NI_snoc hni hle
        by_cases h0 : n = 0
        · subst h0
          simp only [gcall]
          simp
          have := step (by simp)
          simpa using this
        · have hd : decide ((0 : Int) < (n : Int)) = true := decide_eq_true (by omega)
          rw [hd]
          simp only [gcall]
          rw [if_pos (by rfl), show ((n : Int) - 1).toNat = n - 1 by omega]
          have hlastget : (parts.take n).getLast? = some (parts.getD (n - 1) []) := by
            rw [List.getLast?_eq_getElem?, List.length_take, Nat.min_eq_left hn, List.getElem?_take, if_pos (by omega), getD_opt (d := []) (by omega)]
          have hprev : Lyn (parts.getD (n - 1) []) := hlyn _ (List.mem_of_getLast? hlastget)
          have hpl : (parts.getD (n - 1) []).length ≤ all.length := by
            rw [hall]
            exact List.Sublist.length_le (List.sublist_flatten_of_mem (List.mem_of_getLast? hlastget))
          refine VC29_of (by omega) ⟨fun e => by simp, fun e => step fun x hx => ?_⟩
          rw [hlastget] at hx
          injection hx with hx
          subst hx
          simpa using e
  · simp only [decide_eq_false_iff_not] at hb
    have en : n = parts.length := by omega
    subst en
    rw [List.take_length] at hall hlyn hni
    unfold VC9_k1
    simp only
    by_cases hal : 60 < all.length
    · refine VC30_long hal (VC16_of (by simp) ?_)
      have : longB [all] = true := by simp [longB, hal]
      rw [this]
      exact ⟨fun _ => by simp, fun e => by simp at e⟩
    · refine VC30_of (by omega) fun out h1 h2 h3 => VC16_of (by simp) ?_
      have : longB [all] = false := by simp [longB]; omega
      rw [this]
      refine ⟨fun e => by simp at e, fun _ => ?_⟩
      have heq : out = parts := uniq h1 hni h2 hlyn (by rw [h3, hall])
      subst heq
      refine ⟨fun e => by simp at e, fun _ => ?_⟩
      refine loop_count out.length (fun _ => True) trivial ?_
      intro i hi _ Y hY
      unfold VC9_l1 VC9_k2
      refine ⟨fun hc => ?_, fun _ => rfl⟩
      simp only [decide_eq_true_eq] at hc
      simp only [Int.toNat_natCast]
      have hm : out.getD i [] ∈ out := getD_mem (by omega)
      have hil : (out.getD i []).length ≤ all.length := by
        rw [hall]
        exact List.Sublist.length_le (List.sublist_flatten_of_mem hm)
      refine ⟨⟨by omega, by omega⟩, ⟨by omega, by omega⟩, VC21_of (by omega) ?_⟩
      rw [decide_eq_true rfl]
      exact ⟨fun e => by simp at e, fun _ => ⟨⟨by omega, by omega⟩, hY (by omega) trivial⟩⟩
end Dec
