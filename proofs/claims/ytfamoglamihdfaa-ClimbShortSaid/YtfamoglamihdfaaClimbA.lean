/-
  Plain contracts of climb.check, before, within, Show, Read and of the checks' answer in the document.
-/
import Derived.Test.YtfamoglamihdfaaGenCb
import Derived.Test.YtfamoglamihdfaaLib
set_option linter.unusedSimpArgs false
set_option linter.unusedVariables false
namespace Dec
open Go

abbrev Ops := List (Int × Bool)

def OpsOk (ops : Ops) : Prop := ∀ i j : Nat, j < i → i < ops.length → ¬ ((ops.getD i (0, false)).1 = (ops.getD j (0, false)).1 ∧ (ops.getD i (0, false)).2 ≠ (ops.getD j (0, false)).2)

def sgOk (n : Nat) (parens : Bool) (s : Int) : Bool := (decide (100 ≤ s) || (decide (0 ≤ s) && decide (s < (n : Int)))) || (parens && (decide (s = -1) || decide (s = -2)))

structure GoodC (ops : Ops) (l : List Int) (parens : Bool) : Prop where
  n : ops.length ≤ 6
  m : l.length ≤ 60
  ok : OpsOk ops
  sg : ∀ s ∈ l, sgOk ops.length parens s = true

def clash (ops : Ops) (i : Nat) : Bool := (ops.take i).any fun x => decide ((ops.getD i (0, false)).1 = x.1) && ((ops.getD i (0, false)).2 != x.2)

theorem clash_iff {ops : Ops} {i : Nat} (hi : i < ops.length) : clash ops i = true ↔ ∃ j, j < i ∧ (ops.getD i (0, false)).1 = (ops.getD j (0, false)).1 ∧ (ops.getD i (0, false)).2 ≠ (ops.getD j (0, false)).2 := by
  unfold clash
  rw [List.any_eq_true]
  constructor
  · rintro ⟨x, hx, h⟩
    obtain ⟨j, hj, rfl⟩ := List.mem_iff_getElem.1 hx
    simp only [List.length_take] at hj
    refine ⟨j, by omega, ?_⟩
    rw [getD_lt (0, false) (show j < ops.length by omega)]
    simp only [List.getElem_take, Bool.and_eq_true, decide_eq_true_eq, bne_iff_ne] at h
    exact h
  · rintro ⟨j, hj, h1, h2⟩
    refine ⟨ops.getD j (0, false), ?_, by simp only [Bool.and_eq_true, decide_eq_true_eq, bne_iff_ne]; exact ⟨h1, h2⟩⟩
    rw [getD_lt (0, false) (show j < ops.length by omega)]
    exact List.mem_iff_getElem.2 ⟨j, by simp; omega, by simp⟩

theorem opsOk_iff {ops : Ops} : OpsOk ops ↔ ∀ i, i < ops.length → clash ops i = false := by
  constructor
  · intro h i hi
    cases hc : clash ops i with
    | false => rfl
    | true => obtain ⟨j, hj, h1⟩ := (clash_iff hi).1 hc; exact absurd h1 (h i j hj hi)
  · intro h i j hj hi hh
    have := h i hi
    rw [(clash_iff hi).2 ⟨j, hj, hh⟩] at this
    cases this

theorem sgOk_not (n : Nat) (parens : Bool) (s : Int) : (!sgOk n parens s) = (((!((decide ((0 : Int) ≤ s)) && (decide (s < (n : Int))))) && (decide (s < (100 : Int)))) && (!(((decide (s = (-1 : Int))) || (decide (s = (-2 : Int)))) && parens))) := by
  unfold sgOk
  have : decide (s < (100 : Int)) = !decide ((100 : Int) ≤ s) := by
    by_cases h : (100 : Int) ≤ s
    · simp [h]
    · simp [h]; omega
  rw [this]
  generalize decide ((100 : Int) ≤ s) = a
  generalize (decide ((0 : Int) ≤ s) && decide (s < (n : Int))) = b
  generalize (decide (s = (-1 : Int)) || decide (s = (-2 : Int))) = c
  cases a <;> cases b <;> cases c <;> cases parens <;> rfl

theorem VC72_of {s : Ops} {F : (Int × Bool) → (Bool → Prop) → Prop} {K : Bool → Prop} (f : (Int × Bool) → Bool) (hl : s.length ≤ 4611686018427387904) (hF : ∀ x ∈ s, ∀ K' : Bool → Prop, K' (f x) → F x K') (h : K (s.any f)) : VC72 s F K :=
  VCany_of (d := ((0 : Int), false)) f hl hF h

theorem VC48_of {s : List Int} {F : Int → (Bool → Prop) → Prop} {K : Bool → Prop} (f : Int → Bool) (hl : s.length ≤ 4611686018427387904) (hF : ∀ x ∈ s, ∀ K' : Bool → Prop, K' (f x) → F x K') (h : K (s.any f)) : VC48 s F K :=
  VCany_of (d := (0 : Int)) f hl hF h

theorem VC53_of {ops : Ops} {l : List Int} {parens : Bool} {K : Int → Prop} (hl : l.length ≤ 9223372036854775807) (hbad : ¬ GoodC ops l parens → ∀ e, e ≠ 0 → K e) (h : GoodC ops l parens → K 0) : VC53 ops l parens K := by
  unfold VC53
  refine ⟨fun hc => hbad (fun g => ?_) _ (by decide), fun hc => ?_⟩
  · have := g.n; have := g.m
    simp only [Bool.or_eq_true, decide_eq_true_eq] at hc
    omega
  simp only [Bool.or_eq_false_iff, decide_eq_false_iff_not] at hc
  obtain ⟨hn, hm⟩ := hc
  refine loop_count ops.length (fun i => ∀ j, j < i → clash ops j = false) (fun j hj => by omega) ?_
  intro i hi hP X hX
  unfold VC53_l1
  refine ⟨fun hb => ?_, fun hb => ?_⟩
  · simp only [decide_eq_true_eq] at hb
    have hil : i < ops.length := by omega
    refine ⟨⟨by omega, by omega⟩, ⟨by omega, by omega⟩, ?_⟩
    simp only [Int.toNat_natCast]
    refine VC72_of (fun x => decide ((ops.getD i (0, false)).1 = x.1) && ((ops.getD i (0, false)).2 != x.2)) (by simp; omega) (fun x hx K' hK => hK) ?_
    refine ⟨fun hb => hbad (fun g => ?_) _ (by decide), fun hb => ⟨⟨by omega, by omega⟩, hX hil fun j hj => ?_⟩⟩
    · have := opsOk_iff.1 g.ok i hil
      unfold clash at this
      rw [this] at hb
      cases hb
    · by_cases hji : j < i
      · exact hP j hji
      · have : j = i := by omega
        subst this
        exact hb
  · simp only [decide_eq_false_iff_not] at hb
    unfold VC53_k1
    refine VC48_of (fun s => !sgOk ops.length parens s) (by omega) (fun x hx K' hK => ?_) ?_
    · show K' _
      refine cast (congrArg K' ?_) hK
      exact sgOk_not _ _ _
    · have hiN : i = ops.length := by omega
      refine ⟨fun hb => hbad (fun g => ?_) _ (by decide), fun hb => h ⟨by omega, by omega, opsOk_iff.2 fun j hj => hP j (by omega), fun s hs => ?_⟩⟩
      · obtain ⟨x, hx, hx2⟩ := List.any_eq_true.1 hb
        rw [g.sg x hx] at hx2
        cases hx2
      · have := List.any_eq_false.1 hb s hs
        simpa using this

theorem VC57_of {ops : Ops} {l : List Int} {parens : Bool} {K : Int → Prop} (hl : l.length ≤ 9223372036854775807) (hbad : ¬ GoodC ops l parens → ∀ e, e ≠ 0 → K e) (h : GoodC ops l parens → K 0) : VC57 ops l parens K := by
  unfold VC57
  refine ⟨fun hc => hbad (fun g => ?_) _ (by decide), fun hc => ?_⟩
  · have := g.n; have := g.m
    simp only [Bool.or_eq_true, decide_eq_true_eq] at hc
    omega
  simp only [Bool.or_eq_false_iff, decide_eq_false_iff_not] at hc
  obtain ⟨hn, hm⟩ := hc
  refine loop_count ops.length (fun i => ∀ j, j < i → clash ops j = false) (fun j hj => by omega) ?_
  intro i hi hP X hX
  unfold VC57_l2
  refine ⟨fun hb => ?_, fun hb => ?_⟩
  · simp only [decide_eq_true_eq] at hb
    have hil : i < ops.length := by omega
    refine ⟨⟨by omega, by omega⟩, ⟨by omega, by omega⟩, ?_⟩
    refine loop_count i (fun j => ∀ k, k < j → ¬ ((ops.getD i (0, false)).1 = (ops.getD k (0, false)).1 ∧ (ops.getD i (0, false)).2 ≠ (ops.getD k (0, false)).2)) (fun j hj => by omega) ?_
    intro j hj hP2 X3 hX3
    unfold VC57_l3
    simp only [Int.toNat_natCast, List.length_take]
    have hgt : ∀ k, k < i → (ops.take i).getD k (0, false) = ops.getD k (0, false) := fun k hk => by
      rw [getD_lt (0, false) (show k < (ops.take i).length by simp; omega), getD_lt (0, false) (show k < ops.length by omega)]
      simp
    refine ⟨fun hb2 => ?_, fun hb2 => ?_⟩
    · simp only [decide_eq_true_eq] at hb2
      have hji : j < i := by omega
      simp only [hgt j hji]
      refine ⟨⟨by omega, by omega⟩, fun hb3 => hbad (fun g => ?_) _ (by decide), fun hb3 => ⟨⟨by omega, by omega⟩, hX3 (by omega) fun k hk => ?_⟩⟩
      · simp only [Bool.and_eq_true, decide_eq_true_eq, bne_iff_ne] at hb3
        exact g.ok i j hji hil hb3
      · by_cases hkj : k < j
        · exact hP2 k hkj
        · have : k = j := by omega
          subst this
          intro hh
          have : ((decide ((ops.getD i (0, false)).1 = (ops.getD k (0, false)).1)) && ((ops.getD i (0, false)).2 != (ops.getD k (0, false)).2)) = true := by
            simp only [Bool.and_eq_true, decide_eq_true_eq, bne_iff_ne]; exact hh
          rw [this] at hb3
          cases hb3
    · simp only [decide_eq_false_iff_not] at hb2
      unfold VC57_k3
      refine ⟨⟨by omega, by omega⟩, hX hil fun k hk => ?_⟩
      by_cases hki : k < i
      · exact hP k hki
      · have : k = i := by omega
        subst this
        cases hcl : clash ops k with
        | false => rfl
        | true =>
          obtain ⟨m, hm1, hm2⟩ := (clash_iff hil).1 hcl
          exact absurd hm2 (hP2 m (by omega))
  · simp only [decide_eq_false_iff_not] at hb
    have hiN : i = ops.length := by omega
    unfold VC57_k1
    refine loop_count l.length (fun k => ∀ s ∈ l.take k, sgOk ops.length parens s = true) (by simp) ?_
    intro k hk hP2 X3 hX3
    unfold VC57_l1
    simp only [Int.toNat_natCast]
    refine ⟨fun hb2 => ?_, fun hb2 => ?_⟩
    · simp only [decide_eq_true_eq] at hb2
      have hkl : k < l.length := by omega
      refine ⟨⟨by omega, by omega⟩, fun hb3 => ⟨⟨by omega, by omega⟩, hX3 hkl fun s hs => ?_⟩, fun hb3 => hbad (fun g => ?_) _ (by decide)⟩
      · rw [List.take_add_one, List.mem_append] at hs
        rcases hs with hs | hs
        · exact hP2 s hs
        · rw [List.getElem?_eq_getElem hkl] at hs
          simp only [Option.toList_some, List.mem_singleton] at hs
          subst hs
          simp only [getD_lt 0 hkl] at hb3
          exact hb3
      · have := g.sg _ (getD_mem (d := 0) hkl)
        unfold sgOk at this
        rw [this] at hb3
        cases hb3
    · simp only [decide_eq_false_iff_not] at hb2
      refine h ⟨by omega, by omega, opsOk_iff.2 fun j hj => hP j (by omega), fun s hs => hP2 s ?_⟩
      rw [List.take_of_length_le (by omega)]
      exact hs

theorem VC30_of {ops : Ops} {l : List Int} {parens : Bool} {K : Bool → Prop} (hl : l.length ≤ 9223372036854775807) (hbad : ¬ GoodC ops l parens → K false) (h : GoodC ops l parens → K true) : VC30 ops l parens K := by
  unfold VC30
  refine VC57_of hl (fun hn e he => ?_) (fun g => ?_)
  · rw [show decide (e = 0) = false by simpa using he]
    exact hbad hn
  · exact h g

/-- is the operation a done ahead of b, which comes behind it? -/
def bef (ops : Ops) (a b : Int) : Bool := (decide ((ops.getD b.toNat (0, false)).1 < (ops.getD a.toNat (0, false)).1)) || ((decide ((ops.getD a.toNat (0, false)).1 = (ops.getD b.toNat (0, false)).1)) && (!(ops.getD a.toNat (0, false)).2))

theorem VC55_of {ops : Ops} {a b : Int} {K : Bool → Prop} (ha : inIdx a ops.length) (hb : inIdx b ops.length) (h : K (bef ops a b)) : VC55 ops a b K :=
  ⟨ha, hb, fun _ => ha, fun _ => hb, fun _ _ => ha, h⟩

/-- slices.Concat -/
theorem VC56_of {ss : List (List Int)} {K : List Int → Prop} (hl : ss.length ≤ 1000) (hs : ∀ s ∈ ss, s.length ≤ 1000) (h : K ss.flatten) : VC56 ss K := by
  have hsum : ∀ i, (ss.take i).flatten.length ≤ 1000 * i := by
    intro i
    induction i with
    | zero => simp
    | succ i ih =>
      by_cases hi : i < ss.length
      · rw [List.take_add_one, List.getElem?_eq_getElem hi, List.flatten_append, List.length_append]
        have := hs _ (List.getElem_mem hi)
        simp only [Option.toList_some, List.flatten_cons, List.flatten_nil, List.append_nil]
        omega
      · rw [List.take_of_length_le (by omega)] at ih ⊢
        omega
  have hstep : ∀ i, i < ss.length → (ss.take (i + 1)).flatten = (ss.take i).flatten ++ ss.getD i [] := by
    intro i hi
    rw [List.take_add_one, List.getElem?_eq_getElem hi, List.flatten_append, getD_lt [] hi]
    simp
  unfold VC56
  have h0 := loop_state' (B := fun (s : Int × Int) X => VC56_l2 ss K s.1 s.2 X) ss.length (fun i => ((ss.take i).flatten.length : Int)) (fun _ => True) trivial ?_
  · simpa using h0
  intro i hi _ X hX
  unfold VC56_l2
  refine ⟨fun hb => ?_, fun hb => ?_⟩
  · simp only [decide_eq_true_eq] at hb
    have hil : i < ss.length := by omega
    have h1 := hsum i
    have h2 := hs _ (getD_mem (d := []) hil)
    simp only [Int.toNat_natCast]
    refine ⟨⟨by omega, by omega⟩, ⟨by omega, by omega⟩, fun hc => ?_, fun _ => ⟨⟨by omega, by omega⟩, ?_⟩⟩
    · simp only [decide_eq_true_eq] at hc; omega
    · have := hX hil trivial
      rw [hstep i hil] at this
      simpa using this
  · simp only [decide_eq_false_iff_not] at hb
    have hiN : i = ss.length := by omega
    have h1 := hsum i
    unfold VC56_k1 VC75
    have main : VC75_k1 (fun (ret24v : (List Int)) => Loop (σ := Int × (List Int)) (fun s X => VC56_l1 ss K s.1 s.2 X) ((0 : Int), ret24v)) ([] : List Int) := by
      unfold VC75_k1
      have h3 := loop_state (B := fun (s : Int × List Int) X => VC56_l1 ss K s.1 s.2 X) ss.length (fun i => (ss.take i).flatten) (fun _ => True) trivial ?_
      · simpa using h3
      intro k hk _ X hX
      unfold VC56_l1
      refine ⟨fun hb2 => ?_, fun hb2 => ?_⟩
      · simp only [decide_eq_true_eq] at hb2
        have hkl : k < ss.length := by omega
        have h4 := hsum k
        have h5 := hs _ (getD_mem (d := []) hkl)
        simp only [Int.toNat_natCast]
        refine ⟨⟨by omega, by omega⟩, ?_, ⟨by omega, by omega⟩, ?_⟩
        · unfold roomN; omega
        · rw [← hstep k hkl]; exact hX hkl trivial
      · simp only [decide_eq_false_iff_not] at hb2
        unfold VC56_k2
        rw [List.take_of_length_le (by omega)]
        exact h
    refine ⟨fun hc => ?_, fun _ => ⟨⟨by omega, by omega⟩, ⟨by omega, by omega⟩, fun hc => ⟨⟨by omega, by omega⟩, ?_, ⟨by omega, by omega⟩, ?_⟩, fun _ => main⟩⟩
    · simp only [decide_eq_true_eq] at hc; omega
    · simp only [decide_eq_true_eq] at hc; exact ⟨hc, by omega⟩
    · simpa using main

def wrapP (b : Bool) (w : List Int) : List Int := if b then -1 :: (w ++ [-2]) else w

theorem VC54_of {x : List Int × Int} {b : Bool} {K : List Int → Prop} (hx : x.1.length ≤ 1000) (h : K (wrapP b x.1)) : VC54 x b K := by
  unfold VC54
  cases b with
  | false => exact ⟨fun _ => h, fun hc => (by cases hc)⟩
  | true =>
    refine ⟨fun hc => (by cases hc), fun _ => VC56_of (by simp) (by simpa using hx) ?_⟩
    simpa [wrapP] using h

abbrev Wd := List Int × Int

def joinW (ops : Ops) (a b : Wd) (s : Int) : Wd := (wrapP (decide (0 ≤ a.2) && !bef ops a.2 s) a.1 ++ (s :: wrapP (decide (0 ≤ b.2) && bef ops s b.2) b.1), s)

/-- climb.Show, one sign; the stack's top stands ahead -/
def showStep (ops : Ops) : List Wd → Int → Option (List Wd)
  | st, s => if 100 ≤ s then some (([s], -1) :: st) else match st with
    | b :: a :: r => some (joinW ops a b s :: r)
    | _ => none

def showRun (ops : Ops) : List Wd → List Int → Option (List Wd)
  | st, [] => some st
  | st, s :: l => match showStep ops st s with
    | some st' => showRun ops st' l
    | none => none

def showRes (ops : Ops) (post : List Int) : List Int × Int := match showRun ops [] post with
  | some [w] => if 60 < w.1.length then ([], 1) else (w.1, 0)
  | _ => ([], 5)

def lenS (st : List Wd) : Nat := (st.map fun w => w.1.length).sum

theorem wrapP_len (b : Bool) (w : List Int) : (wrapP b w).length ≤ w.length + 2 := by
  unfold wrapP
  split <;> simp

theorem VC29_of {ops : Ops} {post : List Int} {K : List Int × Int → Prop} (hl : post.length ≤ 9223372036854775807) (hbad : ¬ GoodC ops post false → ∀ e, e ≠ 0 → K ([], e)) (h : GoodC ops post false → K (showRes ops post)) : VC29 ops post K := by
  unfold VC29
  refine VC53_of hl (fun hn e he => ⟨fun _ => hbad hn e he, fun hc => ?_⟩) (fun g => ⟨fun hc => (by cases hc), fun _ => ?_⟩)
  · simp only [Bool.not_eq_false', decide_eq_true_eq] at hc
    exact absurd hc he
  have h := h g
  have hm := g.m
  refine Loop.by (fun s => ∃ (i : Nat) (st : List Wd), i ≤ post.length ∧ s = ((i : Int), st.reverse) ∧ showRun ops st (post.drop i) = showRun ops [] post ∧ st.length ≤ i ∧ lenS st ≤ 5 * i ∧ ∀ w ∈ st, w.2 = -1 ∨ inIdx w.2 ops.length) (fun s => ((post.length : Int) - s.1).toNat) ⟨0, [], by omega, rfl, rfl, by simp, by simp [lenS], by simp⟩ ?_
  rintro s ⟨i, st, hi, rfl, hr, hsl, hlen, hroot⟩ X hX
  unfold VC29_l1
  simp only [Int.toNat_natCast, List.length_reverse]
  refine ⟨fun hb => ?_, fun hb => ?_⟩
  · simp only [decide_eq_true_eq] at hb
    have hil : i < post.length := by omega
    have hd : post.drop i = post.getD i 0 :: post.drop (i + 1) := by rw [List.drop_eq_getElem_cons hil, getD_lt 0 hil]
    have hsg := g.sg _ (getD_mem (d := 0) hil)
    obtain ⟨s, hs0⟩ : ∃ s, post.getD i 0 = s := ⟨_, rfl⟩
    simp only [hs0] at hd hsg ⊢
    refine ⟨⟨by omega, by omega⟩, fun hv => ?_, fun hv => ?_⟩
    · simp only [decide_eq_true_eq] at hv
      refine ⟨by unfold roomN; simp; omega, ⟨by omega, by omega⟩, hX _ ⟨i + 1, ([s], -1) :: st, by omega, by simp, ?_, by simp; omega, ?_, ?_⟩ (by simp only; omega)⟩
      · rw [← hr, hd]
        simp only [showRun, showStep, if_pos hv]
      · simp only [lenS, List.map_cons, List.sum_cons, List.length_cons, List.length_nil] at hlen ⊢
        omega
      · intro w hw
        rcases List.mem_cons.1 hw with rfl | hw
        · exact .inl rfl
        · exact hroot w hw
    · simp only [decide_eq_false_iff_not] at hv
      refine ⟨⟨by omega, by omega⟩, fun h2 => ?_, fun h2 => ?_⟩
      · simp only [decide_eq_true_eq] at h2
        have : showRun ops [] post = none := by
          rw [← hr, hd]
          match st, h2 with
          | [], _ => simp [showRun, showStep, hv]
          | [x], _ => simp [showRun, showStep, hv]
          | _ :: _ :: _, h2 => simp only [List.length_cons] at h2; omega
        unfold showRes at h
        rw [this] at h
        exact h
      · simp only [decide_eq_false_iff_not] at h2
        match st, h2 with
        | [], h2 => exact absurd (by simp) h2
        | [x], h2 => exact absurd (by simp) h2
        | b :: a :: r, h2 =>
          have hs : inIdx s ops.length := by
            simp only [sgOk, Bool.false_and, Bool.or_false, Bool.or_eq_true, decide_eq_true_eq, Bool.and_eq_true] at hsg
            rcases hsg with hsg | hsg
            · omega
            · exact hsg
          simp only [List.length_cons] at hsl
          have e1 : (((r.length + 1 + 1 : Nat) : Int) - 2).toNat = r.length := by omega
          have e2 : (((r.length + 1 + 1 : Nat) : Int) - 2 + 1).toNat = r.length + 1 := by omega
          have e3 : (b :: a :: r).reverse = r.reverse ++ [a, b] := by simp
          simp only [List.length_cons, e1, e2, e3]
          have g1 : (r.reverse ++ [a, b]).getD r.length ([], 0) = a := by
            rw [List.getD_eq_getElem?_getD, List.getElem?_append_right (by simp)]
            simp
          have g2 : (r.reverse ++ [a, b]).getD (r.length + 1) ([], 0) = b := by
            rw [List.getD_eq_getElem?_getD, List.getElem?_append_right (by simp)]
            simp
          rw [g1, g2]
          have ha := hroot a (by simp)
          have hb' := hroot b (by simp)
          simp only [lenS, List.map_cons, List.sum_cons] at hlen
          refine ⟨⟨by omega, by omega⟩, ⟨by omega, by omega⟩, ⟨by omega, by omega⟩, gcall_of (bef ops a.2 s) (fun hc hk => VC55_of ?_ hs hk) (VC54_of (by omega) (gcall_of (bef ops s b.2) (fun hc hk => VC55_of hs ?_ hk) (VC54_of (by omega) ⟨⟨by omega, by omega⟩, VC56_of (by simp) ?_ ⟨?_, ⟨by omega, by omega⟩, hX _ ⟨i + 1, joinW ops a b s :: r, by omega, ?_, ?_, by simp; omega, ?_, ?_⟩ (by simp only; omega)⟩⟩)))⟩
          · simp only [decide_eq_true_eq] at hc
            rcases ha with ha | ha
            · omega
            · exact ha
          · simp only [decide_eq_true_eq] at hc
            rcases hb' with hb' | hb'
            · omega
            · exact hb'
          · intro w hw
            have q1 := wrapP_len (decide (0 ≤ a.2) && !(if decide (0 ≤ a.2) then bef ops a.2 s else false)) a.1
            have q2 := wrapP_len (decide (0 ≤ b.2) && (if decide (0 ≤ b.2) then bef ops s b.2 else false)) b.1
            simp only [List.mem_cons, List.not_mem_nil, or_false] at hw
            rcases hw with rfl | rfl | rfl
            · omega
            · simp
            · omega
          · unfold roomN
            simp
            omega
          · have k1 : (decide (0 ≤ a.2) && !(if decide (0 ≤ a.2) then bef ops a.2 s else false)) = (decide (0 ≤ a.2) && !bef ops a.2 s) := by
              cases decide (0 ≤ a.2) <;> rfl
            have k2 : (decide (0 ≤ b.2) && (if decide (0 ≤ b.2) then bef ops s b.2 else false)) = (decide (0 ≤ b.2) && bef ops s b.2) := by
              cases decide (0 ≤ b.2) <;> rfl
            rw [k1, k2]
            have e4 : (r.reverse ++ [a, b]).take r.length = r.reverse := by
              rw [List.take_append_of_le_length (by simp), List.take_of_length_le (by simp)]
            rw [e4]
            simp [joinW]
          · rw [← hr, hd]
            simp only [showRun, showStep, if_neg hv]
          · have q1 := wrapP_len (decide (0 ≤ a.2) && !bef ops a.2 s) a.1
            have q2 := wrapP_len (decide (0 ≤ b.2) && bef ops s b.2) b.1
            simp only [lenS, List.map_cons, List.sum_cons, joinW, List.length_append, List.length_cons]
            omega
          · intro w hw
            rcases List.mem_cons.1 hw with rfl | hw
            · exact .inr hs
            · exact hroot w (by simp [hw])
  · simp only [decide_eq_false_iff_not] at hb
    have hiN : i = post.length := by omega
    rw [hiN, List.drop_length] at hr
    simp only [showRun] at hr
    unfold VC29_k1
    simp only [List.length_reverse]
    refine ⟨fun h1 => ?_, fun h1 => ?_⟩
    · simp only [Bool.not_eq_true', decide_eq_false_iff_not] at h1
      have : showRes ops post = ([], 5) := by
        unfold showRes
        rw [← hr]
        match st, h1 with
        | [], _ => rfl
        | [x], h1 => exact absurd rfl h1
        | _ :: _ :: _, _ => rfl
      rw [this] at h
      exact h
    · simp only [Bool.not_eq_false', decide_eq_true_eq] at h1
      match st, h1 with
      | [], h1 => simp at h1
      | _ :: _ :: _, h1 => simp only [List.length_cons] at h1; omega
      | [w], _ =>
        unfold showRes at h
        rw [← hr] at h
        refine ⟨⟨by omega, by simp⟩, fun h2 => ?_, fun h2 => ⟨⟨by omega, by simp⟩, ?_⟩⟩
        · simp only [decide_eq_true_eq] at h2
          have h3 : 60 < w.1.length := by
            have : ((60 : Int) < (w.1.length : Int)) := h2
            omega
          simp only [if_pos h3] at h
          exact h
        · simp only [decide_eq_false_iff_not] at h2
          have h3 : ¬ 60 < w.1.length := by
            have : ¬ ((60 : Int) < (w.1.length : Int)) := h2
            omega
          simp only [if_neg h3] at h
          exact h

end Dec
