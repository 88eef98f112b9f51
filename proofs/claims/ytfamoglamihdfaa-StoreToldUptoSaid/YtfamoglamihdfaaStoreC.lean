/-
  thicket.Sorted has one answer for each forest.
-/
import Derived.Test.YtfamoglamihdfaaGenSc
import Derived.Test.YtfamoglamihdfaaStoreA
set_option linter.unusedSimpArgs false
set_option linter.unusedVariables false
namespace Dec
open Go

/-- a loop whose rounds all know where they go has one outcome -/
theorem loop_det {σ O Q : Type} (B : Q → σ → (σ → Prop) → Prop) (dem : O → Q → Prop) (Gd : O → Prop) (I : σ → Prop) (mu : σ → Nat)
    (hstep : ∀ s, I s → (∃ o, Gd o ∧ ∀ q X, dem o q → B q s X) ∨ (∃ s', I s' ∧ mu s' < mu s ∧ ∀ q (X : σ → Prop), X s' → B q s X)) :
    ∀ (n : Nat) (s : σ), mu s ≤ n → I s → ∃ o, Gd o ∧ ∀ q, dem o q → Loop (B q) s := by
  intro n
  induction n with
  | zero =>
    intro s hm hI
    rcases hstep s hI with ⟨o, ho, h⟩ | ⟨s', _, hlt, _⟩
    · exact ⟨o, ho, fun q hq X hX => hX s (h q X hq)⟩
    · omega
  | succ n ih =>
    intro s hm hI
    rcases hstep s hI with ⟨o, ho, h⟩ | ⟨s', hI', hlt, h⟩
    · exact ⟨o, ho, fun q hq X hX => hX s (h q X hq)⟩
    · obtain ⟨o, ho, h2⟩ := ih s' (by omega) hI'
      exact ⟨o, ho, fun q hq X hX => hX s (h q X (h2 q hq X hX))⟩

def zeros (c : List Int) : Nat := c.countP (fun x => !decide (0 < x))

theorem zeros_set {c : List Int} {i : Nat} {x : Int} (hx : 0 < x) (hi : i < c.length) : zeros (c.set i x) + (if 0 < c.getD i 0 then 0 else 1) = zeros c := by
  unfold zeros
  rw [List.countP_set hi, getD_lt 0 hi]
  by_cases h : 0 < c[i]
  · simp [h, hx]
  · have : 0 < c.countP (fun x => !decide (0 < x)) := List.countP_pos_iff.2 ⟨c[i], List.getElem_mem hi, by simp [h]⟩
    simp [h, hx]
    omega

abbrev VRes := Bool × List Int × List Int

theorem visit_det {t : Thk} (hk : ∀ s ∈ t.1, ∀ w ∈ s.2.2.2, ∀ k ∈ w.drop 1, 0 ≤ k ∧ k < (t.1.length : Int)) (hn : t.1.length ≤ 200) (hw : ∀ s ∈ t.1, s.2.2.2.length ≤ 9223372036854775807 ∧ ∀ w ∈ s.2.2.2, w.length ≤ 9223372036854775807) :
    ∀ (f : Nat) (i : Int) (c o : List Int), c.length = t.1.length → 0 ≤ i ∧ i < (t.1.length : Int) → zeros c < f → o.length + zeros c ≤ 200 →
      ∃ y : VRes, (y.2.1.length = t.1.length ∧ zeros y.2.1 ≤ zeros c ∧ y.2.2.length + zeros y.2.1 ≤ o.length + zeros c) ∧ ∀ K : VRes → Prop, K y → VCc69_it t f i c o K
  | 0, i, c, o, _, _, hf, _ => by omega
  | f + 1, i, c, o, hc, hi, hf, ho => by
    have hil : i.toNat < t.1.length := by omega
    by_cases h0 : 0 < c.getD i.toNat 0
    · refine ⟨(decide (c.getD i.toNat 0 = 2), c, o), ⟨hc, Nat.le_refl _, Nat.le_refl _⟩, fun K hK => ?_⟩
      show VCc69 t (VCc69_it t f) i c o K
      unfold VCc69
      exact ⟨⟨hi.1, by omega⟩, fun _ => ⟨⟨hi.1, by omega⟩, hK⟩, fun hcc => absurd (by simpa [-List.getD_eq_getElem?_getD] using hcc) (show ¬ ¬ 0 < c.getD i.toNat 0 by omega)⟩
    · have hz := zeros_set (c := c) (i := i.toNat) (x := 1) (by omega) (by omega)
      rw [if_neg h0] at hz
      obtain ⟨sp, hsp⟩ : ∃ sp, t.1.getD i.toNat (0, (0, (0, []))) = sp := ⟨_, rfl⟩
      have hspm : sp ∈ t.1 := by rw [← hsp]; exact getD_mem hil
      -- the loop over the words of one way
      have inner : ∀ (v : Nat) (c1 o1 : List Int), v < sp.2.2.2.length → c1.length = t.1.length → zeros c1 < f → o1.length + zeros c1 ≤ 200 →
          ∃ r : VRes ⊕ (Int × List Int × List Int), (match r with
            | .inl y => y.2.1.length = t.1.length ∧ zeros y.2.1 ≤ zeros c1 ∧ y.2.2.length + zeros y.2.1 ≤ o1.length + zeros c1
            | .inr s => s.1 = (v : Int) + 1 ∧ s.2.1.length = t.1.length ∧ zeros s.2.1 ≤ zeros c1 ∧ s.2.2.length + zeros s.2.1 ≤ o1.length + zeros c1) ∧
          ∀ q : (VRes → Prop) × (Int × List Int × List Int → Prop), (match r with | .inl y => q.1 y | .inr s => q.2 s) → 0 < (sp.2.2.2.getD v []).length → Loop (σ := Int × List Int × List Int) (fun s X => VCc69_l2 t (VCc69_it t f) i q.1 (v : Int) q.2 s.1 s.2.1 s.2.2 X) (0, c1, o1) := by
        intro v c1 o1 hv hc1 hf1 ho1
        obtain ⟨wy, hwy⟩ : ∃ wy, sp.2.2.2.getD v [] = wy := ⟨_, rfl⟩
        have hwm : wy ∈ sp.2.2.2 := by rw [← hwy]; exact getD_mem hv
        by_cases hpos : 0 < wy.length
        rotate_left 1
        · exact ⟨.inr ((v : Int) + 1, c1, o1), ⟨rfl, hc1, Nat.le_refl _, Nat.le_refl _⟩, fun q _ hp => absurd (by rw [hwy] at hp; exact hp) hpos⟩
        have hwl := (hw sp hspm).2 wy hwm
        have hvl := (hw sp hspm).1
        refine Exists.elim (loop_det (Q := (VRes → Prop) × (Int × List Int × List Int → Prop)) (fun q (s : Int × List Int × List Int) X => VCc69_l2 t (VCc69_it t f) i q.1 (v : Int) q.2 s.1 s.2.1 s.2.2 X) (fun (r : VRes ⊕ (Int × List Int × List Int)) q => match r with | .inl y => q.1 y | .inr s => q.2 s)
          (fun r => match r with
            | .inl y => y.2.1.length = t.1.length ∧ zeros y.2.1 ≤ zeros c1 ∧ y.2.2.length + zeros y.2.1 ≤ o1.length + zeros c1
            | .inr s => s.1 = (v : Int) + 1 ∧ s.2.1.length = t.1.length ∧ zeros s.2.1 ≤ zeros c1 ∧ s.2.2.length + zeros s.2.1 ≤ o1.length + zeros c1)
          (fun s => 0 ≤ s.1 ∧ s.1 ≤ ((wy.drop 1).length : Int) ∧ s.2.1.length = t.1.length ∧ zeros s.2.1 ≤ zeros c1 ∧ s.2.2.length + zeros s.2.1 ≤ o1.length + zeros c1) (fun s => (((wy.drop 1).length : Int) - s.1).toNat) (fun s hI => ?_) _ (0, c1, o1) (Nat.le_refl _) ⟨by simp, by simp only; omega, hc1, Nat.le_refl _, Nat.le_refl _⟩) ?_
        rotate_left 1
        · rintro r ⟨hr1, hr2⟩
          exact ⟨r, hr1, fun q hq _ => hr2 q hq⟩
        · obtain ⟨j, c2, o2⟩ := s
          obtain ⟨j0, j1, hc2, hz2, ho2⟩ := hI
          simp only at j0 j1 hc2 hz2 ho2 ⊢
          by_cases hj : j < ((wy.drop 1).length : Int)
          · have hjl : j.toNat < (wy.drop 1).length := by omega
            have hkm := hk sp hspm wy hwm _ (getD_mem (d := 0) hjl)
            obtain ⟨y, ⟨y1, y2, y3⟩, hy⟩ := visit_det hk hn hw f ((wy.drop 1).getD j.toNat 0) c2 o2 hc2 hkm (by omega) (by omega)
            obtain ⟨b, c3, o3⟩ := y
            simp only at y1 y2 y3
            cases b with
            | false =>
              left
              refine ⟨.inl (false, c3, o3), ⟨y1, by simp only; omega, by simp only; omega⟩, fun q X hq => ?_⟩
              unfold VCc69_l2
              simp only [Int.toNat_natCast, hsp, hwy, show ((1 : Int)).toNat = 1 from rfl]
              refine ⟨fun _ => ⟨⟨j0, hj⟩, hy _ ⟨fun _ => ?_, fun hcc => (by cases hcc)⟩⟩, fun hcc => absurd (by simpa using hcc) (show ¬ ¬ j < ((wy.drop 1).length : Int) by omega)⟩
              unfold VCc69_k3
              simp only [Int.toNat_natCast, hsp, hwy]
              refine ⟨fun _ => hq, fun hcc => ?_⟩
              simp only [Bool.and_eq_false_iff, decide_eq_false_iff_not] at hcc
              omega
            | true =>
              right
              refine ⟨(j + 1, c3, o3), ⟨by simp only; omega, by simp only; omega, y1, by simp only; omega, by simp only; omega⟩, by simp only; omega, fun q X hX => ?_⟩
              unfold VCc69_l2
              simp only [Int.toNat_natCast, hsp, hwy, show ((1 : Int)).toNat = 1 from rfl]
              simp only [List.length_drop] at hj
              refine ⟨fun _ => ⟨⟨j0, by simp only [List.length_drop]; exact hj⟩, hy _ ⟨fun hcc => (by cases hcc), fun _ => ⟨⟨by omega, by omega⟩, hX⟩⟩⟩, fun hcc => ?_⟩
              simp only [decide_eq_false_iff_not, List.length_drop] at hcc
              omega
          · left
            refine ⟨.inr ((v : Int) + 1, c2, o2), ⟨rfl, hc2, hz2, ho2⟩, fun q X hq => ?_⟩
            unfold VCc69_l2
            simp only [Int.toNat_natCast, hsp, hwy, show ((1 : Int)).toNat = 1 from rfl]
            refine ⟨fun hcc => absurd (by simpa [-List.length_drop] using hcc) hj, fun _ => ?_⟩
            unfold VCc69_k4 VCc69_k3
            simp only [Int.toNat_natCast, hsp, hwy]
            refine ⟨fun hcc => ?_, fun _ => ?_⟩
            · simp at hcc
            · unfold VCc69_k2
              exact ⟨⟨by omega, by omega⟩, hq⟩
      -- the loop over the ways
      have hvl := (hw sp hspm).1
      refine Exists.elim (loop_det (Q := VRes → Prop) (fun q (s : Int × List Int × List Int) X => VCc69_l1 t (VCc69_it t f) i q s.1 s.2.1 s.2.2 X) (fun (y : VRes) q => q y)
        (fun y => y.2.1.length = t.1.length ∧ zeros y.2.1 ≤ zeros c ∧ y.2.2.length + zeros y.2.1 ≤ o.length + zeros c)
        (fun s => 0 ≤ s.1 ∧ s.1 ≤ (sp.2.2.2.length : Int) ∧ s.2.1.length = t.1.length ∧ zeros s.2.1 + 1 ≤ zeros c ∧ s.2.2.length + zeros s.2.1 + 1 ≤ o.length + zeros c) (fun s => ((sp.2.2.2.length : Int) - s.1).toNat) (fun s hI => ?_) _ (0, c.set i.toNat 1, o) (Nat.le_refl _) ⟨by simp, by simp only; omega, by simp [hc], by simp only; omega, by simp only; omega⟩) ?_
      rotate_left 1
      · rintro y ⟨hy1, hy2⟩
        refine ⟨y, hy1, fun K hK => ?_⟩
        show VCc69 t (VCc69_it t f) i c o K
        unfold VCc69
        refine ⟨⟨hi.1, by omega⟩, fun hcc => absurd (by simpa [-List.getD_eq_getElem?_getD] using hcc) h0, fun _ => ⟨⟨hi.1, by omega⟩, ⟨hi.1, by omega⟩, hy2 K hK⟩⟩
      · obtain ⟨v, c1, o1⟩ := s
        obtain ⟨v0, v1, hc1, hz1, ho1⟩ := hI
        simp only at v0 v1 hc1 hz1 ho1 ⊢
        by_cases hv : v < (sp.2.2.2.length : Int)
        · obtain ⟨vn, rfl⟩ : ∃ vn : Nat, v = (vn : Int) := ⟨v.toNat, by omega⟩
          obtain ⟨r, hr1, hr2⟩ := inner vn c1 o1 (by omega) hc1 (by omega) (by omega)
          by_cases hpos : 0 < (sp.2.2.2.getD vn []).length
          · have hp1 : decide ((0 : Int) < ((sp.2.2.2.getD vn []).length : Int)) = true := by rw [decide_eq_true_eq]; omega
            cases r with
            | inl y =>
              left
              refine ⟨y, ⟨hr1.1, by omega, by omega⟩, fun q X hq => ?_⟩
              unfold VCc69_l1
              simp only [Int.toNat_natCast, hsp]
              refine ⟨fun _ => ⟨⟨v0, hv⟩, fun _ => ⟨by omega, by omega⟩, fun _ => hr2 (q, X) hq hpos, fun hcc => (by rw [hp1] at hcc; cases hcc)⟩, fun hcc => absurd (by simpa using hcc) (show ¬ ¬ (vn : Int) < (sp.2.2.2.length : Int) by omega)⟩
            | inr s =>
              right
              obtain ⟨s1, s2, s3⟩ := s
              obtain ⟨e1, e2, e3, e4⟩ := hr1
              simp only at e1 e2 e3 e4
              refine ⟨(s1, s2, s3), ⟨by simp only; omega, by simp only; omega, e2, by simp only; omega, by simp only; omega⟩, by simp only; omega, fun q X hX => ?_⟩
              unfold VCc69_l1
              simp only [Int.toNat_natCast, hsp]
              refine ⟨fun _ => ⟨⟨v0, hv⟩, fun _ => ⟨by omega, by omega⟩, fun _ => hr2 (q, X) hX hpos, fun hcc => (by rw [hp1] at hcc; cases hcc)⟩, fun hcc => absurd (by simpa using hcc) (show ¬ ¬ (vn : Int) < (sp.2.2.2.length : Int) by omega)⟩
          · right
            have hp1 : decide ((0 : Int) < ((sp.2.2.2.getD vn []).length : Int)) = false := by rw [decide_eq_false_iff_not]; omega
            refine ⟨((vn : Int) + 1, c1, o1), ⟨by simp only; omega, by simp only; omega, hc1, by simp only; omega, by simp only; omega⟩, by simp only; omega, fun q X hX => ?_⟩
            unfold VCc69_l1 VCc69_k2
            simp only [Int.toNat_natCast, hsp]
            refine ⟨fun _ => ⟨⟨v0, hv⟩, fun hcc => (by rw [hp1] at hcc; cases hcc), fun hcc => (by rw [hp1] at hcc; cases hcc), fun _ => ⟨fun hcc => (by simp at hcc), fun _ => ⟨⟨by omega, by omega⟩, hX⟩⟩⟩, fun hcc => absurd (by simpa using hcc) (show ¬ ¬ (vn : Int) < (sp.2.2.2.length : Int) by omega)⟩
        · left
          have hz2 := zeros_set (c := c1) (i := i.toNat) (x := 2) (by omega) (by omega)
          refine ⟨(true, c1.set i.toNat 2, o1 ++ [i]), ⟨by simp [hc1], by simp only; omega, by simp only [List.length_append, List.length_singleton]; omega⟩, fun q X hq => ?_⟩
          unfold VCc69_l1 VCc69_k1
          simp only [Int.toNat_natCast, hsp]
          refine ⟨fun hcc => absurd (by simpa using hcc) hv, fun _ => ⟨⟨hi.1, by omega⟩, ?_, hq⟩⟩
          unfold roomN
          simp only [List.length_singleton]
          omega

def wayBad (n : Int) (w : List Int) : Bool := decide ((0 : Int) < (w.length : Int)) && (w.drop 1).any (fun k => decide (k < 0) || decide (n ≤ k))

theorem VC48_of {s : List Int} {F : Int → (Bool → Prop) → Prop} {K : Bool → Prop} (f : Int → Bool) (hl : s.length ≤ 4611686018427387904) (hF : ∀ x ∈ s, ∀ K' : Bool → Prop, K' (f x) → F x K') (h : K (s.any f)) : VC48 s F K :=
  VCany_of (d := (0 : Int)) f hl hF h

/-- **thicket.Sorted has one answer** -/
theorem sorted_det {t : Thk} (hw : ∀ s ∈ t.1, s.2.2.2.length ≤ 4611686018427387904 ∧ ∀ w ∈ s.2.2.2, w.length ≤ 4611686018427387904) : ∃ r : List Int × Bool, (r.2 = true → 0 < t.1.length) ∧ ∀ K : List Int × Bool → Prop, K r → VC46 t K := by
  by_cases hg : (t.1.length : Int) ≤ 200 ∧ 0 ≤ t.2 ∧ t.2 < (t.1.length : Int)
  rotate_left 1
  · refine ⟨([], false), fun hc => (by cases hc), fun K hK => ?_⟩
    unfold VC46
    refine ⟨fun _ => hK, fun hcc => ?_⟩
    simp only [Bool.or_eq_false_iff, decide_eq_false_iff_not] at hcc
    omega
  by_cases hbad : ∃ s ∈ t.1, ∃ w ∈ s.2.2.2, wayBad (t.1.length : Int) w = true
  · -- somewhere it comes back at once
    refine ⟨([], false), fun hc => (by cases hc), fun K hK => ?_⟩
    unfold VC46
    refine ⟨fun _ => hK, fun _ => ?_⟩
    refine loop_count t.1.length (fun i => ∀ j, j < i → ∀ w ∈ (t.1.getD j (0, (0, (0, [])))).2.2.2, wayBad (t.1.length : Int) w = false) (fun j hj => by omega) ?_
    intro i hi hP X hX
    unfold VC46_l2
    refine ⟨fun hb => ?_, fun hb => ?_⟩
    · simp only [decide_eq_true_eq] at hb
      have hil : i < t.1.length := by omega
      obtain ⟨sp, hsp⟩ : ∃ sp, t.1.getD i (0, (0, (0, []))) = sp := ⟨_, rfl⟩
      have hspm : sp ∈ t.1 := by rw [← hsp]; exact getD_mem hil
      refine ⟨⟨by omega, by omega⟩, ?_⟩
      refine loop_count sp.2.2.2.length (fun j => ∀ k, k < j → wayBad (t.1.length : Int) (sp.2.2.2.getD k []) = false) (fun j hj => by omega) ?_
      intro j hj hP2 X3 hX3
      have hvl := (hw sp hspm).1
      unfold VC46_l3
      simp only [Int.toNat_natCast, hsp, show ((1 : Int)).toNat = 1 from rfl]
      refine ⟨fun hb2 => ?_, fun hb2 => ?_⟩
      · simp only [decide_eq_true_eq] at hb2
        have hjl : j < sp.2.2.2.length := by omega
        obtain ⟨wy, hwy⟩ : ∃ wy, sp.2.2.2.getD j [] = wy := ⟨_, rfl⟩
        have hwm : wy ∈ sp.2.2.2 := by rw [← hwy]; exact getD_mem hjl
        have hwl := (hw sp hspm).2 wy hwm
        simp only [hwy]
        refine ⟨⟨by omega, by omega⟩, fun hp => ?_, gcall_of ((wy.drop 1).any (fun k => decide (k < 0) || decide ((t.1.length : Int) ≤ k))) (fun _ hk => VC48_of _ (by simp only [List.length_drop]; omega) (fun x _ K' hK' => hK') hk) ?_⟩
        · simp only [decide_eq_true_eq] at hp
          exact ⟨by omega, by omega⟩
        · have e1 : (decide ((0 : Int) < (wy.length : Int)) && (if decide ((0 : Int) < (wy.length : Int)) = true then (wy.drop 1).any (fun k => decide (k < 0) || decide ((t.1.length : Int) ≤ k)) else false)) = wayBad (t.1.length : Int) wy := by
            unfold wayBad
            cases decide ((0 : Int) < (wy.length : Int)) <;> simp
          rw [e1]
          refine ⟨fun _ => hK, fun hnb => ⟨⟨by omega, by omega⟩, hX3 hjl fun k hk => ?_⟩⟩
          by_cases hkj : k < j
          · exact hP2 k hkj
          · have : k = j := by omega
            subst this
            rw [hwy]; exact hnb
      · simp only [decide_eq_false_iff_not] at hb2
        unfold VC46_k3
        refine ⟨⟨by omega, by omega⟩, hX hil fun k hk w hwm => ?_⟩
        by_cases hki : k < i
        · exact hP k hki w hwm
        · have : k = i := by omega
          subst this
          rw [hsp] at hwm
          obtain ⟨m, hm, rfl⟩ := List.mem_iff_getElem.1 hwm
          have := hP2 m (by omega)
          rwa [getD_lt [] hm] at this
    · exfalso
      simp only [decide_eq_false_iff_not] at hb
      obtain ⟨s, hs, w, hwm, hwb⟩ := hbad
      obtain ⟨m, hm, rfl⟩ := List.mem_iff_getElem.1 hs
      have := hP m (by omega) w (by rw [getD_lt _ hm]; exact hwm)
      rw [this] at hwb
      cases hwb
  · have hk : ∀ s ∈ t.1, ∀ w ∈ s.2.2.2, ∀ k ∈ w.drop 1, 0 ≤ k ∧ k < (t.1.length : Int) := by
      intro s hs w hwm k hkm
      have h1 : ¬ wayBad (t.1.length : Int) w = true := fun h => hbad ⟨s, hs, w, hwm, h⟩
      have hpos : 0 < w.length := by
        cases w with
        | nil => simp at hkm
        | cons x r => simp
      have h2 : ¬ (decide (k < 0) || decide ((t.1.length : Int) ≤ k)) = true := by
        intro h
        apply h1
        unfold wayBad
        rw [Bool.and_eq_true]
        exact ⟨by rw [decide_eq_true_eq]; omega, List.any_eq_true.2 ⟨k, hkm, h⟩⟩
      simp only [Bool.or_eq_true, decide_eq_true_eq] at h2
      omega
    have hw' : ∀ s ∈ t.1, s.2.2.2.length ≤ 9223372036854775807 ∧ ∀ w ∈ s.2.2.2, w.length ≤ 9223372036854775807 := fun s hs => ⟨by have := (hw s hs).1; omega, fun w hwm => by have := (hw s hs).2 w hwm; omega⟩
    have hz0 : zeros (List.replicate t.1.length 0) ≤ t.1.length := by
      unfold zeros
      have := List.countP_le_length (p := fun x : Int => !decide (0 < x)) (l := List.replicate t.1.length 0)
      simpa using this
    refine Exists.elim (loop_det (Q := List Int × Bool → Prop) (fun q (s : Int × List Int × List Int) X => VC46_l1 t q s.1 s.2.1 s.2.2 X) (fun (y : List Int × Bool) q => q y) (fun _ => True)
      (fun s => 0 ≤ s.1 ∧ s.1 ≤ (t.1.length : Int) ∧ s.2.1.length = t.1.length ∧ s.2.2.length + zeros s.2.1 ≤ 200) (fun s => ((t.1.length : Int) - s.1).toNat) (fun s hI => ?_) _ (0, List.replicate t.1.length 0, []) (Nat.le_refl _) ⟨by simp, by simp only; omega, by simp, by simp only [List.length_nil]; omega⟩) ?_
    rotate_left 1
    · rintro r ⟨hr1, hr2⟩
      refine ⟨r, fun _ => by omega, fun K hK => ?_⟩
      unfold VC46
      refine ⟨fun hcc => ?_, fun _ => ?_⟩
      · simp only [Bool.or_eq_true, decide_eq_true_eq] at hcc
        omega
      refine loop_count t.1.length (fun _ => True) trivial ?_
      intro i hi _ X hX
      unfold VC46_l2
      refine ⟨fun hb => ?_, fun hb => ?_⟩
      · simp only [decide_eq_true_eq] at hb
        have hil : i < t.1.length := by omega
        obtain ⟨sp, hsp⟩ : ∃ sp, t.1.getD i (0, (0, (0, []))) = sp := ⟨_, rfl⟩
        have hspm : sp ∈ t.1 := by rw [← hsp]; exact getD_mem hil
        refine ⟨⟨by omega, by omega⟩, ?_⟩
        refine loop_count sp.2.2.2.length (fun _ => True) trivial ?_
        intro j hj _ X3 hX3
        have hvl := (hw sp hspm).1
        unfold VC46_l3
        simp only [Int.toNat_natCast, hsp, show ((1 : Int)).toNat = 1 from rfl]
        refine ⟨fun hb2 => ?_, fun hb2 => ?_⟩
        · simp only [decide_eq_true_eq] at hb2
          have hjl : j < sp.2.2.2.length := by omega
          obtain ⟨wy, hwy⟩ : ∃ wy, sp.2.2.2.getD j [] = wy := ⟨_, rfl⟩
          have hwm : wy ∈ sp.2.2.2 := by rw [← hwy]; exact getD_mem hjl
          have hwl := (hw sp hspm).2 wy hwm
          simp only [hwy]
          refine ⟨⟨by omega, by omega⟩, fun hp => ?_, gcall_of ((wy.drop 1).any (fun k => decide (k < 0) || decide ((t.1.length : Int) ≤ k))) (fun _ hk => VC48_of _ (by simp only [List.length_drop]; omega) (fun x _ K' hK' => hK') hk) ?_⟩
          · simp only [decide_eq_true_eq] at hp
            exact ⟨by omega, by omega⟩
          · have e1 : (decide ((0 : Int) < (wy.length : Int)) && (if decide ((0 : Int) < (wy.length : Int)) = true then (wy.drop 1).any (fun k => decide (k < 0) || decide ((t.1.length : Int) ≤ k)) else false)) = wayBad (t.1.length : Int) wy := by
              unfold wayBad
              cases decide ((0 : Int) < (wy.length : Int)) <;> simp
            rw [e1]
            refine ⟨fun hb3 => absurd ⟨sp, hspm, wy, hwm, hb3⟩ hbad, fun _ => ⟨⟨by omega, by omega⟩, hX3 hjl trivial⟩⟩
        · unfold VC46_k3
          exact ⟨⟨by omega, by omega⟩, hX hil trivial⟩
      · unfold VC46_k1
        simp only [Int.toNat_natCast]
        exact ⟨⟨by omega, by omega⟩, hr2 K hK⟩
    · obtain ⟨v, c, o⟩ := s
      obtain ⟨v0, v1, hc, ho⟩ := hI
      simp only at v0 v1 hc ho ⊢
      by_cases hv : v < (t.1.length : Int)
      · obtain ⟨y, ⟨y1, y2, y3⟩, hy⟩ := visit_det hk (by omega) hw' (zeros c + 1) v c o hc ⟨v0, hv⟩ (by omega) ho
        obtain ⟨b, c', o'⟩ := y
        simp only at y1 y2 y3
        cases b with
        | false =>
          left
          refine ⟨([], false), trivial, fun q X hq => ?_⟩
          unfold VC46_l1
          refine ⟨fun _ => ⟨_, hy _ ⟨fun _ => hq, fun hcc => (by cases hcc)⟩⟩, fun hcc => absurd (by simpa using hcc) (show ¬ ¬ v < (t.1.length : Int) by omega)⟩
        | true =>
          right
          refine ⟨(v + 1, c', o'), ⟨by simp only; omega, by simp only; omega, y1, by simp only; omega⟩, by simp only; omega, fun q X hX => ?_⟩
          unfold VC46_l1
          refine ⟨fun _ => ⟨_, hy _ ⟨fun hcc => (by cases hcc), fun _ => ⟨⟨by omega, by omega⟩, hX⟩⟩⟩, fun hcc => absurd (by simpa using hcc) (show ¬ ¬ v < (t.1.length : Int) by omega)⟩
      · left
        refine ⟨(o, true), trivial, fun q X hq => ?_⟩
        unfold VC46_l1 VC46_k2
        exact ⟨fun hcc => absurd (by simpa using hcc) hv, fun _ => hq⟩

end Dec
