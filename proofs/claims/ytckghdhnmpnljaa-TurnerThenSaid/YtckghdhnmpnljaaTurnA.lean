/-
  Transducers: plain contracts of the checks, and what is written for a word.
-/
import Derived.Test.YtckghdhnmpnljaaGenUc
import Derived.Test.YtckghdhnmpnljaaLib
import Derived.Test.YtckghdhnmpnljaaBits
set_option linter.unusedSimpArgs false
set_option linter.unusedVariables false
namespace Dec
open Go Go.Proofs

abbrev Tn := Int × (Int × (Int × (List (List Int) × (List (List (List Int)) × Int))))

structure GoodT (t : Tn) : Prop where
  n : 1 ≤ t.1 ∧ t.1 ≤ 7
  k : 1 ≤ t.2.1 ∧ t.2.1 ≤ 3
  l : 1 ≤ t.2.2.1 ∧ t.2.2.1 ≤ 3
  lenN : (t.2.2.2.1.length : Int) = t.1
  lenO : (t.2.2.2.2.1.length : Int) = t.1
  rowN : ∀ r ∈ t.2.2.2.1, (r.length : Int) = t.2.1
  rowO : ∀ r ∈ t.2.2.2.2.1, (r.length : Int) = t.2.1
  short : ∀ r ∈ t.2.2.2.2.1, ∀ w ∈ r, w.length ≤ 4
  start : 0 ≤ t.2.2.2.2.2 ∧ t.2.2.2.2.2 < t.1
  next : ∀ r ∈ t.2.2.2.1, ∀ n ∈ r, 0 ≤ n ∧ n < t.1
  outs : ∀ r ∈ t.2.2.2.2.1, ∀ w ∈ r, ∀ s ∈ w, 0 ≤ s ∧ s < t.2.2.1

def GoodW (k : Int) (w : List Int) : Prop := w.length ≤ 12 ∧ ∀ s ∈ w, 0 ≤ s ∧ s < k

theorem all_getD {α : Type} {l : List α} (d : α) {P : α → Prop} (h : ∀ j, j < l.length → P (l.getD j d)) : ∀ x ∈ l, P x := by
  intro x hx
  obtain ⟨j, hj, e⟩ := List.mem_iff_getElem.1 hx
  have := h j hj
  rw [getD_lt _ hj, e] at this
  exact this

theorem gcall_both {α : Type} {b : Bool} {F : (α → Prop) → Prop} {d : α} {K : α → Prop} (h1 : b = true → F K) (h0 : b = false → K d) : gcall (α := α) b F d K := by
  unfold gcall
  cases b with
  | true => rw [if_pos rfl]; exact h1 rfl
  | false => rw [if_neg (by decide)]; exact h0 rfl

theorem VC79_of {s : List Int} {F : Int → (Bool → Prop) → Prop} {K : Bool → Prop} (f : Int → Bool) (hl : s.length ≤ 4611686018427387904) (hF : ∀ x ∈ s, ∀ K' : Bool → Prop, K' (f x) → F x K') (h : K (s.any f)) : VC79 s F K := VCany_of f hl hF h

theorem VC77_of {s : List (List Int)} {F : List Int → (Bool → Prop) → Prop} {K : Bool → Prop} (f : List Int → Bool) (hl : s.length ≤ 4611686018427387904) (hF : ∀ x ∈ s, ∀ K' : Bool → Prop, K' (f x) → F x K') (h : K (s.any f)) : VC77 s F K := VCany_of f hl hF h

theorem VC40_of {k : Int} {w : List Int} (hk : 1 ≤ k ∧ k ≤ 3) {K : Int → Prop} (hbad : ∀ e, e ≠ 0 → ¬ GoodW k w → K e) (h : GoodW k w → K 0) : VC40 k w K := by
  unfold VC40
  refine ⟨fun hc => hbad 1 (by decide) fun hg => ?_, fun hc => ?_⟩
  · simp only [decide_eq_true_eq] at hc
    have := hg.1
    omega
  · simp only [decide_eq_false_iff_not] at hc
    refine VC79_of (fun s => !(decide (0 ≤ s) && decide (s ≤ k - 1))) (by omega) (fun x _ K' hK' => ⟨⟨by omega, by omega⟩, hK'⟩) ⟨fun hs => hbad 2 (by decide) fun hg => ?_, fun hs => h ⟨by omega, fun s hm => ?_⟩⟩
    · obtain ⟨s, hm, h1⟩ := List.any_eq_true.1 hs
      have := hg.2 s hm
      simp only [Bool.not_eq_true', Bool.and_eq_false_iff, decide_eq_false_iff_not] at h1
      omega
    · have := List.any_eq_false.1 hs s hm
      simp only [Bool.not_eq_true', Bool.not_eq_false, Bool.and_eq_true, decide_eq_true_eq] at this
      omega

theorem VC16_of {k : Int} {w : List Int} {K : Int → Prop} (hbad : ∀ e, e ≠ 0 → ¬ GoodW k w → K e) (h : GoodW k w → K 0) : VC16 k w K := by
  unfold VC16
  refine ⟨fun hc => hbad 1 (by decide) fun hg => ?_, fun hc => ?_⟩
  · simp only [decide_eq_true_eq] at hc
    have := hg.1
    omega
  · simp only [decide_eq_false_iff_not] at hc
    refine loop_count w.length (fun i => ∀ j, j < i → 0 ≤ w.getD j 0 ∧ w.getD j 0 < k) (by intro j hj; omega) ?_
    intro i hi hP X hX
    unfold VC16_l1 VC16_k1
    refine ⟨fun hb => ?_, fun hb => ?_⟩
    · simp only [decide_eq_true_eq] at hb
      simp only [Int.toNat_natCast]
      have hm : w.getD i 0 ∈ w := getD_mem (by omega)
      refine ⟨⟨by omega, by omega⟩, fun hd => hbad 2 (by decide) fun hg => ?_, fun hd => ⟨⟨by omega, by omega⟩, hX (by omega) fun j hj => ?_⟩⟩
      · simp only [Bool.or_eq_true, decide_eq_true_eq] at hd
        have := hg.2 _ hm
        omega
      · simp only [Bool.or_eq_false_iff, decide_eq_false_iff_not] at hd
        by_cases e : j < i
        · exact hP j e
        · have : j = i := by omega
          subst this
          omega
    · simp only [decide_eq_false_iff_not] at hb
      exact h ⟨by omega, all_getD 0 fun j hj => hP j (by omega)⟩

theorem VC18_of {a b : List Int} (hl : b.length ≤ 1000) {K : Bool → Prop} (h : K (decide (a = b))) : VC18 a b K := by
  unfold VC18
  by_cases hlen : a.length = b.length
  · refine ⟨fun e => by simp [hlen] at e, fun _ => ?_⟩
    refine loop_count a.length (fun i => ∀ j, j < i → a.getD j 0 = b.getD j 0) (by intro j hj; omega) ?_
    intro i hi hP X hX
    unfold VC18_l1 VC18_k1
    refine ⟨fun hb => ?_, fun hb => ?_⟩
    · simp only [decide_eq_true_eq] at hb
      simp only [Int.toNat_natCast]
      refine ⟨⟨by omega, by omega⟩, ⟨by omega, by omega⟩, fun hc => ?_, fun hc => ⟨⟨by omega, by omega⟩, hX (by omega) fun j hj => ?_⟩⟩
      · simp only [Bool.not_eq_true', decide_eq_false_iff_not] at hc
        rw [decide_eq_false (fun e => hc (by rw [e]))] at h
        exact h
      · simp only [Bool.not_eq_false', decide_eq_true_eq] at hc
        by_cases e : j < i
        · exact hP j e
        · have : j = i := by omega
          subst this; exact hc
    · simp only [decide_eq_false_iff_not] at hb
      have : a = b := ext_getD 0 hlen fun j hj => hP j (by omega)
      rw [decide_eq_true this] at h
      exact h
  · rw [decide_eq_false (fun e => hlen (by rw [e]))] at h
    exact ⟨fun _ => h, fun e => by simp at e; omega⟩

theorem VC39_of {t : Tn} {K : Int → Prop} (hbad : ∀ e, e ≠ 0 → ¬ GoodT t → K e) (h : GoodT t → K 0) : VC39 t K := by
  unfold VC39 VC76
  refine gcall_of (decide (1 ≤ t.2.1) && decide (t.2.1 ≤ 3)) (fun _ hk => hk) ?_
  refine gcall_of (decide (1 ≤ t.2.2.1) && decide (t.2.2.1 ≤ 3)) (fun _ hk => hk) ?_
  have iA : (decide (1 ≤ t.1) && decide (t.1 ≤ 7)) = true ↔ (1 ≤ t.1 ∧ t.1 ≤ 7) := by simp
  have iB : (decide (1 ≤ t.2.1) && decide (t.2.1 ≤ 3)) = true ↔ (1 ≤ t.2.1 ∧ t.2.1 ≤ 3) := by simp
  have iC : (decide (1 ≤ t.2.2.1) && decide (t.2.2.1 ≤ 3)) = true ↔ (1 ≤ t.2.2.1 ∧ t.2.2.1 ≤ 3) := by simp
  generalize (decide (1 ≤ t.1) && decide (t.1 ≤ 7)) = A at *
  generalize (decide (1 ≤ t.2.1) && decide (t.2.1 ≤ 3)) = B at *
  generalize (decide (1 ≤ t.2.2.1) && decide (t.2.2.1 ≤ 3)) = C at *
  by_cases hall : A = true ∧ B = true ∧ C = true
  · obtain ⟨rfl, rfl, rfl⟩ := hall
    have hn := iA.1 rfl
    have hk := iB.1 rfl
    have hl := iC.1 rfl
    refine ⟨fun e => by simp at e, fun _ => ⟨fun hc => hbad 3 (by decide) fun hg => ?_, fun hc => ?_⟩⟩
    · simp only [Bool.or_eq_true, Bool.not_eq_true', decide_eq_false_iff_not] at hc
      have h1 := hg.lenN
      have h2 := hg.lenO
      omega
    simp only [Bool.or_eq_false_iff, Bool.not_eq_false', decide_eq_true_eq] at hc
    obtain ⟨lenN, lenO⟩ := hc
    refine Loop.by (fun v : Int => ∃ i : Nat, v = (i : Int) ∧ i ≤ t.2.2.2.1.length ∧ ∀ j, j < i → ((t.2.2.2.1.getD j []).length : Int) = t.2.1 ∧ ((t.2.2.2.2.1.getD j []).length : Int) = t.2.1) (fun v => (t.1 - v).toNat) ⟨0, rfl, by omega, by intro j hj; omega⟩ ?_
    rintro v ⟨i, rfl, hi, hP⟩ X hX
    unfold VC39_l4
    refine ⟨fun hb => ?_, fun hb => ?_⟩
    · simp only [decide_eq_true_eq] at hb
      simp only [Int.toNat_natCast]
      have m1 : t.2.2.2.1.getD i [] ∈ t.2.2.2.1 := getD_mem (by omega)
      have m2 : t.2.2.2.2.1.getD i [] ∈ t.2.2.2.2.1 := getD_mem (by omega)
      refine ⟨⟨by omega, by omega⟩, fun _ => ⟨by omega, by omega⟩, fun hd => hbad 3 (by decide) fun hg => ?_, fun hd => ⟨⟨by omega, by omega⟩, hX _ ⟨i + 1, by simp, by omega, fun j hj => ?_⟩ (by omega)⟩⟩
      · simp only [Bool.or_eq_true, Bool.not_eq_true', decide_eq_false_iff_not] at hd
        have h1 := hg.rowN _ m1
        have h2 := hg.rowO _ m2
        omega
      · simp only [Bool.or_eq_false_iff, Bool.not_eq_false', decide_eq_true_eq] at hd
        by_cases e : j < i
        · exact hP j e
        · have : j = i := by omega
          subst this; exact hd
    · simp only [decide_eq_false_iff_not] at hb
      have rowN : ∀ r ∈ t.2.2.2.1, (r.length : Int) = t.2.1 := all_getD [] fun j hj => (hP j (by omega)).1
      have rowO : ∀ r ∈ t.2.2.2.2.1, (r.length : Int) = t.2.1 := all_getD [] fun j hj => (hP j (by omega)).2
      clear hX hP hb hi
      unfold VC39_k1
      refine loop_count t.2.2.2.2.1.length (fun i => ∀ j, j < i → ∀ w ∈ t.2.2.2.2.1.getD j [], w.length ≤ 4) (by intro j hj; omega) ?_
      intro i hi hP X hX
      unfold VC39_l3
      refine ⟨fun hb => ?_, fun hb => ?_⟩
      · simp only [decide_eq_true_eq] at hb
        simp only [Int.toNat_natCast]
        have m2 : t.2.2.2.2.1.getD i [] ∈ t.2.2.2.2.1 := getD_mem (by omega)
        have := rowO _ m2
        refine ⟨⟨by omega, by omega⟩, VC77_of (fun w => decide ((4 : Int) < (w.length : Int))) (by omega) (fun x _ K' hK' => hK') ⟨fun hs => hbad 1 (by decide) fun hg => ?_, fun hs => ⟨⟨by omega, by omega⟩, hX (by omega) fun j hj => ?_⟩⟩⟩
        · obtain ⟨w, hw, h4⟩ := List.any_eq_true.1 hs
          simp only [decide_eq_true_eq] at h4
          have := hg.short _ m2 w hw
          omega
        · by_cases e : j < i
          · exact hP j e
          · have : j = i := by omega
            subst this
            intro w hw
            have := List.any_eq_false.1 hs w hw
            simp only [decide_eq_true_eq] at this
            omega
      · simp only [decide_eq_false_iff_not] at hb
        have short : ∀ r ∈ t.2.2.2.2.1, ∀ w ∈ r, w.length ≤ 4 := all_getD [] fun j hj => hP j (by omega)
        clear hX hP hb hi
        unfold VC39_k2
        refine ⟨fun hd => hbad 2 (by decide) fun hg => ?_, fun hd => ?_⟩
        · simp only [Bool.or_eq_true, decide_eq_true_eq] at hd
          have := hg.start
          omega
        simp only [Bool.or_eq_false_iff, decide_eq_false_iff_not] at hd
        refine Loop.by (fun v : Int => ∃ i : Nat, v = (i : Int) ∧ i ≤ t.2.2.2.1.length ∧ ∀ j, j < i → (∀ n ∈ t.2.2.2.1.getD j [], 0 ≤ n ∧ n < t.1) ∧ ∀ w ∈ t.2.2.2.2.1.getD j [], ∀ s ∈ w, 0 ≤ s ∧ s < t.2.2.1) (fun v => (t.1 - v).toNat) ⟨0, rfl, by omega, by intro j hj; omega⟩ ?_
        rintro v ⟨i, rfl, hi, hP⟩ X hX
        unfold VC39_l1 VC39_k3
        refine ⟨fun hb => ?_, fun hb => ?_⟩
        · simp only [decide_eq_true_eq] at hb
          simp only [Int.toNat_natCast]
          have m1 : t.2.2.2.1.getD i [] ∈ t.2.2.2.1 := getD_mem (by omega)
          have m2 : t.2.2.2.2.1.getD i [] ∈ t.2.2.2.2.1 := getD_mem (by omega)
          have r1 := rowN _ m1
          have r2 := rowO _ m2
          refine ⟨⟨by omega, by omega⟩, VC79_of (fun n => decide (n < 0) || decide (t.1 ≤ n)) (by omega) (fun x _ K' hK' => hK') ⟨fun hs => hbad 2 (by decide) fun hg => ?_, fun hs => ⟨⟨by omega, by omega⟩, ?_⟩⟩⟩
          · obtain ⟨n, hn, h4⟩ := List.any_eq_true.1 hs
            simp only [Bool.or_eq_true, decide_eq_true_eq] at h4
            have := hg.next _ m1 n hn
            omega
          have hnx : ∀ n ∈ t.2.2.2.1.getD i [], 0 ≤ n ∧ n < t.1 := by
            intro n hn
            have := List.any_eq_false.1 hs n hn
            simp only [Bool.or_eq_true, decide_eq_true_eq] at this
            omega
          refine loop_count (t.2.2.2.2.1.getD i []).length (fun q => ∀ j, j < q → ∀ s ∈ (t.2.2.2.2.1.getD i []).getD j [], 0 ≤ s ∧ s < t.2.2.1) (by intro j hj; omega) ?_
          intro q hq hQ Y hY
          unfold VC39_l2 VC39_k4
          refine ⟨fun hc => ?_, fun hc => ?_⟩
          · simp only [decide_eq_true_eq, Int.toNat_natCast] at hc
            simp only [Int.toNat_natCast]
            have m3 : (t.2.2.2.2.1.getD i []).getD q [] ∈ t.2.2.2.2.1.getD i [] := getD_mem (by omega)
            refine ⟨⟨by omega, by omega⟩, VC40_of hl (fun e he hno => ⟨fun _ => hbad 2 (by decide) fun hg => hno ⟨by have := hg.short _ m2 _ m3; omega, hg.outs _ m2 _ m3⟩, fun hz => absurd (by simpa using hz) he⟩) (fun hw => ⟨fun hz => by simp at hz, fun _ => ⟨⟨by omega, by omega⟩, hY (by omega) fun j hj => ?_⟩⟩)⟩
            by_cases e : j < q
            · exact hQ j e
            · have : j = q := by omega
              subst this; exact hw.2
          · simp only [decide_eq_false_iff_not, Int.toNat_natCast] at hc
            refine ⟨⟨by omega, by omega⟩, hX _ ⟨i + 1, by simp, by omega, fun j hj => ?_⟩ (by omega)⟩
            by_cases e : j < i
            · exact hP j e
            · have : j = i := by omega
              subst this
              exact ⟨hnx, all_getD [] fun a ha => hQ a (by omega)⟩
        · simp only [decide_eq_false_iff_not] at hb
          exact h ⟨hn, hk, hl, lenN, lenO, rowN, rowO, short, by omega, all_getD [] fun j hj => (hP j (by omega)).1, all_getD [] fun j hj => (hP j (by omega)).2⟩
  · refine ⟨fun _ => hbad 1 (by decide) fun hg => hall ⟨iA.2 hg.n, iB.2 hg.k, iC.2 hg.l⟩, fun hc => absurd ?_ hall⟩
    cases A <;> cases B <;> cases C <;> simp_all

theorem VC42_of {t : Tn} {K : Int → Prop} (hbad : ∀ e, e ≠ 0 → ¬ GoodT t → K e) (h : GoodT t → K 0) : VC42 t K := by
  unfold VC42
  refine ⟨fun hc => hbad 1 (by decide) fun hg => ?_, fun hc => ⟨fun hc2 => hbad 3 (by decide) fun hg => ?_, fun hc2 => ?_⟩⟩
  · simp only [Bool.or_eq_true, decide_eq_true_eq] at hc
    have h1 := hg.n
    have h2 := hg.k
    have h3 := hg.l
    omega
  · simp only [Bool.or_eq_true, Bool.not_eq_true', decide_eq_false_iff_not] at hc2
    have h1 := hg.lenN
    have h2 := hg.lenO
    omega
  simp only [Bool.or_eq_false_iff, decide_eq_false_iff_not] at hc
  simp only [Bool.or_eq_false_iff, Bool.not_eq_false', decide_eq_true_eq] at hc2
  obtain ⟨lenN, lenO⟩ := hc2
  have hn : 1 ≤ t.1 ∧ t.1 ≤ 7 := by omega
  have hk : 1 ≤ t.2.1 ∧ t.2.1 ≤ 3 := by omega
  have hl : 1 ≤ t.2.2.1 ∧ t.2.2.1 ≤ 3 := by omega
  refine Loop.by (fun v : Int => ∃ i : Nat, v = (i : Int) ∧ i ≤ t.2.2.2.1.length ∧ ∀ j, j < i → ((t.2.2.2.1.getD j []).length : Int) = t.2.1 ∧ ((t.2.2.2.2.1.getD j []).length : Int) = t.2.1) (fun v => (t.1 - v).toNat) ⟨0, rfl, by omega, by intro j hj; omega⟩ ?_
  rintro v ⟨i, rfl, hi, hP⟩ X hX
  unfold VC42_l6
  refine ⟨fun hb => ?_, fun hb => ?_⟩
  · simp only [decide_eq_true_eq] at hb
    simp only [Int.toNat_natCast]
    have m1 : t.2.2.2.1.getD i [] ∈ t.2.2.2.1 := getD_mem (by omega)
    have m2 : t.2.2.2.2.1.getD i [] ∈ t.2.2.2.2.1 := getD_mem (by omega)
    refine ⟨⟨by omega, by omega⟩, fun _ => ⟨by omega, by omega⟩, fun hd => hbad 3 (by decide) fun hg => ?_, fun hd => ⟨⟨by omega, by omega⟩, hX _ ⟨i + 1, by simp, by omega, fun j hj => ?_⟩ (by omega)⟩⟩
    · simp only [Bool.or_eq_true, Bool.not_eq_true', decide_eq_false_iff_not] at hd
      have h1 := hg.rowN _ m1
      have h2 := hg.rowO _ m2
      omega
    · simp only [Bool.or_eq_false_iff, Bool.not_eq_false', decide_eq_true_eq] at hd
      by_cases e : j < i
      · exact hP j e
      · have : j = i := by omega
        subst this; exact hd
  simp only [decide_eq_false_iff_not] at hb
  have rowN : ∀ r ∈ t.2.2.2.1, (r.length : Int) = t.2.1 := all_getD [] fun j hj => (hP j (by omega)).1
  have rowO : ∀ r ∈ t.2.2.2.2.1, (r.length : Int) = t.2.1 := all_getD [] fun j hj => (hP j (by omega)).2
  clear hX hP hb hi
  unfold VC42_k1
  refine Loop.by (fun v : Int => ∃ i : Nat, v = (i : Int) ∧ i ≤ t.2.2.2.1.length ∧ ∀ j, j < i → ∀ w ∈ t.2.2.2.2.1.getD j [], w.length ≤ 4) (fun v => (t.1 - v).toNat) ⟨0, rfl, by omega, by intro j hj; omega⟩ ?_
  rintro v ⟨i, rfl, hi, hP⟩ X hX
  unfold VC42_l4
  refine ⟨fun hb => ?_, fun hb => ?_⟩
  · simp only [decide_eq_true_eq] at hb
    have m2 : t.2.2.2.2.1.getD i [] ∈ t.2.2.2.2.1 := getD_mem (by omega)
    have r2 := rowO _ m2
    refine ⟨⟨by omega, by omega⟩, ?_⟩
    refine loop_count (t.2.2.2.2.1.getD i []).length (fun q => ∀ j, j < q → ((t.2.2.2.2.1.getD i []).getD j []).length ≤ 4) (by intro j hj; omega) ?_
    intro q hq hQ Y hY
    unfold VC42_l5 VC42_k6
    refine ⟨fun hc3 => ?_, fun hc3 => ?_⟩
    · simp only [decide_eq_true_eq, Int.toNat_natCast] at hc3
      simp only [Int.toNat_natCast]
      have m3 : (t.2.2.2.2.1.getD i []).getD q [] ∈ t.2.2.2.2.1.getD i [] := getD_mem (by omega)
      refine ⟨⟨by omega, by omega⟩, fun h4 => hbad 1 (by decide) fun hg => ?_, fun h4 => ⟨⟨by omega, by omega⟩, hY (by omega) fun j hj => ?_⟩⟩
      · simp only [decide_eq_true_eq] at h4
        have := hg.short _ m2 _ m3
        omega
      · simp only [decide_eq_false_iff_not] at h4
        by_cases e : j < q
        · exact hQ j e
        · have : j = q := by omega
          subst this
          omega
    · simp only [decide_eq_false_iff_not, Int.toNat_natCast] at hc3
      refine ⟨⟨by omega, by omega⟩, hX _ ⟨i + 1, by simp, by omega, fun j hj => ?_⟩ (by omega)⟩
      by_cases e : j < i
      · exact hP j e
      · have : j = i := by omega
        subst this
        exact all_getD [] fun a ha => hQ a (by omega)
  simp only [decide_eq_false_iff_not] at hb
  have short : ∀ r ∈ t.2.2.2.2.1, ∀ w ∈ r, w.length ≤ 4 := all_getD [] fun j hj => hP j (by omega)
  clear hX hP hb hi
  unfold VC42_k2
  refine Loop.by (fun s : Bool × Int => ∃ i : Nat, s.2 = (i : Int) ∧ i ≤ t.2.2.2.1.length ∧ (s.1 = true → ¬ GoodT t) ∧ (s.1 = false → (0 ≤ t.2.2.2.2.2 ∧ t.2.2.2.2.2 < t.1) ∧ ∀ j, j < i → (∀ n ∈ t.2.2.2.1.getD j [], 0 ≤ n ∧ n < t.1) ∧ ∀ w ∈ t.2.2.2.2.1.getD j [], ∀ s ∈ w, 0 ≤ s ∧ s < t.2.2.1)) (fun s => (t.1 - s.2).toNat) ⟨0, rfl, by omega, fun hb hg => ?_, fun hb => ⟨?_, by intro j hj; omega⟩⟩ ?_
  · simp only [Bool.or_eq_true, decide_eq_true_eq] at hb
    have := hg.start
    omega
  · simp only [Bool.or_eq_false_iff, decide_eq_false_iff_not] at hb
    omega
  rintro ⟨bad, v⟩ ⟨i, e, hi, hb1, hb0⟩ X hX
  dsimp only at e hb1 hb0
  subst e
  unfold VC42_l1 VC42_k3
  dsimp only
  refine ⟨fun hb => ?_, fun hb => ?_⟩
  · simp only [decide_eq_true_eq] at hb
    have m1 : t.2.2.2.1.getD i [] ∈ t.2.2.2.1 := getD_mem (by omega)
    have m2 : t.2.2.2.2.1.getD i [] ∈ t.2.2.2.2.1 := getD_mem (by omega)
    have r1 := rowN _ m1
    have r2 := rowO _ m2
    refine Loop.by (fun s : Bool × Int => ∃ q : Nat, s.2 = (q : Int) ∧ (q : Int) ≤ t.2.1 ∧ (s.1 = true → ¬ GoodT t) ∧ (s.1 = false → bad = false ∧ ∀ j, j < q → (0 ≤ (t.2.2.2.1.getD i []).getD j 0 ∧ (t.2.2.2.1.getD i []).getD j 0 < t.1) ∧ ∀ s ∈ (t.2.2.2.2.1.getD i []).getD j [], 0 ≤ s ∧ s < t.2.2.1)) (fun s => (t.2.1 - s.2).toNat) ⟨0, rfl, by omega, hb1, fun e => ⟨e, by intro j hj; omega⟩⟩ ?_
    rintro ⟨bad2, v2⟩ ⟨q, e, hq, hq1, hq0⟩ Y hY
    dsimp only at e hq1 hq0
    subst e
    unfold VC42_l2
    dsimp only
    simp only [Int.toNat_natCast]
    refine ⟨fun hc3 => ?_, fun hc3 => ?_⟩
    · simp only [decide_eq_true_eq] at hc3
      have mn : (t.2.2.2.1.getD i []).getD q 0 ∈ t.2.2.2.1.getD i [] := getD_mem (by omega)
      have mo : (t.2.2.2.2.1.getD i []).getD q [] ∈ t.2.2.2.2.1.getD i [] := getD_mem (by omega)
      have ms := short _ m2 _ mo
      refine ⟨fun _ => ⟨by omega, by omega⟩, fun _ => ⟨by omega, by omega⟩, fun _ => ⟨by omega, by omega⟩, fun _ => ⟨by omega, by omega⟩, ⟨by omega, by omega⟩, ⟨by omega, by omega⟩, ?_⟩
      refine Loop.by (fun s : Bool × Int => ∃ a : Nat, s.2 = (a : Int) ∧ a ≤ ((t.2.2.2.2.1.getD i []).getD q []).length ∧ (s.1 = true → ¬ GoodT t) ∧ (s.1 = false → bad2 = false ∧ (0 ≤ (t.2.2.2.1.getD i []).getD q 0 ∧ (t.2.2.2.1.getD i []).getD q 0 < t.1) ∧ ∀ j, j < a → 0 ≤ ((t.2.2.2.2.1.getD i []).getD q []).getD j 0 ∧ ((t.2.2.2.2.1.getD i []).getD q []).getD j 0 < t.2.2.1)) (fun s => ((((t.2.2.2.2.1.getD i []).getD q []).length : Int) - s.2).toNat) ⟨0, rfl, by omega, fun hx hg => ?_, fun hx => ?_⟩ ?_
      · simp only [Bool.or_eq_true, decide_eq_true_eq] at hx
        have := hg.next _ m1 _ mn
        rcases hx with (hx | hx) | hx
        · exact hq1 hx hg
        · omega
        · omega
      · simp only [Bool.or_eq_false_iff, decide_eq_false_iff_not] at hx
        exact ⟨hx.1.1, by omega, by intro j hj; omega⟩
      rintro ⟨bad3, v3⟩ ⟨a, e, ha, ha1, ha0⟩ Z hZ
      dsimp only at e ha1 ha0
      subst e
      unfold VC42_l3 VC42_k5
      dsimp only
      simp only [Int.toNat_natCast]
      refine ⟨fun hc4 => ?_, fun hc4 => ?_⟩
      · simp only [decide_eq_true_eq] at hc4
        have mx : ((t.2.2.2.2.1.getD i []).getD q []).getD a 0 ∈ (t.2.2.2.2.1.getD i []).getD q [] := getD_mem (by omega)
        refine ⟨⟨by omega, by omega⟩, ⟨by omega, by omega⟩, hZ _ ⟨a + 1, by simp, by omega, fun hx hg => ?_, fun hx => ?_⟩ (by dsimp only; omega)⟩
        · simp only [Bool.or_eq_true, decide_eq_true_eq] at hx
          have := hg.outs _ m2 _ mo _ mx
          rcases hx with (hx | hx) | hx
          · exact ha1 hx hg
          · omega
          · omega
        · simp only [Bool.or_eq_false_iff, decide_eq_false_iff_not] at hx
          obtain ⟨h1, h2, h3⟩ := ha0 hx.1.1
          refine ⟨h1, h2, fun j hj => ?_⟩
          by_cases e : j < a
          · exact h3 j e
          · have : j = a := by omega
            subst this
            omega
      · simp only [decide_eq_false_iff_not] at hc4
        refine ⟨⟨by omega, by omega⟩, hY _ ⟨q + 1, by simp, by omega, ha1, fun hx => ?_⟩ (by dsimp only; omega)⟩
        obtain ⟨h1, h2, h3⟩ := ha0 hx
        obtain ⟨h4, h5⟩ := hq0 h1
        refine ⟨h4, fun j hj => ?_⟩
        by_cases e : j < q
        · exact h5 j e
        · have : j = q := by omega
          subst this
          exact ⟨h2, all_getD 0 fun b hb => h3 b (by omega)⟩
    · simp only [decide_eq_false_iff_not] at hc3
      unfold VC42_k4
      refine ⟨⟨by omega, by omega⟩, hX _ ⟨i + 1, by simp, by omega, hq1, fun hx => ?_⟩ (by dsimp only; omega)⟩
      obtain ⟨h1, h2⟩ := hq0 hx
      obtain ⟨h3, h4⟩ := hb0 h1
      refine ⟨h3, fun j hj => ?_⟩
      by_cases e : j < i
      · exact h4 j e
      · have : j = i := by omega
        subst this
        exact ⟨all_getD 0 fun b hb => (h2 b (by omega)).1, all_getD [] fun b hb => (h2 b (by omega)).2⟩
  · simp only [decide_eq_false_iff_not] at hb
    refine ⟨fun hx => hbad 2 (by decide) (hb1 hx), fun hx => ?_⟩
    obtain ⟨h1, h2⟩ := hb0 hx
    exact h ⟨hn, hk, hl, lenN, lenO, rowN, rowO, short, h1, all_getD [] fun j hj => (h2 j (by omega)).1, all_getD [] fun j hj => (h2 j (by omega)).2⟩

/-! ### what is written -/

def nextT (t : Tn) (q s : Int) : Int := (t.2.2.2.1.getD q.toNat []).getD s.toNat 0
def outT (t : Tn) (q s : Int) : List Int := (t.2.2.2.2.1.getD q.toNat []).getD s.toNat []

def writeT (t : Tn) : Int → List Int → Int × List Int
  | q, [] => (q, [])
  | q, s :: w => ((writeT t (nextT t q s) w).1, outT t q s ++ (writeT t (nextT t q s) w).2)

theorem writeT_append (t : Tn) : ∀ (u v : List Int) (q : Int), writeT t q (u ++ v) = ((writeT t (writeT t q u).1 v).1, (writeT t q u).2 ++ (writeT t (writeT t q u).1 v).2)
  | [], v, q => by simp [writeT]
  | s :: u, v, q => by simp [writeT, writeT_append t u v]

theorem next_goodT {t : Tn} (g : GoodT t) {q s : Int} (hq : 0 ≤ q ∧ q < t.1) (hs : 0 ≤ s ∧ s < t.2.1) : 0 ≤ nextT t q s ∧ nextT t q s < t.1 := by
  have h1 := g.lenN
  have m1 : t.2.2.2.1.getD q.toNat [] ∈ t.2.2.2.1 := getD_mem (by omega)
  have h2 := g.rowN _ m1
  exact g.next _ m1 _ (getD_mem (by omega))

theorem out_goodT {t : Tn} (g : GoodT t) {q s : Int} (hq : 0 ≤ q ∧ q < t.1) (hs : 0 ≤ s ∧ s < t.2.1) : (outT t q s).length ≤ 4 ∧ ∀ x ∈ outT t q s, 0 ≤ x ∧ x < t.2.2.1 := by
  have h1 := g.lenO
  have m1 : t.2.2.2.2.1.getD q.toNat [] ∈ t.2.2.2.2.1 := getD_mem (by omega)
  have h2 := g.rowO _ m1
  have m2 : (t.2.2.2.2.1.getD q.toNat []).getD s.toNat [] ∈ t.2.2.2.2.1.getD q.toNat [] := getD_mem (by omega)
  exact ⟨g.short _ m1 _ m2, g.outs _ m1 _ m2⟩

theorem write_good {t : Tn} (g : GoodT t) : ∀ (w : List Int) (q : Int), 0 ≤ q ∧ q < t.1 → (∀ s ∈ w, 0 ≤ s ∧ s < t.2.1) → (0 ≤ (writeT t q w).1 ∧ (writeT t q w).1 < t.1) ∧ (writeT t q w).2.length ≤ 4 * w.length ∧ ∀ x ∈ (writeT t q w).2, 0 ≤ x ∧ x < t.2.2.1
  | [], q, hq, _ => ⟨hq, by simp [writeT], by simp [writeT]⟩
  | s :: w, q, hq, hw => by
    have hs := hw s (by simp)
    have h1 := next_goodT g hq hs
    have h2 := out_goodT g hq hs
    obtain ⟨h3, h4, h5⟩ := write_good g w _ h1 (fun x hx => hw x (by simp [hx]))
    refine ⟨h3, ?_, fun x hx => ?_⟩
    · simp only [writeT, List.length_append, List.length_cons]
      omega
    · simp only [writeT] at hx
      rcases List.mem_append.1 hx with hx | hx
      · exact h2.2 x hx
      · exact h5 x hx

theorem VC41_of {t : Tn} (g : GoodT t) {q : Int} (hq : 0 ≤ q ∧ q < t.1) {w : List Int} (hl : w.length ≤ 1000) (hw : ∀ s ∈ w, 0 ≤ s ∧ s < t.2.1) {K : Int × List Int → Prop} (h : K (writeT t q w)) : VC41 t q w K := by
  unfold VC41
  refine Loop.by (fun s : Int × Int × List Int => ∃ i : Nat, s.2.1 = (i : Int) ∧ i ≤ w.length ∧ (s.1, s.2.2) = writeT t q (w.take i)) (fun s => ((w.length : Int) - s.2.1).toNat) ⟨0, rfl, by omega, by simp [writeT]⟩ ?_
  rintro ⟨q2, i', out⟩ ⟨i, e, hi, e2⟩ X hX
  dsimp only at e e2
  subst e
  have hg := write_good g (w.take i) q hq (fun s hs => hw s (List.mem_of_mem_take hs))
  rw [← e2] at hg
  dsimp only at hg
  unfold VC41_l1 VC41_k1
  refine ⟨fun hb => ?_, fun hb => ?_⟩
  · simp only [decide_eq_true_eq] at hb
    simp only [Int.toNat_natCast]
    have hil : i < w.length := by omega
    have hs := hw _ (getD_mem (d := 0) hil)
    have h1 := g.lenN
    have h2 := g.lenO
    have m1 : t.2.2.2.1.getD q2.toNat [] ∈ t.2.2.2.1 := getD_mem (by omega)
    have m2 : t.2.2.2.2.1.getD q2.toNat [] ∈ t.2.2.2.2.1 := getD_mem (by omega)
    have h3 := g.rowN _ m1
    have h4 := g.rowO _ m2
    have h5 := (out_goodT g hg.1 hs).1
    have h6 := hg.2.1
    rw [List.length_take] at h6
    refine ⟨⟨by omega, by omega⟩, ⟨by omega, by omega⟩, ⟨by omega, by omega⟩, ?_, ⟨by omega, by omega⟩, ⟨by omega, by omega⟩, ⟨by omega, by omega⟩, hX _ ⟨i + 1, by simp, by omega, ?_⟩ (by dsimp only; omega)⟩
    · show out.length + (outT t q2 (w.getD i 0)).length ≤ 4294967296
      omega
    · dsimp only
      rw [List.take_succ_eq_append_getElem hil, ← getD_lt (0 : Int) hil, writeT_append, ← e2]
      simp [writeT, nextT, outT]
  · simp only [decide_eq_false_iff_not] at hb
    have : i = w.length := by omega
    subst this
    rw [List.take_length] at e2
    dsimp only
    rw [e2]
    exact h

theorem VC17_of {t : Tn} (g : GoodT t) {q : Int} (hq : 0 ≤ q ∧ q < t.1) {w : List Int} (hl : w.length ≤ 1000) (hw : ∀ s ∈ w, 0 ≤ s ∧ s < t.2.1) {K : List Int × Int → Prop} (h : K ((writeT t q w).2, (writeT t q w).1)) : VC17 t q w K := by
  unfold VC17
  refine Loop.by (fun s : Int × Int × List Int => ∃ i : Nat, s.2.1 = (i : Int) ∧ i ≤ w.length ∧ (s.1, s.2.2) = writeT t q (w.take i)) (fun s => ((w.length : Int) - s.2.1).toNat) ⟨0, rfl, by omega, by simp [writeT]⟩ ?_
  rintro ⟨q2, i', out⟩ ⟨i, e, hi, e2⟩ X hX
  dsimp only at e e2
  subst e
  have hg := write_good g (w.take i) q hq (fun s hs => hw s (List.mem_of_mem_take hs))
  rw [← e2] at hg
  dsimp only at hg
  unfold VC17_l1 VC17_k1
  refine ⟨fun hb => ?_, fun hb => ?_⟩
  · simp only [decide_eq_true_eq] at hb
    simp only [Int.toNat_natCast]
    have hil : i < w.length := by omega
    have hs := hw _ (getD_mem (d := 0) hil)
    have h1 := g.lenN
    have h2 := g.lenO
    have m1 : t.2.2.2.1.getD q2.toNat [] ∈ t.2.2.2.1 := getD_mem (by omega)
    have m2 : t.2.2.2.2.1.getD q2.toNat [] ∈ t.2.2.2.2.1 := getD_mem (by omega)
    have h3 := g.rowN _ m1
    have h4 := g.rowO _ m2
    have h5 := (out_goodT g hg.1 hs).1
    have h6 := hg.2.1
    rw [List.length_take] at h6
    refine ⟨⟨by omega, by omega⟩, ⟨by omega, by omega⟩, ⟨by omega, by omega⟩, ?_, ⟨by omega, by omega⟩, ⟨by omega, by omega⟩, ⟨by omega, by omega⟩, hX _ ⟨i + 1, by simp, by omega, ?_⟩ (by dsimp only; omega)⟩
    · show out.length + (outT t q2 (w.getD i 0)).length ≤ 4294967296
      omega
    · dsimp only
      rw [List.take_succ_eq_append_getElem hil, ← getD_lt (0 : Int) hil, writeT_append, ← e2]
      simp [writeT, nextT, outT]
  · simp only [decide_eq_false_iff_not] at hb
    have : i = w.length := by omega
    subst this
    rw [List.take_length] at e2
    dsimp only
    rw [← e2] at h
    exact h

theorem VC14_of {t : Tn} {w : List Int} {K : List Int × Int → Prop} (hbad : ∀ e, e ≠ 0 → ¬ (GoodT t ∧ GoodW t.2.1 w) → K ([], e)) (h : GoodT t → GoodW t.2.1 w → K ((writeT t t.2.2.2.2.2 w).2, 0)) : VC14 t w K := by
  unfold VC14
  refine VC39_of (fun e he hno => ⟨fun _ => hbad e he fun hg => hno hg.1, fun hc => absurd (by simpa using hc) he⟩) (fun g => ⟨fun hc => by simp at hc, fun _ => ?_⟩)
  refine VC40_of g.k (fun e he hno => ⟨fun _ => hbad e he fun hg => hno hg.2, fun hc => absurd (by simpa using hc) he⟩) (fun hw => ⟨fun hc => by simp at hc, fun _ => ?_⟩)
  exact VC41_of g g.start (by have := hw.1; omega) hw.2 (h g hw)

theorem VC15_of {t : Tn} {K : Bool → Prop} (h : ∀ b : Bool, (b = true ↔ GoodT t) → K b) : VC15 t K := by
  unfold VC15
  refine VC42_of (fun e he hno => ?_) (fun hg => ?_)
  · rw [decide_eq_false he]
    exact h false ⟨fun e => (by cases e), fun hg => absurd hg hno⟩
  · exact h _ ⟨fun _ => hg, fun _ => by simp⟩

theorem turnerFront (t : Tn) (w : List Int) (k : Int) (hk : 0 ≤ k) : VC3 t w k (fun b => b = true) := by
  unfold VC3
  by_cases hgw : GoodT t ∧ GoodW t.2.1 w
  · obtain ⟨g, hw⟩ := hgw
    have hl := hw.1
    refine VC14_of (fun e he hno => absurd ⟨g, hw⟩ hno) fun _ _ => VC15_of fun b hb => ?_
    have hb := hb.2 g
    subst hb
    refine gcall_both (fun _ => VC16_of (fun e he hno => absurd hw hno) fun _ => ?_) (fun e => by cases e)
    refine ⟨fun e => by simp at e, fun _ => ⟨⟨by omega, by omega⟩, ⟨hk, by omega⟩, ?_, ?_⟩⟩
    · have h1 := Int.emod_nonneg k (show ((w.length : Int) + 1) ≠ 0 by omega)
      have h2 := Int.emod_lt_of_pos k (show (0 : Int) < (w.length : Int) + 1 by omega)
      exact ⟨h1, by omega⟩
    generalize (k % ((w.length : Int) + 1)).toNat = m
    have hwt : GoodW t.2.1 (w.take m) := ⟨by rw [List.length_take]; omega, fun s hs => hw.2 s (List.mem_of_mem_take hs)⟩
    refine VC14_of (fun e he hno => absurd ⟨g, hwt⟩ hno) fun _ _ => ?_
    refine VC17_of g g.start (by omega) hw.2 ?_
    have hsplit := writeT_append t (w.take m) (w.drop m) t.2.2.2.2.2
    rw [List.take_append_drop] at hsplit
    have hwg := write_good g w _ g.start hw.2
    have hx : (writeT t t.2.2.2.2.2 w).2 = (writeT t t.2.2.2.2.2 (w.take m)).2 ++ (writeT t (writeT t t.2.2.2.2.2 (w.take m)).1 (w.drop m)).2 := by rw [hsplit]
    dsimp only
    have hle : (writeT t t.2.2.2.2.2 (w.take m)).2.length ≤ (writeT t t.2.2.2.2.2 w).2.length := by rw [hx, List.length_append]; omega
    have e1 : decide (((writeT t t.2.2.2.2.2 (w.take m)).2.length : Int) ≤ ((writeT t t.2.2.2.2.2 w).2.length : Int)) = true := decide_eq_true (by omega)
    refine ⟨fun _ => ⟨by omega, by omega⟩, ?_⟩
    rw [e1]
    refine gcall_both (fun _ => VC18_of (by rw [List.length_take]; have := hwg.2.1; omega) ?_) (fun e => by simp at e)
    rw [Int.toNat_natCast]
    have : (writeT t t.2.2.2.2.2 (w.take m)).2 = (writeT t t.2.2.2.2.2 w).2.take (writeT t t.2.2.2.2.2 (w.take m)).2.length := by rw [hx, List.take_left]
    rw [decide_eq_true this]
    simp
  · refine VC14_of (fun e he _ => VC15_of fun b hb => ?_) (fun g hw => absurd ⟨g, hw⟩ hgw)
    refine gcall_both (fun hbt => VC16_of (fun e2 he2 _ => ?_) (fun hw => ?_)) (fun hbf => ?_)
    · exact ⟨fun _ => by simp [he], fun hc => by simp [he2] at hc⟩
    · have : b = true := by simpa using hbt
      exact absurd ⟨hb.1 this, hw⟩ hgw
    · have : b = false := by simpa using hbf
      subst this
      exact ⟨fun _ => by simp [he], fun hc => by simp at hc⟩

theorem turnerFront_ok (t : Tn) (w : List Int) (k : Int) (h : Ok (.int .u8) k) : VC3 t w k (fun b => b = true) := by
  have : IntKind.u8.min ≤ k ∧ k ≤ IntKind.u8.max := h
  simp [IntKind.min, IntKind.max, IntKind.signed, IntKind.bits] at this
  exact turnerFront t w k (by omega)
end Dec
