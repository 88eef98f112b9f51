/-
  Grammars: plain contracts of Check, derive, Reachable and of the reference's checks.
-/
import Derived.Test.YtfpchbpnoggogaaGenAb
import Derived.Test.YtfpchbpnoggogaaCfg
import Derived.Test.YtfpchbpnoggogaaPop
set_option linter.unusedSimpArgs false
set_option linter.unusedVariables false
namespace Dec
open Go Go.Proofs
abbrev Rl := Int × List Int
abbrev Gr := Int × (Int × (Int × List Rl))
structure GoodG (g : Gr) : Prop where
  k : 1 ≤ g.1 ∧ g.1 ≤ 3
  n : 1 ≤ g.2.1 ∧ g.2.1 ≤ 5
  few : g.2.2.2.length ≤ 10
  short : ∀ r ∈ g.2.2.2, r.2.length ≤ 4
  start : 0 ≤ g.2.2.1 ∧ g.2.2.1 < g.2.1
  left : ∀ r ∈ g.2.2.2, 0 ≤ r.1 ∧ r.1 < g.2.1
  right : ∀ r ∈ g.2.2.2, ∀ s ∈ r.2, 0 ≤ s ∧ s < g.1 + g.2.1
theorem gcall_both {α : Type} {b : Bool} {F : (α → Prop) → Prop} {d : α} {K : α → Prop} (h1 : b = true → F K) (h0 : b = false → K d) : gcall (α := α) b F d K := by
  unfold gcall
  cases b with
  | true => rw [if_pos rfl]; exact h1 rfl
  | false => rw [if_neg (by decide)]; exact h0 rfl
theorem VC79_of {n low high : Int} {K : Bool → Prop} (h : K (decide (low ≤ n) && decide (n ≤ high))) : VC79 n low high K := h
theorem VC77_of {s : List Rl} {F : Rl → (Bool → Prop) → Prop} {K : Bool → Prop} (f : Rl → Bool) (hl : s.length ≤ 4611686018427387904) (hF : ∀ x ∈ s, ∀ K' : Bool → Prop, K' (f x) → F x K') (h : K (s.any f)) : VC77 s F K := VCany_of f hl hF h
theorem VC59_of {s : List Int} {F : Int → (Bool → Prop) → Prop} {K : Bool → Prop} (f : Int → Bool) (hl : s.length ≤ 4611686018427387904) (hF : ∀ x ∈ s, ∀ K' : Bool → Prop, K' (f x) → F x K') (h : K (s.any f)) : VC59 s F K := VCany_of f hl hF h
theorem VC81_of {g : Gr} {l : List Int} (hk : 1 ≤ g.1 ∧ g.1 ≤ 3) (hn : 1 ≤ g.2.1 ∧ g.2.1 ≤ 5) (hl : l.length ≤ 4) {K : Bool → Prop} (h : K (!l.any fun s => decide (s < 0) || decide (g.1 + g.2.1 ≤ s))) : VC81 g l K := by
  unfold VC81
  refine VC59_of (fun s => decide (s < 0) || decide (g.1 + g.2.1 ≤ s)) (by omega) (fun x _ K' hK' => ?_) h
  unfold VC107
  exact ⟨fun _ => ⟨by omega, by omega⟩, hK'⟩
theorem signs_iff {g : Gr} {l : List Int} : (!l.any fun s => decide (s < 0) || decide (g.1 + g.2.1 ≤ s)) = true ↔ ∀ s ∈ l, 0 ≤ s ∧ s < g.1 + g.2.1 := by
  rw [Bool.not_eq_true', List.any_eq_false]
  constructor
  · intro h s hs
    have := h s hs
    simp only [Bool.or_eq_true, decide_eq_true_eq] at this
    omega
  · intro h s hs
    have := h s hs
    simp only [Bool.or_eq_true, decide_eq_true_eq]
    omega
theorem VC51_of {g : Gr} {K : Int → Prop} (hbad : ∀ e, e ≠ 0 → ¬ GoodG g → K e) (h : GoodG g → K 0) : VC51 g K := by
  unfold VC51
  refine VC79_of ?_
  refine gcall_both (fun e => VC79_of ?_) (fun e => ?_)
  · simp only [Bool.not_not, Bool.and_eq_true, decide_eq_true_eq] at e
    have e1 : (decide ((1 : Int) ≤ g.1) && decide (g.1 ≤ 3)) = true := by simp [e.1, e.2]
    rw [e1]
    refine ⟨fun hc => hbad 1 (by decide) fun hg => ?_, fun hc => ?_⟩
    · simp only [Bool.not_true, Bool.false_or, Bool.or_eq_true, Bool.not_eq_true', Bool.and_eq_false_iff, decide_eq_false_iff_not, decide_eq_true_eq] at hc
      have h1 := hg.n
      have h2 := hg.few
      omega
    · simp only [Bool.not_true, Bool.false_or, Bool.or_eq_false_iff, Bool.not_eq_false', Bool.and_eq_true, decide_eq_false_iff_not, decide_eq_true_eq] at hc
      obtain ⟨hn, hfew⟩ := hc
      have hfew : g.2.2.2.length ≤ 10 := by omega
      refine VC77_of (fun r => decide ((4 : Int) < (r.2.length : Int))) (by omega) (fun x _ K' hK' => hK') ⟨fun hs => hbad 1 (by decide) fun hg => ?_, fun hs => ?_⟩
      · obtain ⟨r, hr, h4⟩ := List.any_eq_true.1 hs
        simp only [decide_eq_true_eq] at h4
        have := hg.short r hr
        omega
      · have hshort : ∀ r ∈ g.2.2.2, r.2.length ≤ 4 := by
          intro r hr
          have := List.any_eq_false.1 hs r hr
          simp only [decide_eq_true_eq] at this
          omega
        refine ⟨⟨by omega, by omega⟩, VC79_of ⟨fun hc => hbad 2 (by decide) fun hg => ?_, fun hc => ?_⟩⟩
        · simp only [Bool.not_eq_true', Bool.and_eq_false_iff, decide_eq_false_iff_not] at hc
          have := hg.start
          omega
        · simp only [Bool.not_eq_false', Bool.and_eq_true, decide_eq_true_eq] at hc
          refine loop_count g.2.2.2.length (fun i => ∀ j, j < i → (0 ≤ (g.2.2.2.getD j (0, [])).1 ∧ (g.2.2.2.getD j (0, [])).1 < g.2.1) ∧ ∀ s ∈ (g.2.2.2.getD j (0, [])).2, 0 ≤ s ∧ s < g.1 + g.2.1) (by intro j hj; omega) ?_
          intro i hi hP X hX
          unfold VC51_l1 VC51_k1
          refine ⟨fun hb => ?_, fun hb => ?_⟩
          · simp only [decide_eq_true_eq] at hb
            simp only [Int.toNat_natCast]
            have hmem : g.2.2.2.getD i (0, []) ∈ g.2.2.2 := getD_mem (by omega)
            refine ⟨⟨by omega, by omega⟩, ⟨by omega, by omega⟩, VC79_of ?_⟩
            refine gcall_both (fun e2 => VC81_of e hn (hshort _ hmem) ?_) (fun e2 => ?_)
            · simp only [Bool.not_not] at e2
              rw [e2]
              simp only [Bool.and_eq_true, decide_eq_true_eq] at e2
              refine ⟨fun hc2 => hbad 2 (by decide) fun hg => ?_, fun hc2 => ⟨⟨by omega, by omega⟩, hX (by omega) fun j hj => ?_⟩⟩
              · simp only [Bool.not_true, Bool.false_or, Bool.not_eq_true'] at hc2
                have := signs_iff.2 (hg.right _ hmem)
                rw [hc2] at this
                cases this
              · by_cases e3 : j < i
                · exact hP j e3
                · have : j = i := by omega
                  subst this
                  simp only [Bool.not_true, Bool.false_or, Bool.not_eq_false'] at hc2
                  exact ⟨⟨e2.1, by omega⟩, signs_iff.1 hc2⟩
            · simp only [Bool.not_not] at e2
              rw [e2]
              refine ⟨fun _ => hbad 2 (by decide) fun hg => ?_, fun hc2 => by simp at hc2⟩
              simp only [Bool.and_eq_false_iff, decide_eq_false_iff_not] at e2
              have := hg.left _ hmem
              omega
          · simp only [decide_eq_false_iff_not] at hb
            have hall : ∀ r ∈ g.2.2.2, (0 ≤ r.1 ∧ r.1 < g.2.1) ∧ ∀ s ∈ r.2, 0 ≤ s ∧ s < g.1 + g.2.1 := by
              intro r hr
              obtain ⟨j, hj, ej⟩ := List.mem_iff_getElem.1 hr
              have := hP j (by omega)
              rw [getD_lt _ hj, ej] at this
              exact this
            exact h ⟨e, hn, hfew, hshort, ⟨hc.1, by omega⟩, fun r hr => (hall r hr).1, fun r hr => (hall r hr).2⟩
  · simp only [Bool.not_not] at e
    rw [e]
    refine ⟨fun _ => hbad 1 (by decide) fun hg => ?_, fun hc => by simp at hc⟩
    simp only [Bool.and_eq_false_iff, decide_eq_false_iff_not] at e
    have := hg.k
    omega
theorem VC43_of {g : Gr} {l : List Int} (hk : 1 ≤ g.1 ∧ g.1 ≤ 3) (hn : 1 ≤ g.2.1 ∧ g.2.1 ≤ 5) (hl : l.length ≤ 4) {K : Bool → Prop} (h : ∀ b : Bool, (b = true ↔ ∀ s ∈ l, 0 ≤ s ∧ s < g.1 + g.2.1) → K b) : VC43 g l K := by
  unfold VC43
  refine loop_count l.length (fun i => ∀ j, j < i → 0 ≤ l.getD j 0 ∧ l.getD j 0 < g.1 + g.2.1) (by intro j hj; omega) ?_
  intro i hi hP X hX
  unfold VC43_l1 VC43_k1
  refine ⟨fun hb => ?_, fun hb => ?_⟩
  · simp only [decide_eq_true_eq] at hb
    simp only [Int.toNat_natCast]
    have hmem : l.getD i 0 ∈ l := getD_mem (by omega)
    refine ⟨⟨by omega, by omega⟩, fun _ => ⟨by omega, by omega⟩, fun hc => ?_, fun hc => ⟨⟨by omega, by omega⟩, hX (by omega) fun j hj => ?_⟩⟩
    · simp only [Bool.or_eq_true, decide_eq_true_eq] at hc
      refine h false ⟨fun e => (by cases e), fun hh => ?_⟩
      have := hh _ hmem
      omega
    · simp only [Bool.or_eq_false_iff, decide_eq_false_iff_not] at hc
      by_cases e : j < i
      · exact hP j e
      · have : j = i := by omega
        subst this
        omega
  · simp only [decide_eq_false_iff_not] at hb
    refine h true ⟨fun _ s hs => ?_, fun _ => rfl⟩
    obtain ⟨j, hj, e⟩ := List.mem_iff_getElem.1 hs
    have := hP j (by omega)
    rw [getD_lt _ hj, e] at this
    exact this
/-! ### the names that derive only signs of a kind -/
inductive Gn (K : Int) (R : List Rl) (sy : Bool) : Int → Prop
  | mk (A : Int) (l : List Int) (h : (A, l) ∈ R) (h1 : ∀ s ∈ l, s < K → sy = true) (h2 : ∀ s ∈ l, ¬ s < K → Gn K R sy (s - K)) : Gn K R sy A
theorem Gn.more {K : Int} {R R' : List Rl} {sy sy' : Bool} (hR : ∀ x ∈ R, x ∈ R') (hs : sy = true → sy' = true) {A : Int} (h : Gn K R sy A) : Gn K R' sy' A := by
  induction h with
  | mk A l h h1 h2 ih => exact .mk A l (hR _ h) (fun s hs1 hlt => hs (h1 s hs1 hlt)) ih
theorem VC47_of {s n : Int} (hs : U32 s) (hn : 0 ≤ n) {K : Bool → Prop} (h : K (bt s n.toNat)) : VC47 s n K := by
  unfold VC47
  rw [has_bt hs hn]
  exact ⟨⟨hs.1, hn⟩, h⟩
def allS (K : Int) (sy : Bool) (set : Int) (l : List Int) : Bool := !l.any fun s => if s < K then !sy else !bt set (s - K).toNat
theorem allS_iff {K : Int} {sy : Bool} {set : Int} {l : List Int} : allS K sy set l = true ↔ ∀ s ∈ l, (s < K → sy = true) ∧ (¬ s < K → bt set (s - K).toNat = true) := by
  unfold allS
  rw [Bool.not_eq_true', List.any_eq_false]
  refine forall_congr' fun s => forall_congr' fun hs => ?_
  by_cases e : s < K
  · simp [e]
  · simp [e]
theorem VC104_of {g : Gr} {l : List Int} {set : Int} {sy : Bool} (hk : 1 ≤ g.1 ∧ g.1 ≤ 3) (hs : U32 set) (hl : l.length ≤ 4) (hr : ∀ s ∈ l, 0 ≤ s ∧ s ≤ 100) {K : Bool → Prop} (h : K (allS g.1 sy set l)) : VC104 g l set sy K := by
  unfold VC104
  refine VC59_of (fun s => if s < g.1 then !sy else !bt set (s - g.1).toNat) (by omega) (fun x hx K' hK' => ?_) h
  have := hr x hx
  unfold VC126
  try dsimp only at hK'
  refine ⟨fun hc => ?_, fun hc => ⟨⟨by omega, by omega⟩, VC47_of hs ?_ ?_⟩⟩
  · simp only [decide_eq_true_eq] at hc
    rw [if_pos hc] at hK'; exact hK'
  · simp only [decide_eq_false_iff_not] at hc
    omega
  · simp only [decide_eq_false_iff_not] at hc
    rw [if_neg hc] at hK'; exact hK'
theorem VC74_of {g : Gr} {sy : Bool} (hg : GoodG g) {K : Int → Prop} (h : ∀ o, U32 o → (∀ A : Nat, bt o A = true ↔ Gn g.1 g.2.2.2 sy (A : Int)) → K o) : VC74 g sy K := by
  have hk := hg.k
  have hn := hg.n
  have hfew := hg.few
  unfold VC74
  refine Loop.by (fun o : Int => U32 o ∧ ∀ A : Nat, bt o A = true → Gn g.1 g.2.2.2 sy (A : Int)) (fun o => 32 - popc o) ⟨u32_zero, fun A hA => by rw [bt_zero] at hA; cases hA⟩ ?_
  rintro o ⟨hu, hsound⟩ X hX
  unfold VC74_l1
  refine Loop.by (fun s : Int × Int => ∃ i : Nat, s.2 = (i : Int) ∧ i ≤ g.2.2.2.length ∧ U32 s.1 ∧ (∀ A : Nat, bt s.1 A = true → Gn g.1 g.2.2.2 sy (A : Int)) ∧ (∀ A, bt o A = true → bt s.1 A = true) ∧ ∀ j, j < i → allS g.1 sy o (g.2.2.2.getD j (0, [])).2 = true → bt s.1 (g.2.2.2.getD j (0, [])).1.toNat = true) (fun s => ((g.2.2.2.length : Int) - s.2).toNat) ⟨0, rfl, by omega, hu, hsound, fun A h => h, by intro j hj; omega⟩ ?_
  rintro ⟨o2, i'⟩ ⟨i, e, hi, hu2, hs2, hmore, hdone⟩ Y hY
  dsimp only at e hu2 hs2 hmore hdone
  subst e
  unfold VC74_l2
  dsimp only
  refine ⟨fun hb => ?_, fun hb => ?_⟩
  · simp only [decide_eq_true_eq] at hb
    simp only [Int.toNat_natCast]
    have hmem : g.2.2.2.getD i (0, []) ∈ g.2.2.2 := getD_mem (by omega)
    have hleft := hg.left _ hmem
    have hright := hg.right _ hmem
    generalize hr : g.2.2.2.getD i (0, []) = r at *
    refine ⟨⟨by omega, by omega⟩, VC104_of hk hu2 (hg.short _ hmem) (fun s hs => by have := hright s hs; omega) ⟨fun ht => ⟨hleft.1, ⟨by omega, by omega⟩, hY _ ⟨i + 1, by simp, by omega, u32_or hu2 (u32_shl1 _), ?_, ?_, ?_⟩ (by dsimp only; omega)⟩, fun hf => ⟨⟨by omega, by omega⟩, hY _ ⟨i + 1, by simp, by omega, hu2, hs2, hmore, ?_⟩ (by dsimp only; omega)⟩⟩⟩
    all_goals dsimp only
    · intro A hA
      obtain ⟨a, ha⟩ : ∃ a : Nat, r.1 = (a : Int) := ⟨r.1.toNat, by omega⟩
      rw [ha, bt_or1 hu2 (by omega)] at hA
      simp only [Bool.or_eq_true, decide_eq_true_eq] at hA
      rcases hA with hA | hA
      · exact hs2 A hA
      · subst hA
        rw [allS_iff] at ht
        refine .mk _ r.2 (by rw [← ha]; exact hmem) (fun s hs => (ht s hs).1) (fun s hs hlt => ?_)
        have h1 := hs2 _ ((ht s hs).2 hlt)
        have h2 := hright s hs
        rw [show (((s - g.1).toNat : Nat) : Int) = s - g.1 by omega] at h1
        exact h1
    · intro A hA
      obtain ⟨a, ha⟩ : ∃ a : Nat, r.1 = (a : Int) := ⟨r.1.toNat, by omega⟩
      rw [ha, bt_or1 hu2 (by omega), hmore A hA]
      rfl
    · intro j hj hall
      obtain ⟨a, ha⟩ : ∃ a : Nat, r.1 = (a : Int) := ⟨r.1.toNat, by omega⟩
      rw [ha, bt_or1 hu2 (by omega)]
      by_cases ej : j < i
      · rw [hdone j ej hall]; rfl
      · have : j = i := by omega
        subst this
        rw [hr, ha]
        simp
    · intro j hj hall
      by_cases ej : j < i
      · exact hdone j ej hall
      · have : j = i := by omega
        subst this
        rw [hr] at hall
        exfalso
        rw [allS_iff] at hall
        have : allS g.1 sy o2 r.2 = true := allS_iff.2 fun s hs => ⟨(hall s hs).1, fun hlt => hmore _ ((hall s hs).2 hlt)⟩
        rw [hf] at this
        cases this
  · simp only [decide_eq_false_iff_not] at hb
    have hil : i = g.2.2.2.length := by omega
    unfold VC74_k1
    refine ⟨fun heq => ?_, fun hne => ?_⟩
    · simp only [decide_eq_true_eq] at heq
      subst heq
      refine h o2 hu2 fun A => ⟨hs2 A, ?_⟩
      have close : ∀ B : Int, Gn g.1 g.2.2.2 sy B → bt o2 B.toNat = true := by
        intro B hB
        induction hB with
        | mk B l hB h1 h2 ih =>
          obtain ⟨j, hj, ej⟩ := List.mem_iff_getElem.1 hB
          have := hdone j (by omega)
          rw [getD_lt _ hj, ej] at this
          exact this (allS_iff.2 fun s hs => ⟨h1 s hs, ih s hs⟩)
      intro hA
      have := close _ hA
      rw [Int.toNat_natCast] at this
      exact this
    · simp only [decide_eq_false_iff_not] at hne
      refine hX o2 ⟨hu2, hs2⟩ ?_
      have h1 := popc_lt hu hu2 hmore hne
      have h2 := popc_le o2
      omega
/-! ### the names that come in what Start derives -/
inductive Rch (K S : Int) (R : List Rl) : Int → Prop
  | start : Rch K S R S
  | step (A : Int) (l : List Int) (s : Int) (h : (A, l) ∈ R) (hA : Rch K S R A) (hs : s ∈ l) (hk : ¬ s < K) : Rch K S R (s - K)
theorem Rch.more {K S : Int} {R R' : List Rl} (hR : ∀ x ∈ R, x ∈ R') {A : Int} (h : Rch K S R A) : Rch K S R' A := by
  induction h with
  | start => exact .start
  | step A l s h hA hs hk ih => exact .step A l s (hR _ h) ih hs hk
theorem VC42_of {g : Gr} (hg : GoodG g) {K : Int → Prop} (h : ∀ o, U32 o → (∀ A : Nat, bt o A = true ↔ Rch g.1 g.2.2.1 g.2.2.2 (A : Int)) → K o) : VC42 g K := by
  have hk := hg.k
  have hn := hg.n
  have hfew := hg.few
  have hst := hg.start
  obtain ⟨st, hste⟩ : ∃ a : Nat, g.2.2.1 = (a : Int) := ⟨g.2.2.1.toNat, by omega⟩
  unfold VC42
  refine ⟨hst.1, ?_⟩
  refine Loop.by (fun o : Int => U32 o ∧ bt o st = true ∧ ∀ A : Nat, bt o A = true → Rch g.1 g.2.2.1 g.2.2.2 (A : Int)) (fun o => 32 - popc o) ⟨u32_shl1 _, by rw [hste, bt_shl1 (by omega)]; simp, fun A hA => ?_⟩ ?_
  · rw [hste, bt_shl1 (by omega)] at hA
    simp only [decide_eq_true_eq] at hA
    subst hA
    rw [← hste]
    exact .start
  rintro o ⟨hu, hbst, hsound⟩ X hX
  unfold VC42_l1
  refine Loop.by (fun s : Int × Int => ∃ i : Nat, s.2 = (i : Int) ∧ i ≤ g.2.2.2.length ∧ U32 s.1 ∧ (∀ A : Nat, bt s.1 A = true → Rch g.1 g.2.2.1 g.2.2.2 (A : Int)) ∧ (∀ A, bt o A = true → bt s.1 A = true) ∧ ∀ j, j < i → bt o (g.2.2.2.getD j (0, [])).1.toNat = true → ∀ s' ∈ (g.2.2.2.getD j (0, [])).2, ¬ s' < g.1 → bt s.1 (s' - g.1).toNat = true) (fun s => ((g.2.2.2.length : Int) - s.2).toNat) ⟨0, rfl, by omega, hu, hsound, fun A h => h, by intro j hj; omega⟩ ?_
  rintro ⟨o2, i'⟩ ⟨i, e, hi, hu2, hs2, hmore, hdone⟩ Y hY
  dsimp only at e hu2 hs2 hmore hdone
  subst e
  unfold VC42_l2
  dsimp only
  refine ⟨fun hb => ?_, fun hb => ?_⟩
  · simp only [decide_eq_true_eq] at hb
    have hmem : g.2.2.2.getD i (0, []) ∈ g.2.2.2 := getD_mem (by omega)
    have hleft := hg.left _ hmem
    have hright := hg.right _ hmem
    have hshort := hg.short _ hmem
    obtain ⟨r, hr⟩ : ∃ r, g.2.2.2.getD i (0, []) = r := ⟨_, rfl⟩
    rw [hr] at hmem hleft hright hshort
    refine ⟨⟨by omega, by omega⟩, ?_⟩
    refine Loop.by (fun s : Int × Int => ∃ k : Nat, s.2 = (k : Int) ∧ k ≤ r.2.length ∧ U32 s.1 ∧ (∀ A : Nat, bt s.1 A = true → Rch g.1 g.2.2.1 g.2.2.2 (A : Int)) ∧ (∀ A, bt o2 A = true → bt s.1 A = true) ∧ ∀ j, j < k → bt o r.1.toNat = true → ¬ r.2.getD j 0 < g.1 → bt s.1 (r.2.getD j 0 - g.1).toNat = true) (fun s => ((r.2.length : Int) - s.2).toNat) ⟨0, rfl, by omega, hu2, hs2, fun A h => h, by intro j hj; omega⟩ ?_
    rintro ⟨o3, k'⟩ ⟨k, e, hki, hu3, hs3, hmore3, hdone3⟩ Z hZ
    dsimp only at e hu3 hs3 hmore3 hdone3
    subst e
    unfold VC42_l3
    dsimp only
    simp only [Int.toNat_natCast, hr]
    refine ⟨fun hc => ?_, fun hc => ?_⟩
    · simp only [decide_eq_true_eq] at hc
      have hsm : r.2.getD k 0 ∈ r.2 := getD_mem (by omega)
      have hsr := hright _ hsm
      generalize hsx : r.2.getD k 0 = x at *
      refine ⟨⟨by omega, by omega⟩, ?_⟩
      have keep : (g.1 ≤ x → bt o3 r.1.toNat = false) → (InR ((k : Int) + (1 : Int)) ∧ Z (o3, (k : Int) + (1 : Int))) := by
        intro hno
        refine ⟨⟨by omega, by omega⟩, hZ _ ⟨k + 1, by simp, by omega, hu3, hs3, hmore3, fun j hj hbo hnk => ?_⟩ (by dsimp only; omega)⟩
        by_cases ej : j < k
        · exact hdone3 j ej hbo hnk
        · have : j = k := by omega
          subst this
          rw [hsx] at hnk
          have h1 := hno (by omega)
          rw [hmore3 _ (hmore _ hbo)] at h1
          cases h1
      unfold VC42_k3
      refine gcall_both (fun e2 => VC47_of hu3 hleft.1 ?_) (fun e2 => ?_)
      · rw [e2]
        simp only [decide_eq_true_eq] at e2
        obtain ⟨a, ha⟩ : ∃ a : Nat, x - g.1 = (a : Int) := ⟨(x - g.1).toNat, by omega⟩
        refine ⟨fun ht => ⟨⟨by omega, by omega⟩, by omega, ⟨by omega, by omega⟩, hZ _ ⟨k + 1, by simp, by omega, u32_or hu3 (u32_shl1 _), ?_, ?_, ?_⟩ (by dsimp only; omega)⟩, fun hf => keep fun _ => by simpa using hf⟩
        all_goals dsimp only
        · intro A hA
          rw [ha, bt_or1 hu3 (by omega)] at hA
          simp only [Bool.or_eq_true, decide_eq_true_eq] at hA
          rcases hA with hA | hA
          · exact hs3 A hA
          · subst hA
            rw [← ha]
            simp only [Bool.true_and] at ht
            have := hs3 _ ht
            rw [show ((r.1.toNat : Nat) : Int) = r.1 by omega] at this
            exact .step r.1 r.2 x hmem this hsm (by omega)
        · intro A hA
          rw [ha, bt_or1 hu3 (by omega), hmore3 A hA]
          rfl
        · intro j hj hbo hnk
          rw [ha, bt_or1 hu3 (by omega)]
          by_cases ej : j < k
          · rw [hdone3 j ej hbo hnk]; rfl
          · have : j = k := by omega
            subst this
            rw [hsx, ha]
            simp
      · rw [e2]
        simp only [decide_eq_false_iff_not] at e2
        exact ⟨fun ht => by simp at ht, fun _ => keep fun hle => absurd hle e2⟩
    · simp only [decide_eq_false_iff_not] at hc
      unfold VC42_k2
      refine ⟨⟨by omega, by omega⟩, hY _ ⟨i + 1, by simp, by omega, hu3, hs3, fun A hA => hmore3 A (hmore A hA), fun j hj hbo s' hs' hnk => ?_⟩ (by dsimp only; omega)⟩
      dsimp only
      by_cases ej : j < i
      · exact hmore3 _ (hdone j ej hbo s' hs' hnk)
      · have : j = i := by omega
        subst this
        rw [hr] at hbo hs'
        obtain ⟨t, ht, et⟩ := List.mem_iff_getElem.1 hs'
        have := hdone3 t (by omega) hbo
        rw [getD_lt _ ht, et] at this
        exact this hnk
  · simp only [decide_eq_false_iff_not] at hb
    have hil : i = g.2.2.2.length := by omega
    unfold VC42_k1
    refine ⟨fun heq => ?_, fun hne => ?_⟩
    · simp only [decide_eq_true_eq] at heq
      subst heq
      refine h o2 hu2 fun A => ⟨hs2 A, ?_⟩
      have close : ∀ B : Int, Rch g.1 g.2.2.1 g.2.2.2 B → bt o2 B.toNat = true := by
        intro B hB
        induction hB with
        | start => rw [hste, Int.toNat_natCast]; exact hbst
        | step B l s hB hA hs hnk ih =>
          obtain ⟨j, hj, ej⟩ := List.mem_iff_getElem.1 hB
          have := hdone j (by omega)
          rw [getD_lt _ hj, ej] at this
          exact this ih s hs hnk
      intro hA
      have := close _ hA
      rw [Int.toNat_natCast] at this
      exact this
    · simp only [decide_eq_false_iff_not] at hne
      refine hX o2 ⟨hu2, hmore _ hbst, hs2⟩ ?_
      have h1 := popc_lt hu hu2 hmore hne
      have h2 := popc_le o2
      omega
theorem VC18_of {g : Gr} {K : Int → Prop} (hbad : ∀ e, e ≠ 0 → ¬ GoodG g → K e) (h : GoodG g → K 0) : VC18 g K := by
  unfold VC18
  refine ⟨fun hc => hbad 1 (by decide) fun hg => ?_, fun hc => ?_⟩
  · simp only [Bool.or_eq_true, decide_eq_true_eq] at hc
    have h1 := hg.k
    have h2 := hg.n
    have h3 := hg.few
    omega
  simp only [Bool.or_eq_false_iff, decide_eq_false_iff_not] at hc
  have hk : 1 ≤ g.1 ∧ g.1 ≤ 3 := by omega
  have hn : 1 ≤ g.2.1 ∧ g.2.1 ≤ 5 := by omega
  have hfew : g.2.2.2.length ≤ 10 := by omega
  refine loop_count g.2.2.2.length (fun i => ∀ j, j < i → (g.2.2.2.getD j (0, [])).2.length ≤ 4) (by intro j hj; omega) ?_
  intro i hi hP X hX
  unfold VC18_l2
  refine ⟨fun hb => ?_, fun hb => ?_⟩
  · simp only [decide_eq_true_eq] at hb
    simp only [Int.toNat_natCast]
    have hmem : g.2.2.2.getD i (0, []) ∈ g.2.2.2 := getD_mem (by omega)
    refine ⟨⟨by omega, by omega⟩, fun h4 => hbad 1 (by decide) fun hg => ?_, fun h4 => ⟨⟨by omega, by omega⟩, hX (by omega) fun j hj => ?_⟩⟩
    · simp only [decide_eq_true_eq] at h4
      have := hg.short _ hmem
      omega
    · simp only [decide_eq_false_iff_not] at h4
      by_cases e : j < i
      · exact hP j e
      · have : j = i := by omega
        subst this
        omega
  · simp only [decide_eq_false_iff_not] at hb
    have hshort : ∀ r ∈ g.2.2.2, r.2.length ≤ 4 := by
      intro r hr
      obtain ⟨j, hj, ej⟩ := List.mem_iff_getElem.1 hr
      have := hP j (by omega)
      rw [getD_lt _ hj, ej] at this
      exact this
    unfold VC18_k1
    refine ⟨fun hs => hbad 2 (by decide) fun hg => ?_, fun hs => ?_⟩
    · simp only [Bool.or_eq_true, decide_eq_true_eq] at hs
      have := hg.start
      omega
    simp only [Bool.or_eq_false_iff, decide_eq_false_iff_not] at hs
    refine loop_count g.2.2.2.length (fun i => ∀ j, j < i → (0 ≤ (g.2.2.2.getD j (0, [])).1 ∧ (g.2.2.2.getD j (0, [])).1 < g.2.1) ∧ ∀ s ∈ (g.2.2.2.getD j (0, [])).2, 0 ≤ s ∧ s < g.1 + g.2.1) (by intro j hj; omega) ?_
    intro i hi hP X hX
    unfold VC18_l1 VC18_k2
    refine ⟨fun hb => ?_, fun hb => ?_⟩
    · simp only [decide_eq_true_eq] at hb
      simp only [Int.toNat_natCast]
      have hmem : g.2.2.2.getD i (0, []) ∈ g.2.2.2 := getD_mem (by omega)
      refine ⟨⟨by omega, by omega⟩, ?_⟩
      refine gcall_both (fun e2 => VC43_of hk hn (hshort _ hmem) fun b hb2 => ?_) (fun e2 => ?_)
      · simp only [Bool.not_eq_true'] at e2
        rw [e2]
        simp only [Bool.or_eq_false_iff, decide_eq_false_iff_not] at e2
        refine ⟨fun hc2 => hbad 2 (by decide) fun hg => ?_, fun hc2 => ⟨⟨by omega, by omega⟩, hX (by omega) fun j hj => ?_⟩⟩
        · simp only [Bool.false_or, Bool.not_eq_true'] at hc2
          have := hb2.2 (hg.right _ hmem)
          rw [hc2] at this
          cases this
        · by_cases e3 : j < i
          · exact hP j e3
          · have : j = i := by omega
            subst this
            simp only [Bool.false_or, Bool.not_eq_false'] at hc2
            exact ⟨⟨by omega, by omega⟩, hb2.1 hc2⟩
      · simp only [Bool.not_eq_false'] at e2
        rw [e2]
        refine ⟨fun _ => hbad 2 (by decide) fun hg => ?_, fun hc2 => by simp at hc2⟩
        simp only [Bool.or_eq_true, decide_eq_true_eq] at e2
        have := hg.left _ hmem
        omega
    · simp only [decide_eq_false_iff_not] at hb
      have hall : ∀ r ∈ g.2.2.2, (0 ≤ r.1 ∧ r.1 < g.2.1) ∧ ∀ s ∈ r.2, 0 ≤ s ∧ s < g.1 + g.2.1 := by
        intro r hr
        obtain ⟨j, hj, ej⟩ := List.mem_iff_getElem.1 hr
        have := hP j (by omega)
        rw [getD_lt _ hj, ej] at this
        exact this
      exact h ⟨hk, hn, hfew, hshort, ⟨by omega, by omega⟩, fun r hr => (hall r hr).1, fun r hr => (hall r hr).2⟩
end Dec
