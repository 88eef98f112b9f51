/-
  Exact answers of Check, Whole, Pick and Place (plain).
-/
import Derived.Test.YtfpchbpnoggogaaGroZ
import Derived.Test.YtfpchbpnoggogaaDecRw
set_option linter.unusedSimpArgs false
set_option linter.unusedVariables false
namespace Dec
open Go Go.Proofs Cfg
def LargeG (g : Gr) : Prop := ¬ (1 ≤ g.1 ∧ g.1 ≤ 3) ∨ ¬ (1 ≤ g.2.1 ∧ g.2.1 ≤ 5) ∨ 10 < g.2.2.2.length ∨ ∃ r ∈ g.2.2.2, 4 < r.2.length
theorem VC51_two {g : Gr} {K : Int → Prop} (h1 : LargeG g → ¬ GoodG g → K 1) (h2 : ¬ LargeG g → ¬ GoodG g → K 2) (h : GoodG g → K 0) : VC51 g K := by
 unfold VC51
 refine VC79_of ?_
 refine gcall_both (fun e => VC79_of ?_) (fun e => ?_)
 ·simp only [Bool.not_not, Bool.and_eq_true, decide_eq_true_eq] at e
  have e1 : (decide ((1 : Int) ≤ g.1) && decide (g.1 ≤ 3)) = true := by simp [e.1, e.2]
  rw [e1]
  refine ⟨fun hc => h1 (by
   simp only [Bool.not_true, Bool.false_or, Bool.or_eq_true, Bool.not_eq_true', Bool.and_eq_false_iff, decide_eq_false_iff_not, decide_eq_true_eq] at hc
   unfold LargeG
   rcases hc with hc | hc
   ·exact .inr (.inl (by omega))
   ·exact .inr (.inr (.inl (by omega)))) fun hg => ?_, fun hc => ?_⟩
  ·simp only [Bool.not_true, Bool.false_or, Bool.or_eq_true, Bool.not_eq_true', Bool.and_eq_false_iff, decide_eq_false_iff_not, decide_eq_true_eq] at hc
   have h1 := hg.n
   have h2 := hg.few
   omega
  ·simp only [Bool.not_true, Bool.false_or, Bool.or_eq_false_iff, Bool.not_eq_false', Bool.and_eq_true, decide_eq_false_iff_not, decide_eq_true_eq] at hc
   obtain ⟨hn, hfew⟩ := hc
   have hfew : g.2.2.2.length ≤ 10 := by omega
   refine VC77_of (fun r => decide ((4 : Int) < (r.2.length : Int))) (by omega) (fun x _ K' hK' => hK') ⟨fun hs => h1 (by
    obtain ⟨r, hr, h4⟩ := List.any_eq_true.1 hs
    simp only [decide_eq_true_eq] at h4
    exact .inr (.inr (.inr ⟨r, hr, by omega⟩))) fun hg => ?_, fun hs => ?_⟩
   ·obtain ⟨r, hr, h4⟩ := List.any_eq_true.1 hs
    simp only [decide_eq_true_eq] at h4
    have := hg.short r hr
    omega
   ·have hshort : ∀ r ∈ g.2.2.2, r.2.length ≤ 4 := by
     intro r hr
     have := List.any_eq_false.1 hs r hr
     simp only [decide_eq_true_eq] at this
     omega
    have hnl : ¬ LargeG g := by
     rintro (h4 | h4 | h4 | ⟨r, hr, h4⟩)
     ·omega
     ·omega
     ·omega
     ·have := hshort r hr; omega
    refine ⟨⟨by omega, by omega⟩, VC79_of ⟨fun hc => h2 hnl fun hg => ?_, fun hc => ?_⟩⟩
    ·simp only [Bool.not_eq_true', Bool.and_eq_false_iff, decide_eq_false_iff_not] at hc
     have := hg.start
     omega
    ·simp only [Bool.not_eq_false', Bool.and_eq_true, decide_eq_true_eq] at hc
     refine loop_count g.2.2.2.length (fun i => ∀ j, j < i → (0 ≤ (g.2.2.2.getD j (0, [])).1 ∧ (g.2.2.2.getD j (0, [])).1 < g.2.1) ∧ ∀ s ∈ (g.2.2.2.getD j (0, [])).2, 0 ≤ s ∧ s < g.1 + g.2.1) (by intro j hj; omega) ?_
     intro i hi hP X hX
     unfold VC51_l1 VC51_k1
     refine ⟨fun hb => ?_, fun hb => ?_⟩
     ·simp only [decide_eq_true_eq] at hb
      simp only [Int.toNat_natCast]
      have hmem : g.2.2.2.getD i (0, []) ∈ g.2.2.2 := getD_mem (by omega)
      refine ⟨⟨by omega, by omega⟩, ⟨by omega, by omega⟩, VC79_of ?_⟩
      refine gcall_both (fun e2 => VC81_of e hn (hshort _ hmem) ?_) (fun e2 => ?_)
      ·simp only [Bool.not_not] at e2
       rw [e2]
       simp only [Bool.and_eq_true, decide_eq_true_eq] at e2
       refine ⟨fun hc2 => h2 hnl fun hg => ?_, fun hc2 => ⟨⟨by omega, by omega⟩, hX (by omega) fun j hj => ?_⟩⟩
       ·simp only [Bool.not_true, Bool.false_or, Bool.not_eq_true'] at hc2
        have := signs_iff.2 (hg.right _ hmem)
        rw [hc2] at this
        cases this
       ·by_cases e3 : j < i
        ·exact hP j e3
        ·have : j = i := by omega
         subst this
         simp only [Bool.not_true, Bool.false_or, Bool.not_eq_false'] at hc2
         exact ⟨⟨e2.1, by omega⟩, signs_iff.1 hc2⟩
      ·simp only [Bool.not_not] at e2
       rw [e2]
       refine ⟨fun _ => h2 hnl fun hg => ?_, fun hc2 => by simp at hc2⟩
       simp only [Bool.and_eq_false_iff, decide_eq_false_iff_not] at e2
       have := hg.left _ hmem
       omega
     ·simp only [decide_eq_false_iff_not] at hb
      have hall : ∀ r ∈ g.2.2.2, (0 ≤ r.1 ∧ r.1 < g.2.1) ∧ ∀ s ∈ r.2, 0 ≤ s ∧ s < g.1 + g.2.1 := by
       intro r hr
       obtain ⟨j, hj, ej⟩ := List.mem_iff_getElem.1 hr
       have := hP j (by omega)
       rw [getD_lt _ hj, ej] at this
       exact this
      exact h ⟨e, hn, hfew, hshort, ⟨hc.1, by omega⟩, fun r hr => (hall r hr).1, fun r hr => (hall r hr).2⟩
 ·simp only [Bool.not_not] at e
  rw [e]
  refine ⟨fun _ => h1 (by
   simp only [Bool.and_eq_false_iff, decide_eq_false_iff_not] at e
   exact .inl (by omega)) fun hg => ?_, fun hc => by simp at hc⟩
  simp only [Bool.and_eq_false_iff, decide_eq_false_iff_not] at e
  have := hg.k
  omega
section
variable {g : Gr} {w : List Int}
theorem VC33_all (hg : GoodG g) (hw : GoodW g.1 w) (hp : Prop1 g) {i : Int} {K : List Int × Int → Prop} (hbig : 1099511627776 < (cntW g w : Int) → K ([], 1)) (hout : (cntW g w : Int) ≤ 1099511627776 → ¬ (0 ≤ i ∧ i < (cntW g w : Int)) → K ([], 5)) (hin : (cntW g w : Int) ≤ 1099511627776 → 0 ≤ i → i < (cntW g w : Int) → K ((SG g w (g.1 + g.2.2.1) 0 w.length).getD i.toNat [], 0)) : VC33 g w i K := by
 unfold VC33
 refine VC44_of (fun e he hng => absurd ⟨hg, hw⟩ hng) (fun _ _ => ⟨fun h0 => (by simp at h0), fun _ => VC84_of hg fun b hb => ?_⟩)
 rw [hb.2 hp]
 refine ⟨fun h => (by cases h), fun _ => ?_⟩
 have hk := hg.k
 have hn := hg.n
 have hst := hg.start
 have hfew := hg.few
 have hw12 := hw.1
 have hs : ¬ g.1 + g.2.2.1 < g.1 := by omega
 refine ⟨by unfold InR; omega, fun hc => ?_, fun _ => ⟨fun hsome => ?_, fun _ => ?_⟩⟩
 ·simp only [decide_eq_true_eq] at hc
  omega
 ·cases hsome
 ·refine sign_loop (w := w) hp (s := g.1 + g.2.2.1) (i := 0) (j := w.length) hs (Nat.le_refl _) knOk_nil ?_ ?_
  ·intro n v kn X hv hk' hhit hmiss
   dsimp only
   unfold VC33_l1 VC33_k4
   simp only [Int.toNat_natCast]
   refine ⟨fun hb => ⟨⟨by omega, by omega⟩, by unfold InR; omega, fun he => ?_, fun hne => ?_⟩, fun hb => ?_⟩
   ·simp only [decide_eq_true_eq] at he
    have hvm : g.2.2.2.getD v (0, []) ∈ g.2.2.2 := getD_mem hv
    have hne := (hp _ hvm).1
    refine ⟨2 * w.length + 1, row_of hg hw hp _ v 0 0 w.length kn _ (by rw [if_pos rfl]; omega) hv (List.length_pos_iff.2 hne) (by omega) (by omega) hk' (fun r kn' hk'' hr' => ?_)⟩
    rw [List.drop_zero] at hr'
    have := hhit he r kn' hk'' hr'
    exact ⟨this.1, by unfold InR; omega, this.2⟩
   ·simp only [decide_eq_false_iff_not] at hne
    exact ⟨by unfold InR; omega, hmiss hne⟩
   ·simp only [decide_eq_false_iff_not] at hb
    omega
  ·intro n kn X hk' hn''
   have hn' : CapV n (cntW g w) := hn''
   dsimp only
   unfold VC33_l1
   simp only [Int.toNat_natCast]
   refine ⟨fun hb => ?_, fun _ => ?_⟩
   ·simp only [decide_eq_true_eq] at hb
    omega
   ·unfold VC33_k3 VC33_k2
    refine ⟨fun hc => ?_, fun hc => ⟨fun h0 => (by simp at h0), fun _ => ⟨fun ho => hout ?_ ?_, fun hi => ⟨by unfold InR; omega, ?_⟩⟩⟩⟩
    ·simp only [decide_eq_true_eq] at hc
     unfold VC33_k1
     exact ⟨fun _ => hbig (by unfold CapV at hn'; omega), fun h0 => (by simp at h0)⟩
    ·simp only [decide_eq_false_iff_not] at hc
     unfold CapV at hn'
     omega
    ·simp only [decide_eq_false_iff_not] at hc
     simp only [Bool.or_eq_true, decide_eq_true_eq] at ho
     unfold CapV at hn'
     omega
    ·simp only [decide_eq_false_iff_not] at hc
     simp only [Bool.or_eq_false_iff, decide_eq_false_iff_not] at hi
     have hcn : n = (cntW g w : Int) := by unfold CapV at hn'; omega
     refine ⟨w.length + 2, nth_of hg hw hp _ _ 0 w.length i _ _ (by rw [if_neg hs]; omega) (by omega) (by omega) (Nat.le_refl _) (by omega) (by omega) (show i.toNat < cntW g w by omega) (knOk_mset hk' (by rw [show (0 : Int) = ((0 : Nat) : Int) from rfl, mean_sign]; exact hn')) (fun kn' _ => ?_)⟩
     exact hin (by omega) (by omega) (by omega)
theorem VC27_all (hg : GoodG g) (hw : GoodW g.1 w) (hp : Prop1 g) {K : Int × Int → Prop} (hbig : 1099511627776 < (cntW g w : Int) → K (0, 1)) (hin : (cntW g w : Int) ≤ 1099511627776 → K ((cntW g w : Int), 0)) : VC27 g w K := by
 unfold VC27
 refine VC44_of (fun e he hng => absurd ⟨hg, hw⟩ hng) (fun _ _ => ⟨fun h0 => (by simp at h0), fun _ => VC84_of hg fun b hb => ?_⟩)
 rw [hb.2 hp]
 refine ⟨fun h => (by cases h), fun _ => ?_⟩
 have hk := hg.k
 have hn := hg.n
 have hst := hg.start
 have hfew := hg.few
 have hw12 := hw.1
 have hs : ¬ g.1 + g.2.2.1 < g.1 := by omega
 refine ⟨by unfold InR; omega, fun hc => ?_, fun _ => ⟨fun hsome => ?_, fun _ => ?_⟩⟩
 ·simp only [decide_eq_true_eq] at hc
  omega
 ·cases hsome
 ·refine sign_loop (w := w) hp (s := g.1 + g.2.2.1) (i := 0) (j := w.length) hs (Nat.le_refl _) knOk_nil ?_ ?_
  ·intro n v kn X hv hk' hhit hmiss
   dsimp only
   unfold VC27_l1 VC27_k4
   simp only [Int.toNat_natCast]
   refine ⟨fun hb => ⟨⟨by omega, by omega⟩, by unfold InR; omega, fun he => ?_, fun hne => ?_⟩, fun hb => ?_⟩
   ·simp only [decide_eq_true_eq] at he
    have hvm : g.2.2.2.getD v (0, []) ∈ g.2.2.2 := getD_mem hv
    have hne := (hp _ hvm).1
    refine ⟨2 * w.length + 1, row_of hg hw hp _ v 0 0 w.length kn _ (by rw [if_pos rfl]; omega) hv (List.length_pos_iff.2 hne) (by omega) (by omega) hk' (fun r kn' hk'' hr' => ?_)⟩
    rw [List.drop_zero] at hr'
    have := hhit he r kn' hk'' hr'
    exact ⟨this.1, by unfold InR; omega, this.2⟩
   ·simp only [decide_eq_false_iff_not] at hne
    exact ⟨by unfold InR; omega, hmiss hne⟩
   ·simp only [decide_eq_false_iff_not] at hb
    omega
  ·intro n kn X hk' hn''
   have hn' : CapV n (cntW g w) := hn''
   dsimp only
   unfold VC27_l1
   simp only [Int.toNat_natCast]
   refine ⟨fun hb => ?_, fun _ => ?_⟩
   ·simp only [decide_eq_true_eq] at hb
    omega
   ·unfold VC27_k3 VC27_k2
    refine ⟨fun hc => ?_, fun hc => ?_⟩
    ·simp only [decide_eq_true_eq] at hc
     unfold VC27_k1
     exact hbig (by unfold CapV at hn'; omega)
    ·simp only [decide_eq_false_iff_not] at hc
     have hcn : n = (cntW g w : Int) := by unfold CapV at hn'; omega
     rw [hcn]
     exact hin (by omega)
theorem VC35_all (hg : GoodG g) (hw : GoodW g.1 w) (hp : Prop1 g) {st : List Int} {K : Int × Int → Prop} (hbig : 1099511627776 < (cntW g w : Int) → K (0, 1)) (hlong : (cntW g w : Int) ≤ 1099511627776 → 60 < st.length → K (0, 1)) (hno : (cntW g w : Int) ≤ 1099511627776 → st.length ≤ 60 → ¬ (∃ t, growF g 62 (g.1 + g.2.2.1) st = some (t, []) ∧ t.word = w) → K (0, 5)) (hyes : ∀ p : Nat, p < cntW g w → (SG g w (g.1 + g.2.2.1) 0 w.length).getD p [] = st → (cntW g w : Int) ≤ 1099511627776 → st.length ≤ 60 → (∃ t, growF g 62 (g.1 + g.2.2.1) st = some (t, []) ∧ t.word = w) → K ((p : Int), 0)) : VC35 g w st K := by
 unfold VC35
 refine VC44_of (fun e he hng => absurd ⟨hg, hw⟩ hng) (fun _ _ => ⟨fun h0 => (by simp at h0), fun _ => VC84_of hg fun b hb => ?_⟩)
 rw [hb.2 hp]
 refine ⟨fun h => (by cases h), fun _ => ?_⟩
 have hk := hg.k
 have hn := hg.n
 have hst := hg.start
 have hfew := hg.few
 have hw12 := hw.1
 have hs : ¬ g.1 + g.2.2.1 < g.1 := by omega
 refine ⟨by unfold InR; omega, fun hc => ?_, fun _ => ⟨fun hsome => ?_, fun _ => ?_⟩⟩
 ·simp only [decide_eq_true_eq] at hc
  omega
 ·cases hsome
 ·refine sign_loop (w := w) hp (s := g.1 + g.2.2.1) (i := 0) (j := w.length) hs (Nat.le_refl _) knOk_nil ?_ ?_
  ·intro n v kn X hv hk' hhit hmiss
   dsimp only
   unfold VC35_l1 VC35_k4
   simp only [Int.toNat_natCast]
   refine ⟨fun hb => ⟨⟨by omega, by omega⟩, by unfold InR; omega, fun he => ?_, fun hne => ?_⟩, fun hb => ?_⟩
   ·simp only [decide_eq_true_eq] at he
    have hvm : g.2.2.2.getD v (0, []) ∈ g.2.2.2 := getD_mem hv
    have hne := (hp _ hvm).1
    refine ⟨2 * w.length + 1, row_of hg hw hp _ v 0 0 w.length kn _ (by rw [if_pos rfl]; omega) hv (List.length_pos_iff.2 hne) (by omega) (by omega) hk' (fun r kn' hk'' hr' => ?_)⟩
    rw [List.drop_zero] at hr'
    have := hhit he r kn' hk'' hr'
    exact ⟨this.1, by unfold InR; omega, this.2⟩
   ·simp only [decide_eq_false_iff_not] at hne
    exact ⟨by unfold InR; omega, hmiss hne⟩
   ·simp only [decide_eq_false_iff_not] at hb
    omega
  ·intro n kn X hk' hn''
   have hn' : CapV n (cntW g w) := hn''
   dsimp only
   unfold VC35_l1
   simp only [Int.toNat_natCast]
   refine ⟨fun hb => ?_, fun _ => ?_⟩
   ·simp only [decide_eq_true_eq] at hb
    omega
   ·unfold VC35_k3 VC35_k2
    refine ⟨fun hc => ?_, fun hc => ⟨fun h0 => (by simp at h0), fun _ => ⟨fun hl => ?_, fun hshort => ⟨by unfold InR; omega, ?_⟩⟩⟩⟩
    ·simp only [decide_eq_true_eq] at hc
     unfold VC35_k1
     exact ⟨fun _ => hbig (by unfold CapV at hn'; omega), fun h0 => (by simp at h0)⟩
    ·simp only [decide_eq_false_iff_not] at hc
     simp only [decide_eq_true_eq] at hl
     exact hlong (by unfold CapV at hn'; omega) (by omega)
    ·simp only [decide_eq_false_iff_not] at hc hshort
     have hcn : n = (cntW g w : Int) := by unfold CapV at hn'; omega
     have hle : (cntW g w : Int) ≤ 1099511627776 := by omega
     have h60 : st.length ≤ 60 := by omega
     refine VCr61_of hg (by omega) (by omega) (fun hnone => gcall_both (fun h => (by cases h)) (fun _ => ⟨fun _ => hno hle h60 ?_, fun h => (by cases h)⟩)) (fun t r hsome ht hr => ?_)
     ·rintro ⟨t, h1, _⟩
      rw [hnone] at h1
      cases h1
     ·have hbad : (r ≠ [] ∨ t.word ≠ w) → ¬ (∃ t, growF g 62 (g.1 + g.2.2.1) st = some (t, []) ∧ t.word = w) := by
       rintro hor ⟨t', h1, h2⟩
       rw [hsome] at h1
       injection h1 with h1; injection h1 with h3 h4
       subst h3 h4
       rcases hor with h | h
       ·exact h rfl
       ·exact h h2
      cases r with
      | cons x r =>
       have e : decide ((0 : Int) < (((x :: r).length : Nat) : Int)) = true := by simp only [decide_eq_true_eq, List.length_cons]; omega
       refine gcall_both (fun h => ?_) (fun _ => ⟨fun _ => hno hle h60 (hbad (.inl (by simp))), fun h => ?_⟩)
       ·simp only [e] at h; cases h
       ·simp only [e] at h; cases h
      | nil =>
       refine gcall_both (fun _ => VC70_of (by show t.word.length ≤ 1000; omega) ⟨fun hne => hno hle h60 (hbad (.inr ?_)), fun heq => ?_⟩) (fun h => (by cases h))
       ·intro e
        simp [e] at hne
       ·have hww : t.word = w := by
         by_cases e : t.word = w
         ·exact e
         ·simp [e] at heq
        obtain ⟨a, e, htree, _⟩ := gro_tree (w := w) hp 62 _ st t [] 0 hsome (by rw [hww]; exact At.whole)
        rw [List.append_nil] at e
        subst e
        rw [hww, Nat.zero_add] at htree
        exact ⟨62, place_of hg hw hp 62 (g.1 + g.2.2.1) 0 w.length st t _ _ htree (Nat.le_refl _) (by omega) (by show (cntW g w : Int) ≤ _; omega) (knOk_mset hk' (by rw [show (0 : Int) = ((0 : Nat) : Int) from rfl, mean_sign]; exact hn')) (fun p kn' _ h1 h2 => hyes p h1 h2 hle h60 ⟨t, hsome, hww⟩)⟩
theorem sg_inj {p q : Nat} (hp : p < (SG g w (g.1 + g.2.2.1) 0 w.length).length) (hq : q < (SG g w (g.1 + g.2.2.1) 0 w.length).length) (h : (SG g w (g.1 + g.2.2.1) 0 w.length).getD p [] = (SG g w (g.1 + g.2.2.1) 0 w.length).getD q []) : p = q := by
 have hr := List.pairwise_iff_getElem.1 (sgn_rise (K := g.1) (R := g.2.2.2) (w := w) (w.length + 1) (g.1 + g.2.2.1) 0 w.length)
 rw [getD_lt _ hp, getD_lt _ hq] at h
 rcases Nat.lt_trichotomy p q with hlt | he | hlt
 ·exact absurd h (hr p q hp hq hlt).1
 ·exact he
 ·exact absurd h.symm (hr q p hq hp hlt).1
end
/-! ### one answer -/
theorem VC51_ex (g : Gr) : ∃ e : Int, (e = 0 ↔ GoodG g) ∧ ∀ K : Int → Prop, K e → VC51 g K := by
 by_cases hg : GoodG g
 ·exact ⟨0, ⟨fun _ => hg, fun _ => rfl⟩, fun K hK => VC51_two (fun _ h => absurd hg h) (fun _ h => absurd hg h) fun _ => hK⟩
 ·by_cases hl : LargeG g
  ·exact ⟨1, ⟨fun h => (by cases h), fun h => absurd h hg⟩, fun K hK => VC51_two (fun _ _ => hK) (fun h _ => absurd hl h) fun h => absurd h hg⟩
  ·exact ⟨2, ⟨fun h => (by cases h), fun h => absurd h hg⟩, fun K hK => VC51_two (fun h _ => absurd h hl) (fun _ _ => hK) fun h => absurd h hg⟩
theorem VC75_ex {k : Int} (hk : 1 ≤ k ∧ k ≤ 3) (w : List Int) : ∃ e : Int, (e = 0 ↔ GoodW k w) ∧ ∀ K : Int → Prop, K e → VC75 k w K := by
 by_cases hw : GoodW k w
 ·exact ⟨0, ⟨fun _ => hw, fun _ => rfl⟩, fun K hK => VC75_of hk (fun e _ h => absurd hw h) fun _ => hK⟩
 ·by_cases hl : 12 < w.length
  ·refine ⟨1, ⟨fun h => (by cases h), fun h => absurd h hw⟩, fun K hK => ?_⟩
   unfold VC75
   exact ⟨fun _ => hK, fun h => (by simp only [decide_eq_false_iff_not] at h; omega)⟩
  ·refine ⟨2, ⟨fun h => (by cases h), fun h => absurd h hw⟩, fun K hK => ?_⟩
   unfold VC75
   refine ⟨fun h => (by simp only [decide_eq_true_eq] at h; omega), fun _ => ?_⟩
   refine VC59_of (fun s => !(decide (0 ≤ s) && decide (s ≤ k - 1))) (by omega) (fun x _ K' hK' => ⟨⟨by omega, by omega⟩, hK'⟩) ⟨fun _ => hK, fun hs => ?_⟩
   refine absurd ⟨by omega, fun s hm => ?_⟩ hw
   have := List.any_eq_false.1 hs s hm
   simp only [Bool.not_eq_true', Bool.not_eq_false, Bool.and_eq_true, decide_eq_true_eq] at this
   omega
theorem VC44_ex {g : Gr} (hg : GoodG g) (w : List Int) : ∃ e : Int, (e = 0 ↔ GoodW g.1 w) ∧ ∀ K : Int → Prop, K e → VC44 g w K := by
 obtain ⟨e, h1, h2⟩ := VC75_ex hg.k w
 refine ⟨e, h1, fun K hK => ?_⟩
 unfold VC44
 exact VC51_of (fun _ _ h => absurd hg h) fun _ => ⟨fun h => (by simp at h), fun _ => h2 _ hK⟩
theorem VC27_ex {g : Gr} (hg : GoodG g) (hp : Prop1 g) (w : List Int) : ∃ r : Int × Int, ∀ K : Int × Int → Prop, K r → VC27 g w K := by
 obtain ⟨e, h1, h2⟩ := VC44_ex hg w
 by_cases hw : GoodW g.1 w
 ·by_cases hb : 1099511627776 < (cntW g w : Int)
  ·exact ⟨(0, 1), fun K hK => VC27_all hg hw hp (fun _ => hK) (fun h => absurd hb (by omega))⟩
  ·exact ⟨((cntW g w : Int), 0), fun K hK => VC27_all hg hw hp (fun h => absurd h hb) (fun _ => hK)⟩
 ·refine ⟨(0, e), fun K hK => ?_⟩
  have he : e ≠ 0 := fun h => hw (h1.1 h)
  unfold VC27
  refine h2 _ ⟨fun _ => hK, fun h => ?_⟩
  simp at h
  exact absurd h he
theorem VC33_ex {g : Gr} (hg : GoodG g) (hp : Prop1 g) (w : List Int) (i : Int) : ∃ r : List Int × Int, r.1.length ≤ 24 ∧ ∀ K : List Int × Int → Prop, K r → VC33 g w i K := by
 obtain ⟨e, h1, h2⟩ := VC44_ex hg w
 by_cases hw : GoodW g.1 w
 ·by_cases hb : 1099511627776 < (cntW g w : Int)
  ·exact ⟨([], 1), by simp, fun K hK => VC33_all hg hw hp (fun _ => hK) (fun h => absurd hb (by omega)) (fun h => absurd hb (by omega))⟩
  ·by_cases hi : 0 ≤ i ∧ i < (cntW g w : Int)
   ·refine ⟨((SG g w (g.1 + g.2.2.1) 0 w.length).getD i.toNat [], 0), ?_, fun K hK => VC33_all hg hw hp (fun h => absurd h hb) (fun _ h => absurd hi h) (fun _ _ _ => hK)⟩
    have hil : i.toNat < (SG g w (g.1 + g.2.2.1) 0 w.length).length := by unfold cntW cntS at hi; omega
    have hri : (SG g w (g.1 + g.2.2.1) 0 w.length).getD i.toNat [] ∈ SG g w (g.1 + g.2.2.1) 0 w.length := getD_mem hil
    have := sgn_steps hp _ _ _ _ _ hri
    have := hw.1
    dsimp only
    omega
   ·exact ⟨([], 5), by simp, fun K hK => VC33_all hg hw hp (fun h => absurd h hb) (fun _ _ => hK) (fun _ h h' => absurd ⟨h, h'⟩ hi)⟩
 ·refine ⟨([], e), by simp, fun K hK => ?_⟩
  have he : e ≠ 0 := fun h => hw (h1.1 h)
  unfold VC33
  refine h2 _ ⟨fun _ => ?_, fun h => ?_⟩
  ·unfold VC33_k1
   exact ⟨fun _ => hK, fun h => (by simp at h; exact absurd h he)⟩
  ·simp at h
   exact absurd h he
theorem VC35_ex {g : Gr} (hg : GoodG g) (hp : Prop1 g) (w st : List Int) : ∃ r : Int × Int, ∀ K : Int × Int → Prop, K r → VC35 g w st K := by
 obtain ⟨e, h1, h2⟩ := VC44_ex hg w
 by_cases hw : GoodW g.1 w
 ·by_cases hb : 1099511627776 < (cntW g w : Int)
  ·exact ⟨(0, 1), fun K hK => VC35_all hg hw hp (fun _ => hK) (fun h => absurd hb (by omega)) (fun h => absurd hb (by omega)) (fun _ _ _ h => absurd hb (by omega))⟩
  ·by_cases hl : st.length ≤ 60
   ·by_cases ht : ∃ t, growF g 62 (g.1 + g.2.2.1) st = some (t, []) ∧ t.word = w
    ·by_cases hq : ∃ p : Nat, p < cntW g w ∧ (SG g w (g.1 + g.2.2.1) 0 w.length).getD p [] = st
     ·obtain ⟨p, hp1, hp2⟩ := hq
      refine ⟨((p : Int), 0), fun K hK => VC35_all hg hw hp (fun h => absurd h hb) (fun _ h => absurd hl (by omega)) (fun _ _ h => absurd ht h) (fun q hq1 hq2 _ _ _ => ?_)⟩
      have : q = p := sg_inj hq1 hp1 (by rw [hq2, hp2])
      rw [this]
      exact hK
     ·exact ⟨(0, 0), fun K hK => VC35_all hg hw hp (fun h => absurd h hb) (fun _ h => absurd hl (by omega)) (fun _ _ h => absurd ht h) (fun q hq1 hq2 _ _ _ => absurd ⟨q, hq1, hq2⟩ hq)⟩
    ·exact ⟨(0, 5), fun K hK => VC35_all hg hw hp (fun h => absurd h hb) (fun _ h => absurd hl (by omega)) (fun _ _ _ => hK) (fun _ _ _ _ _ h => absurd h ht)⟩
   ·exact ⟨(0, 1), fun K hK => VC35_all hg hw hp (fun h => absurd h hb) (fun _ _ => hK) (fun _ h => absurd h hl) (fun _ _ _ _ h => absurd h hl)⟩
 ·refine ⟨(0, e), fun K hK => ?_⟩
  have he : e ≠ 0 := fun h => hw (h1.1 h)
  unfold VC35
  refine h2 _ ⟨fun _ => ?_, fun h => ?_⟩
  ·unfold VC35_k1
   exact ⟨fun _ => hK, fun h => (by simp at h; exact absurd h he)⟩
  ·simp at h
   exact absurd h he
end Dec
namespace Dec
open Go Go.Proofs Cfg
abbrev Deed := Int × ((Int × List Int) × (List Int × (Int × List Int)))
abbrev Told := Int × (Int × List Int)
abbrev Ask := List ((Int × List Int) × (Int × Int))
abbrev dd0 : Deed := ((0 : Int), (((0 : Int), ([] : List Int)), (([] : List Int), ((0 : Int), ([] : List Int)))))
theorem VC123_big {sv : List Int} {K : List Int → Prop} (hl : sv.length ≤ 1048576) (h : K sv) : VC123 sv K := by
 unfold VC123
 intro b hb
 refine ⟨fun e => ?_, fun _ => ⟨by unfold roomN; simp only [List.length_nil]; omega, by simpa using h⟩⟩
 rw [hb e] at h
 exact h
theorem VC102_of {sv : List Rl} {K : List Rl → Prop} (hl : sv.length ≤ 100) (h : K sv) : VC102 sv K := by
 unfold VC102
 intro b hb
 refine ⟨fun e => ?_, fun _ => ⟨by unfold roomN; simp only [List.length_nil]; omega, by simpa using h⟩⟩
 rw [hb e] at h
 exact h
theorem VC22_of {a b : List Int} (hl : a.length ≤ 1000) {K : Bool → Prop} (h : K (decide (a = b))) : VC22 a b K := by
 unfold VC22
 refine ⟨fun hne => ?_, fun heq => ?_⟩
 ·have : a ≠ b := by
   intro e
   simp only [Bool.not_eq_true', decide_eq_false_iff_not] at hne
   exact hne (by rw [e])
  rwa [decide_eq_false this] at h
 ·have hlen : a.length = b.length := by
   simp only [Bool.not_eq_false', decide_eq_true_eq] at heq
   omega
  refine loop_count a.length (fun i => ∀ j, j < i → a.getD j 0 = b.getD j 0) (by intro j hj; omega) ?_
  intro i hi hP X hX
  unfold VC22_l1
  simp only [Int.toNat_natCast]
  refine ⟨fun hb => ?_, fun hb => ?_⟩
  ·simp only [decide_eq_true_eq] at hb
   refine ⟨⟨by omega, by omega⟩, ⟨by omega, by omega⟩, fun hd => ?_, fun hs => ⟨by unfold InR; omega, hX (by omega) fun j hj => ?_⟩⟩
   ·simp only [Bool.not_eq_true', decide_eq_false_iff_not] at hd
    have : a ≠ b := fun e => hd (by rw [e])
    rwa [decide_eq_false this] at h
   ·simp only [Bool.not_eq_false', decide_eq_true_eq] at hs
    by_cases e : j < i
    ·exact hP j e
    ·have : j = i := by omega
     subst this
     exact hs
  ·simp only [decide_eq_false_iff_not] at hb
   unfold VC22_k1
   have : a = b := ext_getD 0 hlen fun j hj => hP j (by omega)
   rwa [decide_eq_true this] at h
def SInv (k n : Int) (sv : List Rl) : Prop := GoodG (k, (n, ((0 : Int), sv))) ∧ Prop1 (k, (n, ((0 : Int), sv)))
def StepTo (k n : Int) (d : Deed) (sv : List Rl) (kn : Ask) (t : Told) (sv' : List Rl) (kn' : Ask) : Prop :=
 ∀ (script : List Deed) (v : Nat) (out : List Told) (K : List Told × Int → Prop) (X : Int × Ask × List Told × List Rl → Prop), v < script.length → script.length ≤ 40 → script.getD v dd0 = d → out.length ≤ 40 → X ((v : Int) + 1, kn', out ++ [t], sv') → VC36_l1 k n script K (v : Int) kn out sv X
theorem sinv_take {k n : Int} {sv : List Rl} (h : SInv k n sv) (m : Nat) : SInv k n (sv.take m) := by
 obtain ⟨hg, hp⟩ := h
 have hm : ∀ r, r ∈ sv.take m → r ∈ sv := fun r hr => List.mem_of_mem_take hr
 refine ⟨⟨hg.k, hg.n, ?_, fun r hr => hg.short r (hm r hr), hg.start, fun r hr => hg.left r (hm r hr), fun r hr => hg.right r (hm r hr)⟩, fun r hr => hp r (hm r hr)⟩
 have := hg.few
 dsimp only at this ⊢
 rw [List.length_take]
 omega
theorem step_det {k n : Int} {sv : List Rl} (hi : SInv k n sv) (kn : Ask) (d : Deed) (hd : d.2.1.2.length ≤ 1048576) : ∃ t sv' kn', SInv k n sv' ∧ t.2.2.length ≤ 1000 ∧ StepTo k n d sv kn t sv' kn' := by
 obtain ⟨hg, hp⟩ := hi
 have hfew : sv.length ≤ 10 := hg.few
 have hgo : ∀ (t : Told) (sv' : List Rl) (kn' : Ask), (∀ (v : Nat) (out : List Told) (X : Int × Ask × List Told × List Rl → Prop), v < 40 → out.length ≤ 40 → X ((v : Int) + 1, kn', out ++ [t], sv') →
   (((decide (d.1 = (1 : Int))) = true → VC102 sv (fun (ret16v : LR) => VC123 (d.2.1.2) (fun (ret21v : LI) => (roomN (ret16v.length + [(d.2.1.1, ret21v)].length) ∧ VC51 (k, (n, ((0 : Int), (ret16v ++ [(d.2.1.1, ret21v)])))) (fun (ret27v : Int) => (((!decide (ret27v = (0 : Int))) = true → VC36_k3 (v : Int) out X ret27v (0 : Int) sv kn) ∧ ((!decide (ret27v = (0 : Int))) = false → VC84 (k, (n, ((0 : Int), (ret16v ++ [(d.2.1.1, ret21v)])))) (fun (ret33v : Bool) => (((!ret33v) = true → VC36_k3 (v : Int) out X (3 : Int) (0 : Int) sv kn) ∧ ((!ret33v) = false → (InR (((ret16v ++ [(d.2.1.1, ret21v)]).length : Int) - (1 : Int)) ∧ VC36_k3 (v : Int) out X (0 : Int) (((ret16v ++ [(d.2.1.1, ret21v)]).length : Int) - (1 : Int)) (ret16v ++ [(d.2.1.1, ret21v)]) ([] : List ((Int × LI) × (Int × Int))))))))))))))
   ∧ ((decide (d.1 = (1 : Int))) = false → (((decide (d.1 = (2 : Int))) = true → (((decide ((sv.length : Int) = (0 : Int))) = true → VC36_k2 (v : Int) out X sv kn (5 : Int) (0 : Int) ([] : List Int)) ∧ ((decide ((sv.length : Int) = (0 : Int))) = false → ((InR ((sv.length : Int) - (1 : Int)) ∧ (0 ≤ ((sv.length : Int) - (1 : Int)) ∧ ((sv.length : Int) - (1 : Int)) ≤ (sv.length : Int)) ∧ VC102 (sv.take (((sv.length : Int) - (1 : Int))).toNat) (fun (ret41v : LR) => VC36_k4 (v : Int) out X ret41v)) ∧ (InR ((sv.length : Int) - (1 : Int)) ∧ ((0 ≤ ((sv.length : Int) - (1 : Int)) ∧ ((sv.length : Int) - (1 : Int)) ≤ (sv.length : Int)) ∧ VC102 (sv.take (((sv.length : Int) - (1 : Int))).toNat) (fun (ret41v : LR) => VC36_k4 (v : Int) out X ret41v)))))))
   ∧ ((decide (d.1 = (2 : Int))) = false → (((decide (d.1 = (3 : Int))) = true → (((decide ((12 : Int) < ((d.2.2.1).length : Int))) = true → VC36_k5 (v : Int) out sv X (1 : Int) (0 : Int) kn) ∧ ((decide ((12 : Int) < ((d.2.2.1).length : Int))) = false → (((!(mget kn (((d.2.2.1).length : Int), (a12 (d.2.2.1)))).isSome) = true → VC27 (k, (n, ((0 : Int), sv))) (d.2.2.1) (fun (ret36v : Int × Int) => VC36_k6 (v : Int) out sv X ret36v.1 ret36v.2 (mset kn (((d.2.2.1).length : Int), (a12 (d.2.2.1))) ret36v))) ∧ ((!(mget kn (((d.2.2.1).length : Int), (a12 (d.2.2.1)))).isSome) = false → VC36_k6 (v : Int) out sv X (((mget kn (((d.2.2.1).length : Int), (a12 (d.2.2.1)))).getD ((0 : Int), (0 : Int))).1) (((mget kn (((d.2.2.1).length : Int), (a12 (d.2.2.1)))).getD ((0 : Int), (0 : Int))).2) kn)))))
   ∧ ((decide (d.1 = (3 : Int))) = false → (((decide (d.1 = (4 : Int))) = true → VC33 (k, (n, ((0 : Int), sv))) (d.2.2.1) (d.2.2.2.1) (fun (ret61v : LI × Int) => VC36_k2 (v : Int) out X sv kn ret61v.2 (0 : Int) ret61v.1))
   ∧ ((decide (d.1 = (4 : Int))) = false → (((decide (d.1 = (5 : Int))) = true → VC35 (k, (n, ((0 : Int), sv))) (d.2.2.1) (d.2.2.2.2) (fun (ret78v : Int × Int) => VC36_k2 (v : Int) out X sv kn ret78v.2 ret78v.1 ([] : List Int))) ∧ ((decide (d.1 = (5 : Int))) = false → VC36_k2 (v : Int) out X sv kn (6 : Int) (0 : Int) ([] : List Int)))))))))))) →
   StepTo k n d sv kn t sv' kn' := by
  intro t sv' kn' h script v out K X hv hl hsd ho hX
  unfold VC36_l1
  simp only [Int.toNat_natCast]
  have hsd' : script.getD v ((0 : Int), (((0 : Int), ([] : LI)), (([] : LI), ((0 : Int), ([] : LI))))) = d := hsd
  refine ⟨fun _ => ⟨⟨by omega, by omega⟩, ?_⟩, fun hb => (by simp only [decide_eq_false_iff_not] at hb; omega)⟩
  simp only [hsd']
  exact h v out X (by omega) ho hX
 have hk2 : ∀ (v : Nat) (out : List Told) (X : Int × Ask × List Told × List Rl → Prop) (sv' : List Rl) (kn' : Ask) (c m : Int) (st : List Int), v < 40 → out.length ≤ 40 → X ((v : Int) + 1, kn', out ++ [(c, (m, st))], sv') → VC36_k2 (v : Int) out X sv' kn' c m st := by
  intro v out X sv' kn' c m st hv ho hX
  unfold VC36_k2
  exact ⟨by unfold roomN; simp only [List.length_cons, List.length_nil]; omega, by unfold InR; omega, hX⟩
 by_cases h1 : d.1 = 1
 ·obtain ⟨e, he0, he⟩ := VC51_ex (k, (n, ((0 : Int), sv ++ [(d.2.1.1, d.2.1.2)])))
  have hpre : ∀ (P : List Rl → List Int → Prop), P sv d.2.1.2 → VC102 sv (fun ret16v => VC123 d.2.1.2 (fun ret21v => P ret16v ret21v)) := fun P h => VC102_of (by omega) (VC123_big hd h)
  have hrest : ∀ {A : Prop}, (decide (d.1 = (1 : Int))) = false → A := fun h => by simp [h1] at h
  by_cases hgood : GoodG (k, (n, ((0 : Int), sv ++ [(d.2.1.1, d.2.1.2)])))
  ·by_cases hprop : Prop1 (k, (n, ((0 : Int), sv ++ [(d.2.1.1, d.2.1.2)])))
   ·refine ⟨(0, (((sv ++ [(d.2.1.1, d.2.1.2)]).length : Int) - 1, [])), sv ++ [(d.2.1.1, d.2.1.2)], [], ⟨hgood, hprop⟩, by simp, hgo _ _ _ fun v out X hv ho hX => ⟨fun _ => hpre _ ⟨?_, he _ ⟨fun h => ?_, fun _ => VC84_of hgood fun b hb => ?_⟩⟩, hrest⟩⟩
    ·unfold roomN; simp only [List.length_cons, List.length_nil]; omega
    ·rw [he0.2 hgood] at h; simp at h
    ·rw [hb.2 hprop]
     refine ⟨fun h => (by cases h), fun _ => ⟨?_, ?_⟩⟩
     ·unfold InR; simp only [List.length_append, List.length_cons, List.length_nil]; omega
     ·unfold VC36_k3
      exact hk2 v out X _ _ _ _ _ hv ho hX
   ·refine ⟨(3, (0, [])), sv, kn, ⟨hg, hp⟩, by simp, hgo _ _ _ fun v out X hv ho hX => ⟨fun _ => hpre _ ⟨?_, he _ ⟨fun h => ?_, fun _ => VC84_of hgood fun b hb => ?_⟩⟩, hrest⟩⟩
    ·unfold roomN; simp only [List.length_cons, List.length_nil]; omega
    ·rw [he0.2 hgood] at h; simp at h
    ·cases b with
     | true => exact absurd (hb.1 rfl) hprop
     | false =>
      refine ⟨fun _ => ?_, fun h => (by cases h)⟩
      unfold VC36_k3
      exact hk2 v out X _ _ _ _ _ hv ho hX
  ·refine ⟨(e, (0, [])), sv, kn, ⟨hg, hp⟩, by simp, hgo _ _ _ fun v out X hv ho hX => ⟨fun _ => hpre _ ⟨?_, he _ ⟨fun _ => ?_, fun h => ?_⟩⟩, hrest⟩⟩
   ·unfold roomN; simp only [List.length_cons, List.length_nil]; omega
   ·unfold VC36_k3
    exact hk2 v out X _ _ _ _ _ hv ho hX
   ·exfalso
    simp at h
    exact hgood (he0.1 h)
 have d1 : ∀ {A : Prop}, (decide (d.1 = (1 : Int))) = true → A := fun h => absurd (by simpa using h) h1
 by_cases h2 : d.1 = 2
 ·have hrest : ∀ {A : Prop}, (decide (d.1 = (2 : Int))) = false → A := fun h => by simp [h2] at h
  by_cases h0 : sv.length = 0
  ·refine ⟨(5, (0, [])), sv, kn, ⟨hg, hp⟩, by simp, hgo _ _ _ fun v out X hv ho hX => ⟨d1, fun _ => ⟨fun _ => ⟨fun _ => hk2 v out X _ _ _ _ _ hv ho hX, fun h => ?_⟩, hrest⟩⟩⟩
   simp only [decide_eq_false_iff_not] at h
   omega
  ·have hlen : (((sv.length : Int) - 1)).toNat = sv.length - 1 := by omega
   refine ⟨(0, (0, [])), sv.take (sv.length - 1), [], sinv_take ⟨hg, hp⟩ _, by simp, hgo _ _ _ fun v out X hv ho hX => ⟨d1, fun _ => ⟨fun _ => ⟨fun h => ?_, fun _ => ?_⟩, hrest⟩⟩⟩
   ·simp only [decide_eq_true_eq] at h
    omega
   ·rw [hlen]
    have hk4 : VC102 (sv.take (sv.length - 1)) (fun (ret41v : LR) => VC36_k4 (v : Int) out X ret41v) := by
     refine VC102_of (by rw [List.length_take]; omega) ?_
     unfold VC36_k4
     exact hk2 v out X _ _ _ _ _ hv ho hX
    exact ⟨⟨by unfold InR; omega, ⟨by omega, by omega⟩, hk4⟩, by unfold InR; omega, ⟨by omega, by omega⟩, hk4⟩
 have d2 : ∀ {A : Prop}, (decide (d.1 = (2 : Int))) = true → A := fun h => absurd (by simpa using h) h2
 by_cases h3 : d.1 = 3
 ·have hrest : ∀ {A : Prop}, (decide (d.1 = (3 : Int))) = false → A := fun h => by simp [h3] at h
  by_cases hl : 12 < d.2.2.1.length
  ·refine ⟨(1, (0, [])), sv, kn, ⟨hg, hp⟩, by simp, hgo _ _ _ fun v out X hv ho hX => ⟨d1, fun _ => ⟨d2, fun _ => ⟨fun _ => ⟨fun _ => ?_, fun h => ?_⟩, hrest⟩⟩⟩⟩
   ·unfold VC36_k5
    exact hk2 v out X _ _ _ _ _ hv ho hX
   ·simp only [decide_eq_false_iff_not] at h
    omega
  ·have dl : ∀ {A : Prop}, (decide ((12 : Int) < ((d.2.2.1).length : Int))) = true → A := fun h => by simp only [decide_eq_true_eq] at h; omega
   cases hm : mget kn (((d.2.2.1).length : Int), (a12 (d.2.2.1))) with
   | none =>
    obtain ⟨r, hr⟩ := VC27_ex hg hp d.2.2.1
    refine ⟨(r.2, (r.1, [])), sv, mset kn (((d.2.2.1).length : Int), (a12 (d.2.2.1))) r, ⟨hg, hp⟩, by simp, hgo _ _ _ fun v out X hv ho hX => ⟨d1, fun _ => ⟨d2, fun _ => ⟨fun _ => ⟨dl, fun _ => ⟨fun _ => hr _ ?_, fun h => ?_⟩⟩, hrest⟩⟩⟩⟩
    ·unfold VC36_k6 VC36_k5
     exact hk2 v out X _ _ _ _ _ hv ho hX
    ·rw [hm] at h; cases h
   | some r =>
    refine ⟨(r.2, (r.1, [])), sv, kn, ⟨hg, hp⟩, by simp, hgo _ _ _ fun v out X hv ho hX => ⟨d1, fun _ => ⟨d2, fun _ => ⟨fun _ => ⟨dl, fun _ => ⟨fun h => ?_, fun _ => ?_⟩⟩, hrest⟩⟩⟩⟩
    ·rw [hm] at h; cases h
    ·rw [hm]
     unfold VC36_k6 VC36_k5
     exact hk2 v out X _ _ _ _ _ hv ho hX
 have d3 : ∀ {A : Prop}, (decide (d.1 = (3 : Int))) = true → A := fun h => absurd (by simpa using h) h3
 by_cases h4 : d.1 = 4
 ·have hrest : ∀ {A : Prop}, (decide (d.1 = (4 : Int))) = false → A := fun h => by simp [h4] at h
  obtain ⟨r, hr1, hr⟩ := VC33_ex hg hp d.2.2.1 d.2.2.2.1
  exact ⟨(r.2, (0, r.1)), sv, kn, ⟨hg, hp⟩, by dsimp only; omega, hgo _ _ _ fun v out X hv ho hX => ⟨d1, fun _ => ⟨d2, fun _ => ⟨d3, fun _ => ⟨fun _ => hr _ (hk2 v out X _ _ _ _ _ hv ho hX), hrest⟩⟩⟩⟩⟩
 have d4 : ∀ {A : Prop}, (decide (d.1 = (4 : Int))) = true → A := fun h => absurd (by simpa using h) h4
 by_cases h5 : d.1 = 5
 ·have hrest : ∀ {A : Prop}, (decide (d.1 = (5 : Int))) = false → A := fun h => by simp [h5] at h
  obtain ⟨r, hr⟩ := VC35_ex hg hp d.2.2.1 d.2.2.2.2
  exact ⟨(r.2, (r.1, [])), sv, kn, ⟨hg, hp⟩, by simp, hgo _ _ _ fun v out X hv ho hX => ⟨d1, fun _ => ⟨d2, fun _ => ⟨d3, fun _ => ⟨d4, fun _ => ⟨fun _ => hr _ (hk2 v out X _ _ _ _ _ hv ho hX), hrest⟩⟩⟩⟩⟩⟩
 have d5 : ∀ {A : Prop}, (decide (d.1 = (5 : Int))) = true → A := fun h => absurd (by simpa using h) h5
 exact ⟨(6, (0, [])), sv, kn, ⟨hg, hp⟩, by simp, hgo _ _ _ fun v out X hv ho hX => ⟨d1, fun _ => ⟨d2, fun _ => ⟨d3, fun _ => ⟨d4, fun _ => ⟨d5, fun _ => hk2 v out X _ _ _ _ _ hv ho hX⟩⟩⟩⟩⟩⟩
theorem run_det {k n : Int} : ∀ (ds : List Deed) (sv : List Rl) (kn : Ask), SInv k n sv → (∀ d ∈ ds, d.2.1.2.length ≤ 1048576) → ∃ outs : List Told, outs.length = ds.length ∧ (∀ t ∈ outs, t.2.2.length ≤ 1000) ∧
  ∀ i, i ≤ ds.length → ∀ (script : List Deed) (v : Nat) (out : List Told) (K : List Told × Int → Prop) (X : Int × Ask × List Told × List Rl → Prop), (∀ s : Int × Ask × List Told × List Rl, VC36_l1 k n script K s.1 s.2.1 s.2.2.1 s.2.2.2 X → X s) → script.length ≤ 40 → v ≤ script.length → out.length ≤ v → script.drop v = ds.take i → K (out ++ outs.take i, 0) → X ((v : Int), kn, out, sv)
 | [], sv, kn, _, _ => by
  refine ⟨[], rfl, by simp, fun i _ script v out K X hX hl hv ho hdrop hK => hX _ ?_⟩
  dsimp only
  unfold VC36_l1
  rw [List.take_nil] at hdrop
  have hle := List.drop_eq_nil_iff.1 hdrop
  refine ⟨fun h => (by simp only [decide_eq_true_eq] at h; omega), fun _ => ?_⟩
  unfold VC36_k1
  simpa using hK
 | d :: ds, sv, kn, hi, hd => by
  obtain ⟨t, sv', kn', hi', ht, hstep⟩ := step_det hi kn d (hd d List.mem_cons_self)
  obtain ⟨outs, ho1, ho2, ho3⟩ := run_det ds sv' kn' hi' fun x hx => hd x (List.mem_cons_of_mem _ hx)
  refine ⟨t :: outs, by simp [ho1], fun x hx => ?_, fun i hi2 script v out K X hX hl hv ho hdrop hK => hX _ ?_⟩
  ·rcases List.mem_cons.1 hx with e | e
   ·subst e; exact ht
   ·exact ho2 x e
  ·cases i with
   | zero =>
    dsimp only
    unfold VC36_l1
    rw [List.take_zero] at hdrop
    have hle := List.drop_eq_nil_iff.1 hdrop
    refine ⟨fun h => (by simp only [decide_eq_true_eq] at h; omega), fun _ => ?_⟩
    unfold VC36_k1
    simpa using hK
   | succ i =>
    rw [List.take_succ_cons] at hdrop hK
    obtain ⟨hvl, hget, hdrop'⟩ := at_drop hdrop dd0
    refine hstep script v out K X hvl hl hget (by omega) ?_
    have := ho3 i (by simpa using hi2) script (v + 1) (out ++ [t]) K X hX hl (by omega) (by simp; omega) hdrop' (by rw [List.append_assoc]; exact hK)
    rw [show (((v + 1 : Nat) : Int)) = (v : Int) + 1 by omega] at this
    exact this
theorem play_det (k n : Int) (script : List Deed) (hd : ∀ d ∈ script, d.2.1.2.length ≤ 1048576) : (∃ e : Int, e ≠ 0 ∧ ∀ K : List Told × Int → Prop, K ([], e) → VC36 k n script K) ∨
  ∃ outs : List Told, outs.length = script.length ∧ script.length ≤ 40 ∧ (∀ t ∈ outs, t.2.2.length ≤ 1000) ∧ ∀ i, i ≤ script.length → ∀ K : List Told × Int → Prop, K (outs.take i, 0) → VC36 k n (script.take i) K := by
 obtain ⟨e, he0, he⟩ := VC51_ex (k, (n, ((0 : Int), ([] : List Rl))))
 by_cases hg : GoodG (k, (n, ((0 : Int), ([] : List Rl))))
 ·by_cases hl : script.length ≤ 40
  ·right
   obtain ⟨outs, h1, h2, h3⟩ := run_det (k := k) (n := n) script [] [] ⟨hg, fun r hr => (by cases hr)⟩ hd
   refine ⟨outs, h1, hl, h2, fun i hi K hK => ?_⟩
   unfold VC36
   refine he _ ⟨fun h => ?_, fun _ => ⟨fun h => ?_, fun _ => ?_⟩⟩
   ·rw [he0.2 hg] at h; simp at h
   ·simp only [decide_eq_true_eq, List.length_take] at h
    omega
   ·intro X hX
    exact h3 i hi (script.take i) 0 [] K X hX (by rw [List.length_take]; omega) (by omega) (by simp) (by simp) (by simpa using hK)
  ·left
   refine ⟨1, by decide, fun K hK => ?_⟩
   unfold VC36
   refine he _ ⟨fun h => ?_, fun _ => ⟨fun _ => hK, fun h => ?_⟩⟩
   ·rw [he0.2 hg] at h; simp at h
   ·simp only [decide_eq_false_iff_not] at h
    omega
 ·left
  have hne : e ≠ 0 := fun h => hg (he0.1 h)
  refine ⟨e, hne, fun K hK => ?_⟩
  unfold VC36
  refine he _ ⟨fun _ => hK, fun h => ?_⟩
  simp at h
  exact absurd h hne
theorem topFront (k n : Int) (script : List Deed) (at_ : Int) (hat : 0 ≤ at_) (hlen : script.length ≤ 1048576) (hd : ∀ d ∈ script, d.2.1.2.length ≤ 1048576) : VC14 k n script at_ (fun b => b = true) := by
 unfold VC14
 rcases play_det k n script hd with ⟨e, he, h⟩ | ⟨outs, h1, h40, h2, h3⟩
 ·refine h _ ⟨fun _ => by simp, fun h0 => ?_⟩
  simp at h0
  exact absurd h0 he
 ·have hfull := h3 script.length (Nat.le_refl _)
  rw [List.take_length, List.take_of_length_le (by omega)] at hfull
  refine hfull _ ⟨fun h => (by simp at h), fun _ => ⟨by unfold InR; omega, ⟨hat, by omega⟩, ?_⟩⟩
  have hm0 : 0 ≤ at_ % ((script.length : Int) + 1) := Int.emod_nonneg _ (by omega)
  have hm1 : at_ % ((script.length : Int) + 1) < (script.length : Int) + 1 := Int.emod_lt_of_pos _ (by omega)
  obtain ⟨i, hi⟩ := Int.eq_ofNat_of_zero_le hm0
  rw [hi] at hm1 ⊢
  rw [Int.toNat_natCast]
  have hil : i ≤ script.length := by omega
  refine ⟨⟨by omega, by omega⟩, h3 i hil _ ⟨fun hbad => ?_, fun _ => ?_⟩⟩
  ·exfalso
   simp only [h1, List.length_take, decide_true, Bool.not_true, Bool.false_or, Bool.not_eq_true', decide_eq_false_iff_not] at hbad
   omega
  ·refine loop_count i (fun _ => True) trivial ?_
   intro j hj _ X hX
   unfold VC14_l1
   rw [hi]
   simp only [Int.toNat_natCast]
   refine ⟨fun hb => ?_, fun hb => ?_⟩
   ·simp only [decide_eq_true_eq] at hb
    have hjo : j < outs.length := by omega
    have hjt : j < (outs.take i).length := by rw [List.length_take]; omega
    have e1 : (outs.take i).getD j ((0 : Int), ((0 : Int), ([] : LI))) = outs.getD j ((0 : Int), ((0 : Int), ([] : LI))) := by
     rw [getD_lt _ hjt, getD_lt _ hjo, List.getElem_take]
    rw [e1]
    have hlt := h2 _ (getD_mem (d := ((0 : Int), ((0 : Int), ([] : LI)))) hjo)
    refine ⟨⟨by omega, by omega⟩, ⟨by omega, by omega⟩, ?_⟩
    unfold VC38
    refine gcall_both (fun _ => VC22_of hlt ?_) (fun h => (by simp at h))
    simp only [decide_true, Bool.and_self, Bool.not_true]
    exact ⟨fun h => (by cases h), fun _ => ⟨by unfold InR; omega, hX (by omega) trivial⟩⟩
   ·unfold VC14_k1
    rfl
theorem deeds_wgt : ∀ {l : List Deed} {b : Nat}, wgt (.sl (.pr (.int .i64) (.pr (.pr (.int .i64) (.sl (.int .i64))) (.pr (.sl (.int .i64)) (.pr (.int .i64) (.sl (.int .i64))))))) l ≤ b → l.length ≤ b ∧ ∀ d ∈ l, d.2.1.2.length ≤ b
 | [], b, _ => by simp
 | d :: l, b, h => by
  have hnum : ∀ q : List Int, q.length ≤ wgt (.sl (.int .i64)) q := by
   intro q
   unfold wgt
   induction q with
   | nil => simp
   | cons x q ih => simp only [List.map_cons, List.sum_cons, List.length_cons]; simp only [wgt] at ih ⊢; omega
  have h1 := hnum d.2.1.2
  have hc : wgt (.sl (.pr (.int .i64) (.pr (.pr (.int .i64) (.sl (.int .i64))) (.pr (.sl (.int .i64)) (.pr (.int .i64) (.sl (.int .i64))))))) (d :: l) = (1 + ((1 + wgt (.sl (.int .i64)) d.2.1.2) + (wgt (.sl (.int .i64)) d.2.2.1 + (1 + wgt (.sl (.int .i64)) d.2.2.2.2)))) + wgt (.sl (.pr (.int .i64) (.pr (.pr (.int .i64) (.sl (.int .i64))) (.pr (.sl (.int .i64)) (.pr (.int .i64) (.sl (.int .i64))))))) l := by
   simp only [wgt, List.map_cons, List.sum_cons]
   omega
  rw [hc] at h
  obtain ⟨h2, h3⟩ := deeds_wgt (l := l) (b := b - 1) (by omega)
  refine ⟨by simp only [List.length_cons]; omega, fun x hx => ?_⟩
  rcases List.mem_cons.1 hx with e | e
  ·subst e; omega
  ·have := h3 x e; omega
end Dec
