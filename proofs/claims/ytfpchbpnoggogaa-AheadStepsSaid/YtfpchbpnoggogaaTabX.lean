/-
  The table of the names that derive each stretch of a word: plain contracts.
-/
import Derived.Test.YtfpchbpnoggogaaGramX
set_option linter.unusedSimpArgs false
set_option linter.unusedVariables false
namespace Dec
open Go Go.Proofs Cfg
def GoodW (k : Int) (w : List Int) : Prop := w.length ≤ 12 ∧ ∀ s ∈ w, 0 ≤ s ∧ s < k
theorem VC75_of {k : Int} {w : List Int} (hk : 1 ≤ k ∧ k ≤ 3) {K : Int → Prop} (hbad : ∀ e, e ≠ 0 → ¬ GoodW k w → K e) (h : GoodW k w → K 0) : VC75 k w K := by
  unfold VC75
  refine ⟨fun hc => hbad 1 (by decide) fun hg => ?_, fun hc => ?_⟩
  · simp only [decide_eq_true_eq] at hc
    have := hg.1
    omega
  · simp only [decide_eq_false_iff_not] at hc
    refine VC59_of (fun s => !(decide (0 ≤ s) && decide (s ≤ k - 1))) (by omega) (fun x _ K' hK' => ⟨⟨by omega, by omega⟩, hK'⟩) ⟨fun hs => hbad 2 (by decide) fun hg => ?_, fun hs => h ⟨by omega, fun s hm => ?_⟩⟩
    · obtain ⟨s, hm, h1⟩ := List.any_eq_true.1 hs
      have := hg.2 s hm
      simp only [Bool.not_eq_true', Bool.and_eq_false_iff, decide_eq_false_iff_not] at h1
      omega
    · have := List.any_eq_false.1 hs s hm
      simp only [Bool.not_eq_true', Bool.not_eq_false, Bool.and_eq_true, decide_eq_true_eq] at this
      omega
theorem VC46_of {k : Int} {w : List Int} {K : Int → Prop} (hbad : ∀ e, e ≠ 0 → ¬ GoodW k w → K e) (h : GoodW k w → K 0) : VC46 k w K := by
  unfold VC46
  refine ⟨fun hc => hbad 1 (by decide) fun hg => ?_, fun hc => ?_⟩
  · simp only [decide_eq_true_eq] at hc
    have := hg.1
    omega
  · simp only [decide_eq_false_iff_not] at hc
    refine loop_count w.length (fun i => ∀ j, j < i → 0 ≤ w.getD j 0 ∧ w.getD j 0 < k) (by intro j hj; omega) ?_
    intro i hi hP X hX
    unfold VC46_l1 VC46_k1
    refine ⟨fun hb => ?_, fun hb => ?_⟩
    · simp only [decide_eq_true_eq] at hb
      simp only [Int.toNat_natCast]
      have hm : w.getD i 0 ∈ w := getD_mem (by omega)
      refine ⟨⟨by omega, by omega⟩, fun hd => hbad 2 (by decide) fun hg => ?_, fun hd => ⟨⟨by omega, by omega⟩, hX (by omega) fun j hj => ?_⟩⟩
      · simp only [Bool.or_eq_true, decide_eq_true_eq] at hd
        have := hg.2 _ hm
        omega
      · simp only [Bool.or_eq_false_iff, decide_eq_false_iff_not] at hd
        by_cases e : j < i
        · exact hP j e
        · have : j = i := by omega
          subst this
          omega
    · simp only [decide_eq_false_iff_not] at hb
      refine h ⟨by omega, fun s hs => ?_⟩
      obtain ⟨j, hj, e⟩ := List.mem_iff_getElem.1 hs
      have := hP j (by omega)
      rw [getD_lt _ hj, e] at this
      exact this
theorem VC44_of {g : Gr} {w : List Int} {K : Int → Prop} (hbad : ∀ e, e ≠ 0 → ¬ (GoodG g ∧ GoodW g.1 w) → K e) (h : GoodG g → GoodW g.1 w → K 0) : VC44 g w K := by
  unfold VC44
  refine VC51_of (fun e he hn => ⟨fun _ => hbad e he fun hg => hn hg.1, fun hc => absurd (by simpa using hc) he⟩) (fun hg => ⟨fun hc => by simp at hc, fun _ => ?_⟩)
  exact VC75_of hg.k (fun e he hn => hbad e he fun hh => hn hh.2) (h hg)
theorem VC21_of {g : Gr} {w : List Int} {K : Bool → Prop} (h : ∀ b : Bool, (b = true ↔ GoodG g ∧ GoodW g.1 w) → K b) : VC21 g w K := by
  unfold VC21
  refine VC18_of (fun e he hn => ?_) (fun hg => ?_)
  · rw [decide_eq_false he]
    refine h _ ⟨fun e => by simp at e, fun hg => absurd hg.1 hn⟩
  · rw [decide_eq_true rfl]
    refine gcall_both (fun _ => VC46_of (fun e he hn => ?_) (fun hw => ?_)) (fun e => by cases e)
    · rw [decide_eq_false he]
      exact h _ ⟨fun e => by simp at e, fun hg => absurd hg.2 hn⟩
    · exact h _ ⟨fun _ => ⟨hg, hw⟩, fun _ => by simp⟩
end Dec
