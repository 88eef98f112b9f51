/-
  'EndsRise' in plain Lean.
-/
import Derived.Test.YtfamoglamihdfaaEndsA
set_option linter.unusedSimpArgs false
set_option linter.unusedVariables false
set_option maxRecDepth 10000
namespace Dec
open Go Go.Proofs

theorem gcall_on {α : Type} {X : (α → Prop) → Prop} {d : α} {k : α → Prop} {b : Bool} (hb : b = true) (h : X k) : gcall b X d k := by
  subst hb; exact h

theorem lcps_length (w l : List Int) : (lcps w l).length = l.length - 1 := by simp [lcps]
theorem lcps_get {w l : List Int} {i : Nat} (h : i + 1 < l.length) : (lcps w l).getD i 0 = (lcp (suf w (l.getD i 0)) (suf w (l.getD (i + 1) 0)) : Int) := by
  unfold lcps
  have : i < l.length - 1 := by omega
  simp [List.getD, this]

theorem IsSuf.step {w l : List Int} (h : IsSuf w l) {i : Nat} (hi : i + 1 < l.length) : cmpI (suf w (l.getD i 0)) (suf w (l.getD (i + 1) 0)) < 0 := by
  have := List.pairwise_iff_getElem.1 h.rise i (i + 1) (by omega) hi (by omega)
  rw [getD_lt 0 (show i < l.length by omega), getD_lt 0 hi]
  exact this

theorem rise_loop {w l c : List Int} (hw : w.length ≤ 60) (hl : IsSuf w l) (hc : c = lcps w l) : Loop (σ := Int) (fun s X => VC12_l1 w (fun b => b = true) (l, 0) (c, 0) s X) (1 : Int) := by
  subst hc
  have hn := hl.length
  refine Loop.by (fun s => ∃ i : Nat, s = (i : Int) + 1) (fun s => ((l.length : Int) - s).toNat) ⟨0, rfl⟩ ?_
  rintro s ⟨i, rfl⟩ X hX
  unfold VC12_l1
  dsimp only
  refine ⟨fun hlt => ?_, fun hge => rfl⟩
  simp only [decide_eq_true_eq] at hlt
  have e1 : ((i : Int) + 1 - 1).toNat = i := by omega
  have e2 : ((i : Int) + 1).toNat = i + 1 := by omega
  have m1 := hl.mem (getD_mem (l := l) (i := i) (d := 0) (by omega))
  have m2 := hl.mem (getD_mem (l := l) (i := i + 1) (d := 0) (by omega))
  have hs := hl.step (i := i) (by omega)
  have hg := lcps_get (w := w) (l := l) (i := i) (by omega)
  have hcl := lcps_length w l
  rw [e1, e2]
  obtain ⟨x, hx⟩ : ∃ x, l.getD i 0 = x := ⟨_, rfl⟩
  obtain ⟨y, hy⟩ : ∃ y, l.getD (i + 1) 0 = y := ⟨_, rfl⟩
  rw [hx] at m1
  rw [hy] at m2
  rw [hx, hy] at hs hg
  rw [hx, hy]
  have d1 : decide (x < 0) = false := decide_eq_false (by omega)
  have d2 : decide ((w.length : Int) ≤ x) = false := decide_eq_false (by omega)
  have d3 : decide (y < 0) = false := decide_eq_false (by omega)
  have d4 : decide ((w.length : Int) ≤ y) = false := decide_eq_false (by omega)
  simp only [d1, d2, d3, d4, hg, Bool.or_false, Bool.false_or, Bool.not_false]
  have ii : inIdx ((i : Int) + 1) l.length := by unfold inIdx; omega
  have ij : inIdx ((i : Int) + 1 - 1) l.length := by unfold inIdx; omega
  have ik : inIdx ((i : Int) + 1 - 1) (lcps w l).length := by unfold inIdx; omega
  have ir : InR ((i : Int) + 1 - 1) := by unfold InR; omega
  have is : InR ((i : Int) + 1 + 1) := by unfold InR; omega
  have bx : (0 ≤ x ∧ x ≤ (w.length : Int)) := by omega
  have bY : (0 ≤ y ∧ y ≤ (w.length : Int)) := by omega
  refine ⟨ii, fun _ => ii, fun _ => ir, fun _ => ij, fun _ => ir, fun _ => ij, fun _ => ir, fun _ => ij, fun _ => bx, fun _ => ii, fun _ => bY, ?_⟩
  refine gcall_on rfl (VC37_of _ _ _ (by rw [List.length_drop]; omega) ?_)
  rw [decide_eq_true hs]
  simp only [Bool.not_true, Bool.or_false]
  refine ⟨fun _ => ir, fun _ => ij, fun _ => bx, fun _ => ii, fun _ => bY, fun _ => ir, fun _ => ik, ?_⟩
  refine gcall_on rfl (VC38_of _ _ _ (by rw [List.length_drop]; omega) ?_)
  simp only [decide_true, Bool.not_true, Bool.or_false]
  exact ⟨fun h => by simp at h, fun _ => ⟨is, hX _ ⟨i + 1, by omega⟩ (by omega)⟩⟩

theorem law12 (w : List Int) : VC12 w (fun b => b = true) := by
  unfold VC12
  refine VC34_of w _ (fun hb => ?_) (fun hb l hl => ?_)
  · refine VC35_of w _ (fun hb => ?_) (fun hb' => by omega)
    refine VC36_of w _ ?_
    rw [decide_eq_true hb]
    exact ⟨fun _ => rfl, fun h => by simp at h⟩
  · refine VC35_of w _ (fun hb' => by omega) (fun _ m hm => ?_)
    have := hl.unique hm
    subst this
    refine VC36_of w _ ?_
    rw [decide_eq_false (by omega)]
    refine ⟨fun h => by simp at h, fun _ => ?_⟩
    have h1 := hl.length
    have h2 := lcps_length w l
    have a1 : decide ((l.length : Int) = (w.length : Int)) = true := decide_eq_true (by omega)
    have a2 : (decide ((0 : Int) < (w.length : Int)) && !decide (((lcps w l).length : Int) = (w.length : Int) - 1)) = false := by
      by_cases x : w.length = 0
      · simp [x]
      · have : decide (((lcps w l).length : Int) = (w.length : Int) - 1) = true := decide_eq_true (by omega)
        rw [this]; simp
    dsimp only
    rw [a1, a2]
    refine ⟨fun _ _ => by unfold InR; omega, fun h => by simp at h, fun _ => rise_loop hb hl rfl⟩
end Dec
