/-
  'EndsGrow' in plain Lean.
-/
import Derived.Test.YtfamoglamihdfaaGenFa
import Derived.Test.YtfamoglamihdfaaEndsC
set_option linter.unusedSimpArgs false
set_option linter.unusedVariables false
set_option maxRecDepth 10000
namespace Dec
open Go Go.Proofs

theorem tri_le {n : Nat} (h : n ≤ 60) : 0 ≤ (n : Int) * ((n : Int) + 1) ∧ (n : Int) * ((n : Int) + 1) ≤ 3660 := by
  have h1 : n * (n + 1) ≤ 60 * 61 := Nat.mul_le_mul h (by omega)
  have h2 : (n : Int) * ((n : Int) + 1) = ((n * (n + 1) : Nat) : Int) := by simp
  omega

theorem lcps_mem {w l : List Int} (hw : w.length ≤ 60) {x : Int} (hx : x ∈ lcps w l) : 0 ≤ x ∧ x ≤ 60 := by
  unfold lcps at hx
  obtain ⟨i, _, rfl⟩ := List.mem_map.1 hx
  have := (lcp_le (suf w (l.getD i 0)) (suf w (l.getD (i + 1) 0))).1
  rw [List.length_drop] at this
  omega

theorem VC39_of (w : List Int) (K : Int × Int → Prop) (hbad : 60 < w.length → K (0, 1)) (h : w.length ≤ 60 → ∀ l, IsSuf w l → K (((facs w l).length : Int), 0)) : VC39 w K := by
  unfold VC39
  refine VC63_of w _ (fun hb => ⟨fun _ => hbad hb, fun hh => by simp at hh⟩) (fun hb => ⟨fun hh => by simp at hh, fun _ => ?_⟩)
  have ht := tri_le hb
  refine ⟨by unfold InR; omega, by unfold InR; omega, ⟨ht.1, by omega⟩, ?_⟩
  refine VC64_of w _ hb fun l hl => VC65_of w l _ hb (by rw [hl.length]; exact hb) (fun x hx => hl.mem hx) ?_
  have hf := h hb l hl
  rw [facs_length hl] at hf
  obtain ⟨c, hc⟩ : ∃ c, lcps w l = c := ⟨_, rfl⟩
  have hm : ∀ x ∈ c, 0 ≤ x ∧ x ≤ 60 := fun x hx => lcps_mem hb (hc ▸ hx)
  have hlen : c.length ≤ 60 := by rw [← hc]; simp [lcps]; have := hl.length; omega
  rw [hc] at hf ⊢
  obtain ⟨N, hN⟩ : ∃ N, (w.length : Int) * ((w.length : Int) + 1) / 2 = N := ⟨_, rfl⟩
  rw [hN] at hf ⊢
  have e0 : ((N, (0 : Int)) : Int × Int) = ((fun i => N - (c.take i).sum) 0, 0) := by simp
  rw [e0]
  refine loop_state' c.length (fun i => N - (c.take i).sum) (fun i => 0 ≤ (c.take i).sum ∧ (c.take i).sum ≤ 60 * (i : Int)) (by simp) ?_
  intro i hi hP X hX
  unfold VC39_l1
  simp only [Int.toNat_natCast, decide_eq_true_eq, decide_eq_false_iff_not, inIdx, InR]
  refine ⟨fun hlt => ?_, fun hge => ?_⟩
  · have hx := hm _ (getD_mem (l := c) (i := i) (d := 0) (by omega))
    have hs : (c.take (i + 1)).sum = (c.take i).sum + c.getD i 0 := by
      rw [List.take_add_one, List.sum_append, getD_opt (d := 0) (by omega)]
      simp [-List.getD_eq_getElem?_getD]
    refine ⟨by omega, by omega, by omega, ?_⟩
    have := hX (by omega) (by rw [hs]; omega)
    rw [hs] at this
    rw [show N - (c.take i).sum - c.getD i 0 = N - ((c.take i).sum + c.getD i 0) by omega]
    exact this
  · unfold VC39_k1
    have : i = c.length := by omega
    subst this
    rw [List.take_length]
    exact hf

theorem VC66_of {s u : List Int} {K : Bool → Prop} (h : K (decide (u <+: s))) : VC66 s u K := by
  unfold VC66
  refine ⟨fun hh => by simp only [decide_eq_true_eq] at hh; omega, ?_⟩
  by_cases hl : u.length ≤ s.length
  · have e : decide ((u.length : Int) ≤ (s.length : Int)) = true := decide_eq_true (by omega)
    rw [e]
    show VC79 _ _ _
    unfold VC79
    simp only [Int.toNat_natCast, Bool.true_and]
    have : decide (s.take u.length = u) = decide (u <+: s) := by
      rw [decide_eq_decide, List.prefix_iff_eq_take]
      exact ⟨fun h => h.symm, fun h => h.symm⟩
    rw [this]; exact h
  · have e : decide ((u.length : Int) ≤ (s.length : Int)) = false := decide_eq_false (by omega)
    rw [e]
    show K (false && false)
    have : decide (u <+: s) = false := decide_eq_false fun hh => hl hh.length_le
    rw [this] at h
    exact h

theorem VC63_ok (l : List (List Int)) (K : Int → Prop) (hl : l.length ≤ 1000) (hm : ∀ x ∈ l, x.length ≤ 60) (h : K 0) : VC63 l K := by
  unfold VC63
  refine loop_count l.length (fun _ => True) trivial ?_
  intro i hi _ X hX
  unfold VC63_l1
  simp only [Int.toNat_natCast, decide_eq_true_eq, decide_eq_false_iff_not, inIdx, InR]
  refine ⟨fun hlt => ⟨by omega, fun hh => ?_, fun hh => ⟨by omega, hX (by omega) trivial⟩⟩, fun hge => h⟩
  have := hm _ (getD_mem (l := l) (i := i) (d := []) (by omega))
  omega

theorem VC40_of (w u : List Int) (K : Int × Int → Prop) (hw : w.length ≤ 60) (hu : u.length ≤ 60) (h : ∀ n : Int, (0 < n ↔ ∃ i, i ≤ w.length ∧ u <+: w.drop i) → K (n, 0)) : VC40 w u K := by
  unfold VC40
  refine VC63_ok _ _ (by simp) (fun x hx => ?_) ⟨fun hh => by simp at hh, fun _ => ?_⟩
  · simp only [List.mem_cons, List.not_mem_nil, or_false] at hx
    rcases hx with rfl | rfl <;> assumption
  · refine Loop.by (fun s => ∃ i : Nat, i ≤ w.length + 1 ∧ s.2 = (i : Int) ∧ 0 ≤ s.1 ∧ s.1 ≤ (i : Int) ∧ (0 < s.1 ↔ ∃ j, j < i ∧ u <+: w.drop j)) (fun s => ((w.length : Int) + 1 - s.2).toNat) ⟨0, by omega, rfl, by omega, by simp, by simp⟩ ?_
    rintro ⟨n, v⟩ ⟨i, hi, h1, h2, h3, h4⟩ X hX
    dsimp only at h1 h2 h3 h4 ⊢
    subst h1
    unfold VC40_l1
    simp only [Int.toNat_natCast, decide_eq_true_eq, decide_eq_false_iff_not, inIdx, InR]
    refine ⟨by omega, fun hlt => ⟨by omega, VC66_of ?_⟩, fun hge => ?_⟩
    · simp only [decide_eq_true_eq, decide_eq_false_iff_not]
      unfold VC40_k2
      simp only [InR]
      refine ⟨fun hp => ⟨by omega, by omega, hX _ ⟨i + 1, by omega, by simp, by simp only; omega, by simp only; omega, ?_⟩ (by simp only; omega)⟩, fun hp => ⟨by omega, hX _ ⟨i + 1, by omega, by simp, by simp only; omega, by simp only; omega, ?_⟩ (by simp only; omega)⟩⟩
      · simp only
        exact ⟨fun _ => ⟨i, by omega, hp⟩, fun _ => by omega⟩
      · simp only
        rw [h4]
        constructor
        · rintro ⟨j, hj, hh⟩; exact ⟨j, by omega, hh⟩
        · rintro ⟨j, hj, hh⟩
          by_cases e : j = i
          · subst e; exact absurd hh hp
          · exact ⟨j, by omega, hh⟩
    · unfold VC40_k1
      refine h n ?_
      rw [h4]
      constructor
      · rintro ⟨j, hj, hh⟩; exact ⟨j, by omega, hh⟩
      · rintro ⟨j, hj, hh⟩
        refine ⟨j, ?_, hh⟩
        have h5 := hh.length_le
        rw [List.length_drop] at h5
        omega

theorem law13 (w : List Int) (b : Int) (hw : w.length ≤ 1048576) : VC13 w b (fun b => b = true) := by
  unfold VC13
  have hx : ([] : List Int) ++ w ++ [b] = w ++ [b] := rfl
  rw [hx]
  have hxl : (w ++ [b]).length = w.length + 1 := by simp
  refine ⟨by unfold roomN; simp; omega, by unfold roomN; simp; omega, ?_⟩
  by_cases hl : w.length + 1 ≤ 60
  · refine VC39_of w _ (fun hb => by omega) (fun hb l hsl => ?_)
    refine VC39_of (w ++ [b]) _ (fun hb => by omega) (fun hb m hsm => ?_)
    refine VC36_of (w ++ [b]) _ ?_
    rw [decide_eq_false (by omega)]
    refine ⟨fun h => by simp at h, fun _ => ?_⟩
    obtain ⟨x, hxe⟩ : ∃ x, w ++ [b] = x := ⟨_, rfl⟩
    rw [hxe] at hxl hsm ⊢
    refine Loop.by (fun s => ∃ old k : Nat, s = ((old : Int), (k : Int)) ∧ 1 ≤ k ∧ k ≤ x.length + 1 ∧ old < k ∧ (old = 0 ∨ stands w x old) ∧ ∀ j, old < j → j < k → ¬ stands w x j) (fun s => ((x.length : Int) + 1 - s.2).toNat) ⟨0, 1, rfl, by omega, by omega, by omega, .inl rfl, fun j h1 h2 => by omega⟩ ?_
    rintro s ⟨old, k, rfl, h1, h2, h3, h4, h5⟩ X hX
    dsimp only
    unfold VC13_l1
    rw [hx, hxe]
    simp only [decide_eq_true_eq, decide_eq_false_iff_not, InR]
    refine ⟨fun hlt => ⟨by omega, by omega, ?_⟩, fun hge => ?_⟩
    · have e1 : ((x.length : Int) - (k : Int)).toNat = x.length - k := by omega
      rw [e1]
      refine VC40_of w _ _ (by omega) (by rw [List.length_drop]; omega) fun n hn => ?_
      have hst : 0 < n ↔ stands w x k := hn
      simp only [Bool.not_eq_true', decide_eq_false_iff_not, Bool.not_eq_false', decide_eq_true_eq]
      refine ⟨fun hh => absurd trivial hh, fun _ => ⟨fun hpos => ?_, fun hneg => ?_⟩⟩
      · unfold VC13_k2
        exact ⟨by unfold InR; omega, hX _ ⟨k, k + 1, by simp, by omega, by omega, by omega, .inr (hst.1 hpos), fun j h6 h7 => by omega⟩ (by simp only; omega)⟩
      · unfold VC13_k2
        refine ⟨by unfold InR; omega, hX _ ⟨old, k + 1, by simp, by omega, by omega, by omega, h4, fun j h6 h7 => ?_⟩ (by simp only; omega)⟩
        by_cases e : j = k
        · subst e; exact fun hh => hneg (hst.2 hh)
        · exact h5 j h6 (by omega)
    · unfold VC13_k1
      rw [hx, hxe]
      have hc := grow_count hxe.symm hsl hsm h4 (by omega) (fun j h6 h7 => h5 j h6 (by omega))
      simp only [decide_true, Bool.and_self, Bool.true_and, InR, decide_eq_true_eq]
      refine ⟨fun _ => by omega, fun _ => by omega, hc⟩
  · have key : ∀ r : Int × Int, VC39 (w ++ [b]) (fun ret27v => VC36 [w ++ [b]] (fun ret32v => ((ret32v = true → (!decide (ret27v.2 = (0 : Int))) = true) ∧ (ret32v = false → Loop (σ := Int × Int) (fun s X => VC13_l1 w b (fun b => b = true) r ret27v s.1 s.2 X) ((0 : Int), (1 : Int)))))) := by
      intro r
      refine VC39_of (w ++ [b]) _ (fun hb => ?_) (fun hb => by omega)
      refine VC36_of (w ++ [b]) _ ?_
      rw [decide_eq_true hb]
      exact ⟨fun _ => rfl, fun h => by simp at h⟩
    exact VC39_of w _ (fun hb => key _) (fun hb l hsl => key _)
end Dec
