/-
  Least machines: places are the same if what is there is; machines are compared.
-/
import Derived.Test.YtfigkkmiallghaaLeastC
set_option linter.unusedSimpArgs false
set_option linter.unusedVariables false
namespace Dec
open Go Go.Proofs

theorem rep_eq {m : Mach} {x y : Int} (hx : 0 ≤ x) (hy : 0 ≤ y) (rx : clI m x.toNat = x.toNat) (ry : clI m y.toNat = y.toNat) (h : EqM m x y) : x = y := by
  obtain ⟨_, _, h3⟩ := clI_spec m x.toNat
  obtain ⟨_, _, k3⟩ := clI_spec m y.toNat
  have ex : ((x.toNat : Nat) : Int) = x := by omega
  have ey : ((y.toNat : Nat) : Int) = y := by omega
  refine Classical.byContradiction fun hn => ?_
  rcases Nat.lt_or_gt_of_ne (show x.toNat ≠ y.toNat by omega) with hl | hl
  · exact k3 x.toNat (by omega) (by rw [ex, ey]; exact h.symm)
  · exact h3 y.toNat (by omega) (by rw [ex, ey]; exact h)

theorem findIdx_congr {f g : Int → Bool} : ∀ {la lb : List Int}, la.length = lb.length → (∀ j, j < la.length → f (la.getD j 0) = g (lb.getD j 0)) → la.findIdx? f = lb.findIdx? g
  | [], [], _, _ => rfl
  | x :: la, y :: lb, hl, h => by
    have h0 : f x = g y := h 0 (by simp)
    have ht := findIdx_congr (la := la) (lb := lb) (by simpa using hl) fun j hj => by
      have := h (j + 1) (by simp; omega)
      exact this
    rw [List.findIdx?_cons, List.findIdx?_cons, h0, ht]

theorem idxOf_congr {f g : Int → Bool} {la lb : List Int} (hl : la.length = lb.length) (h : ∀ j, j < la.length → f (la.getD j 0) = g (lb.getD j 0)) : idxOf f la = idxOf g lb := by
  unfold idxOf
  rw [findIdx_congr hl h]

theorem VC68_of {a b : List Int} (hl : a.length ≤ 1000000) {K : Bool → Prop} (h : K (decide (a = b))) : VC68 a b K := by
  unfold VC68
  refine ⟨fun hne => ?_, fun heq => ?_⟩
  · have : a ≠ b := by
      intro e; subst e; simp at hne
    simpa [this] using h
  · have hlen : a.length = b.length := by
      simp only [Bool.not_eq_false', decide_eq_true_eq] at heq; omega
    refine loop_count a.length (fun i => ∀ j, j < i → a.getD j 0 = b.getD j 0) (fun j hj => absurd hj (by omega)) ?_
    intro i hi hP X hX
    unfold VC68_l1
    refine ⟨fun hlt => ?_, fun hge => ?_⟩
    · simp only [decide_eq_true_eq] at hlt
      simp only [Int.toNat_natCast]
      refine ⟨⟨by omega, by omega⟩, ⟨by omega, by omega⟩, fun hne => ?_, fun he => ⟨⟨by omega, by omega⟩, hX (by omega) fun j hj => ?_⟩⟩
      · have : a ≠ b := by
          intro e; subst e; simp at hne
        simpa [this] using h
      · by_cases hji : j < i
        · exact hP j hji
        · have : j = i := by omega
          subst this
          simpa [-List.getD_eq_getElem?_getD] using he
    · simp only [decide_eq_false_iff_not] at hge
      have : a = b := ext_getD 0 hlen fun j hj => hP j (by omega)
      unfold VC68_k1
      simpa [this] using h

theorem VC52_of {a b : List (List Int)} (hl : a.length ≤ 1000000) (hs : ∀ l ∈ a, l.length ≤ 1000000) {K : Bool → Prop} (h : K (decide (a = b))) : VC52 a b K := by
  unfold VC52
  refine ⟨fun hne => ?_, fun heq => ?_⟩
  · have : a ≠ b := by
      intro e; subst e; simp at hne
    simpa [this] using h
  · have hlen : a.length = b.length := by
      simp only [Bool.not_eq_false', decide_eq_true_eq] at heq; omega
    refine loop_count a.length (fun i => ∀ j, j < i → a.getD j [] = b.getD j []) (fun j hj => absurd hj (by omega)) ?_
    intro i hi hP X hX
    unfold VC52_l1
    refine ⟨fun hlt => ?_, fun hge => ?_⟩
    · simp only [decide_eq_true_eq] at hlt
      simp only [Int.toNat_natCast]
      refine ⟨⟨by omega, by omega⟩, ⟨by omega, by omega⟩, VC68_of (hs _ (getD_mem (by omega))) ⟨fun hne => ?_, fun he => ⟨⟨by omega, by omega⟩, hX (by omega) fun j hj => ?_⟩⟩⟩
      · have : a ≠ b := by
          intro e; subst e; simp at hne
        simpa [this] using h
      · by_cases hji : j < i
        · exact hP j hji
        · have : j = i := by omega
          subst this
          simpa [-List.getD_eq_getElem?_getD] using he
    · simp only [decide_eq_false_iff_not] at hge
      have : a = b := ext_getD [] hlen fun j hj => hP j (by omega)
      unfold VC52_k1
      simpa [this] using h

theorem VC28_of {a b : Mach} (ga : GoodM a) {K : Bool → Prop} (h : K (decide (a = b))) : VC28 a b K := by
  unfold VC28
  have hl := ga.2.1.1
  have h7 := ga.1.2.1
  have h3 := ga.1.2.2.2
  refine gcall_of (decide (a.2.2.1 = b.2.2.1)) (fun _ hk => VC52_of (by omega) (fun l hl' => by have := ga.2.1.2 l hl'; omega) hk) ?_
  obtain ⟨a1, a2, a3, a4, a5⟩ := a
  obtain ⟨b1, b2, b3, b4, b5⟩ := b
  dsimp only
  have e : decide ((a1, a2, a3, a4, a5) = (b1, b2, b3, b4, b5)) = (((((decide (a1 = b1)) && (decide (a2 = b2))) && (decide (a4 = b4))) && (decide (a5 = b5))) && (if ((((decide (a1 = b1)) && (decide (a2 = b2))) && (decide (a4 = b4))) && (decide (a5 = b5))) = true then decide (a3 = b3) else false)) := by
    by_cases e1 : a1 = b1 <;> by_cases e2 : a2 = b2 <;> by_cases e3 : a3 = b3 <;> by_cases e4 : a4 = b4 <;> by_cases e5 : a5 = b5 <;> simp [e1, e2, e3, e4, e5]
  rw [← e]
  exact h
end Dec
