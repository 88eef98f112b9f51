/-
  'GrammarSets' in plain Lean.
-/
import Derived.Test.YtfpchbpnoggogaaGenGb
import Derived.Test.YtfpchbpnoggogaaGramA
set_option linter.unusedSimpArgs false
set_option linter.unusedVariables false
namespace Dec
open Go Go.Proofs

theorem grammarSets (g : Gr) (r : Rl) : VC3 g r (fun b => b = true) := by
  unfold VC3
  by_cases hg : GoodG g
  · refine VC15_of (fun e he hno => absurd hg hno) fun _ a ua ha => VC16_of (fun e he hno => absurd hg hno) fun _ b ub hb => VC17_of (fun e he hno => absurd hg hno) fun _ c uc hc => VC18_of (fun e he hno => absurd hg hno) fun _ => ?_
    refine ⟨fun e => by simp at e, fun _ => ?_⟩
    have hab : bAndNot .u32 b a = 0 := by
      rw [andNot_zero ub ua]
      intro i hi
      rw [ha]
      exact ((hb i).1 hi).more (fun x h => h) (fun e => by cases e)
    have hfew := hg.few
    dsimp only
    rw [hab]
    simp only [gcall]
    rw [if_pos (by simp)]
    refine VC19_of uc ?_
    have hst := hg.start
    have hn := hg.n
    have hcs : bt c g.2.2.1.toNat = true := by
      rw [hc, show ((g.2.2.1.toNat : Nat) : Int) = g.2.2.1 by omega]
      exact .start
    have e1 : (decide ((0 : Int) ≤ g.2.2.1) && decide (g.2.2.1 < 32)) = true := by
      rw [decide_eq_true (by omega), decide_eq_true (by omega)]; rfl
    rw [hcs, e1]
    refine ⟨fun e => by simp at e, fun _ => ⟨by simp only [roomN, List.length_nil]; omega, by simp only [roomN, List.length_append, List.length_nil, List.length_singleton]; omega, ?_⟩⟩
    rw [List.nil_append]
    by_cases hh : GoodG (g.1, (g.2.1, (g.2.2.1, g.2.2.2 ++ [r])))
    · refine VC15_of (fun e he hno => absurd hh hno) fun _ x ux hx => VC16_of (fun e he hno => absurd hh hno) fun _ y uy hy => VC17_of (fun e he hno => absurd hh hno) fun _ z uz hz => VC18_of (fun e he hno => absurd hh hno) fun _ => ?_
      refine ⟨fun e => by simp at e, fun _ => ?_⟩
      dsimp only at hx hy hz ⊢
      have hsub : ∀ x ∈ g.2.2.2, x ∈ g.2.2.2 ++ [r] := fun x h => List.mem_append_left _ h
      have h1 : bAndNot .u32 a x = 0 := (andNot_zero ua ux).2 fun i hi => (hx i).2 (((ha i).1 hi).more hsub (fun e => e))
      have h2 : bAndNot .u32 b y = 0 := (andNot_zero ub uy).2 fun i hi => (hy i).2 (((hb i).1 hi).more hsub (fun e => e))
      have h3 : bAndNot .u32 c z = 0 := (andNot_zero uc uz).2 fun i hi => (hz i).2 (((hc i).1 hi).more hsub)
      rw [h1, h2, h3]
      simp
    · refine VC15_of (fun e1 he1 _ => ?_) (fun h => absurd h hh)
      refine VC16_of (fun e2 he2 _ => ?_) (fun h => absurd h hh)
      refine VC17_of (fun e3 he3 _ => ?_) (fun h => absurd h hh)
      refine VC18_of (fun e4 he4 _ => ?_) (fun h => absurd h hh)
      refine ⟨fun _ => by simp [he1, he2, he3], fun e => ?_⟩
      simp at e
      exact absurd e he4
  · refine VC15_of (fun e1 he1 _ => ?_) (fun h => absurd h hg)
    refine VC16_of (fun e2 he2 _ => ?_) (fun h => absurd h hg)
    refine VC17_of (fun e3 he3 _ => ?_) (fun h => absurd h hg)
    refine VC18_of (fun e4 he4 _ => ?_) (fun h => absurd h hg)
    refine ⟨fun _ => by simp [he1, he2, he3], fun e => ?_⟩
    simp at e
    exact absurd e he4
end Dec
