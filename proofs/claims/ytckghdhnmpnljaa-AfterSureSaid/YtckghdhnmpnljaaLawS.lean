/-
The law AfterSure in plain Lean: the minimal machine of a sentence takes its words and is minimal.
-/
import Derived.Test.YtckghdhnmpnljaaSureX
set_option linter.unusedSimpArgs false
set_option linter.unusedVariables false
namespace Dec
open Go Go.Proofs Rex Gly
theorem afterSure (k : Int) (l : List Nd) (w : List Int) : VC9 k l w (fun b => b = true) := by
  unfold VC9
  have rest : ∀ r : Mach × Int, (Good k l → (r.2 ≠ 0 → r.2 = 1 ∧ r.1.1 = 0) ∧ (r.2 = 0 → SureOk k l r.1)) → VC23 k l w (fun (ret26v : Bool × Int) => VC24 k l w (fun (ret32v : Bool) => (((!ret32v) = true → (!decide (ret26v.2 = (0 : Int))) = true) ∧ ((!ret32v) = false → (((!decide (ret26v.2 = (0 : Int))) = true → false = true) ∧ ((!decide (ret26v.2 = (0 : Int))) = false → (((!decide (r.2 = (0 : Int))) = true → ((decide (r.2 = (1 : Int))) && (decide (r.1.1 = (0 : Int)))) = true) ∧ ((!decide (r.2 = (0 : Int))) = false → VC22 r.1 w (fun (ret50v : Int × Bool × Int) => VC29 r.1 (fun (ret56v : (Int × (Int × (LL × (Int × Int)))) × Int) => gcall (α := Bool) (((decide (ret50v.2.2 = (0 : Int))) && (decide (ret56v.2 = (0 : Int)))) && (ret26v.1 == ret50v.2.1)) (VC30 ret56v.1 r.1) false (fun (ret73v : Bool) => ((((decide (ret50v.2.2 = (0 : Int))) && (decide (ret56v.2 = (0 : Int)))) && (ret26v.1 == ret50v.2.1)) && ret73v) = true))))))))))) := by
    intro r hr
    refine VC23_of (fun e he hno => VC24_of fun b hb => ⟨fun _ => by simpa using he, fun hc => ?_⟩) (fun hg hw is his => VC24_of fun b hb => ⟨fun hc => ?_, fun _ => ⟨fun hc => by simp at hc, fun _ => ⟨fun hc => ?_, fun hc => ?_⟩⟩⟩)
    · simp only [Bool.not_eq_false'] at hc
      exact absurd (hb.1 hc) hno
    · simp only [Bool.not_eq_true'] at hc
      rw [hb.2 ⟨hg, hw⟩] at hc
      cases hc
    · have := (hr hg).1 (by simpa using hc)
      simp [this.1, this.2]
    · have hS := (hr hg).2 (by simpa using hc)
      have ok := ok_of_good hS.good hS.u32
      have hws : SymW k w := hw.2
      refine VC22_of ok hS.good (fun e he hno => absurd (by rw [hS.sym]; exact hw) hno) fun _ => ?_
      refine VC29_of ok (fun e he hno => absurd hS.good hno) fun _ => ?_
      have hacc : bt r.1.2.2.2.2 (runM r.1 r.1.2.2.2.1 w).toNat = is := by
        have h1 := hS.lang w hws
        have h2 : bt r.1.2.2.2.2 (runM r.1 r.1.2.2.2.1 w).toNat = accM r.1 0 w := by
          unfold accM
          rw [hS.start]
        rw [h2]
        cases is with
        | true => exact h1.2 (his.1 rfl)
        | false =>
          cases hx : accM r.1 0 w with
          | false => rfl
          | true => have := his.2 (h1.1 hx); cases this
      dsimp only
      rw [hacc, hS.own]
      refine gcall_both (fun _ => VC30_of hS.good ?_) (fun hc => ?_)
      · simp
      · simp at hc
  refine VC28_of (fun e he hno => rest _ fun hg => absurd hg hno) (fun hg _ => rest _ fun _ => ⟨fun _ => ⟨rfl, rfl⟩, fun h => by cases h⟩) fun hg M hM => rest _ fun _ => ⟨fun h => absurd rfl h, fun _ => hM⟩
end Dec
