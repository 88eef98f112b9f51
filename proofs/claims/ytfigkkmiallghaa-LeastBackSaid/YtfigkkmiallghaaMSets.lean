/-
  Machines: small lemmas.
-/
import Derived.Test.YtfigkkmiallghaaMachB
set_option linter.unusedSimpArgs false
set_option linter.unusedVariables false
namespace Dec
open Go Go.Proofs

theorem runR_good {m : Mach} {w : List Int} (g : GoodM m) (gw : GoodW m.2.1 w) : runR m w = (runM m m.2.2.2.1 w, bt m.2.2.2.2 (runM m m.2.2.2.1 w).toNat, 0) := by
  unfold runR
  rw [if_pos ((chkM_zero m).2 g), if_pos ((chkW_zero _ _).2 gw)]

theorem runR_bad {m : Mach} {w : List Int} (h : ¬ (GoodM m ∧ GoodW m.2.1 w)) : (runR m w).2.2 ≠ 0 := by
  unfold runR
  by_cases a : chkM m = 0
  · have ga := (chkM_zero m).1 a
    by_cases b : chkW m.2.1 w = 0
    · exact absurd ⟨ga, (chkW_zero _ _).1 b⟩ h
    · rw [if_pos a, if_neg b]; exact b
  · rw [if_neg a]; exact a

/-- a loop that counts, with an invariant of its state -/
theorem loop_inv {τ : Type} {B : Int × τ → (Int × τ → Prop) → Prop} (n : Nat) (I : Nat → τ → Prop) {s0 : τ} (h0 : I 0 s0)
    (h : ∀ i : Nat, i ≤ n → ∀ s, I i s → ∀ X : Int × τ → Prop, (∀ s', i < n → I (i + 1) s' → X ((i : Int) + 1, s')) → B ((i : Int), s) X) : Loop B (0, s0) := by
  refine Loop.by (fun s => ∃ i : Nat, i ≤ n ∧ I i s.2 ∧ s.1 = (i : Int)) (fun s => ((n : Int) - s.1).toNat) ⟨0, by omega, h0, rfl⟩ ?_
  rintro ⟨c, s⟩ ⟨i, hi, hP, rfl⟩ X hX
  exact h i hi s hP X fun s' hlt hP' => hX _ ⟨i + 1, by omega, hP', by simp⟩ (by simp only; omega)

theorem ok_u32 {s : Int} (h : U32 s) : Ok (.int .u32) s := by
  show IntKind.u32.min ≤ s ∧ s ≤ IntKind.u32.max
  simp only [IntKind.min, IntKind.max, IntKind.signed, IntKind.bits]
  obtain ⟨h1, h2⟩ := h
  simp
  omega

theorem ok_of_good {m : Mach} (g : GoodM m) (h : U32 m.2.2.2.2) : Ok MachT m := by
  obtain ⟨⟨a1, a2, a3, a4⟩, ⟨b1, b2⟩, c, d, e⟩ := g
  obtain ⟨d1, d2⟩ := d
  refine ⟨mk_ok64 ⟨by omega, by omega⟩, mk_ok64 ⟨by omega, by omega⟩, ⟨by omega, fun l hl => ⟨by have := b2 l hl; omega, fun n hn => ?_⟩⟩, mk_ok64 ⟨by omega, by omega⟩, ok_u32 h⟩
  have := c l hl n hn
  exact mk_ok64 ⟨by omega, by omega⟩

end Dec
