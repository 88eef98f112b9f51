/-
  'MachineSets' in plain Lean: the machine of both.
-/
import Derived.Test.YtfigkkmiallghaaMFront
set_option linter.unusedSimpArgs false
set_option linter.unusedVariables false
namespace Dec
open Go Go.Proofs

/-- a loop that counts, with an invariant of its state -/
theorem loop_inv {τ : Type} {B : Int × τ → (Int × τ → Prop) → Prop} (n : Nat) (I : Nat → τ → Prop) {s0 : τ} (h0 : I 0 s0)
    (h : ∀ i : Nat, i ≤ n → ∀ s, I i s → ∀ X : Int × τ → Prop, (∀ s', i < n → I (i + 1) s' → X ((i : Int) + 1, s')) → B ((i : Int), s) X) : Loop B (0, s0) := by
  refine Loop.by (fun s => ∃ i : Nat, i ≤ n ∧ I i s.2 ∧ s.1 = (i : Int)) (fun s => ((n : Int) - s.1).toNat) ⟨0, by omega, h0, rfl⟩ ?_
  rintro ⟨c, s⟩ ⟨i, hi, hP, rfl⟩ X hX
  exact h i hi s hP X fun s' hlt hP' => hX _ ⟨i + 1, by omega, hP', by simp⟩ (by simp only; omega)

theorem not_good {m : Mach} (hm : Ok MachT m) (g : GoodM m) : GoodM (notM m) := by
  have um := ok_mach hm
  obtain ⟨⟨a1, a2, a3, a4⟩, b, c, d, e⟩ := g
  obtain ⟨n, hn⟩ : ∃ n : Nat, m.1 = (n : Int) := ⟨m.1.toNat, by omega⟩
  refine ⟨⟨a1, a2, a3, a4⟩, b, c, d, ?_⟩
  unfold mE notM
  simp only
  rw [hn, Int.toNat_natCast, below_bt (u32_andNot _ _)]
  intro i hi
  rw [bt_andNot (mask_u32 _) um, mask_bt (by omega)]
  have : ¬ i < n := by omega
  simp [this]

theorem not_bit {m : Mach} (hm : Ok MachT m) (g : GoodM m) {q : Int} (hq : 0 ≤ q ∧ q < m.1) : bt (notM m).2.2.2.2 q.toNat = !bt m.2.2.2.2 q.toNat := by
  have um := ok_mach hm
  obtain ⟨⟨a1, a2, a3, a4⟩, b, c, d, e⟩ := g
  obtain ⟨n, hn⟩ : ∃ n : Nat, m.1 = (n : Int) := ⟨m.1.toNat, by omega⟩
  unfold notM
  simp only
  rw [hn, bt_andNot (mask_u32 _) um, mask_bt (by omega)]
  have : q.toNat < n := by omega
  simp [this]

theorem ok_u32 {s : Int} (h : U32 s) : Ok (.int .u32) s := by
  show IntKind.u32.min ≤ s ∧ s ≤ IntKind.u32.max
  simp only [IntKind.min, IntKind.max, IntKind.signed, IntKind.bits]
  obtain ⟨h1, h2⟩ := h
  simp
  omega

theorem ok_of_good {m : Mach} (g : GoodM m) (h : U32 m.2.2.2.2) : Ok MachT m := by
  obtain ⟨⟨a1, a2, a3, a4⟩, ⟨b1, b2⟩, c, d, e⟩ := g
  obtain ⟨d1, d2⟩ := d
  refine ⟨mk_ok64 ⟨by omega, by omega⟩, mk_ok64 ⟨by omega, by omega⟩, ⟨by omega, fun l hl => ⟨by have := b2 l hl; omega, fun n hn => ?_⟩⟩, mk_ok64 ⟨by omega, by omega⟩, ok_u32 h⟩
  have := c l hl n hn
  exact mk_ok64 ⟨by omega, by omega⟩

end Dec
