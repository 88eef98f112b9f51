/-
  'MachineFront' and 'MachineSets' in plain Lean.
-/
import Derived.Test.YtfigkkmiallghaaMachB
set_option linter.unusedSimpArgs false
set_option linter.unusedVariables false
namespace Dec
open Go Go.Proofs
noncomputable def notM (m : Mach) : Mach := (m.1, (m.2.1, (m.2.2.1, (m.2.2.2.1, (bAndNot .u32 (IntKind.wrap .u32 ((bShl .u32 (1 : Int) m.1) - (1 : Int))) m.2.2.2.2)))))

theorem VC43_of {s : List Int} (hl : s.length ≤ 4294967296) {K : List Int → Prop} (h : K s) : VC43 s K := by
  intro b hb
  refine ⟨fun e => ?_, fun e => ⟨by unfold roomN; simpa using hl, by simpa using h⟩⟩
  rw [hb e] at h
  exact h

noncomputable def notR (m : Mach) : Mach × Int := if chkM m = 0 then (notM m, 0) else (((0 : Int), ((0 : Int), (([] : (List (List Int))), ((0 : Int), (0 : Int))))), chkM m)

theorem VC18_of {m : Mach} (hm : Ok MachT m) {K : Mach × Int → Prop} (h : K (notR m)) : VC18 m K := by
  unfold VC18
  unfold notR at h
  refine VC40_of hm ⟨fun ha => ?_, fun ha => ?_⟩
  · rw [if_neg (by simpa using ha)] at h; exact h
  have ha' : chkM m = 0 := by simpa using ha
  rw [if_pos ha'] at h
  obtain ⟨a, b, c, d, e⟩ := (chkM_zero m).1 ha'
  obtain ⟨a1, a2, a3, a4⟩ := a
  refine loop_state m.2.2.1.length (fun i => m.2.2.1.take i) (fun _ => True) trivial ?_
  intro i hi _ X hX
  unfold VC18_l1
  simp only [Int.toNat_natCast]
  have hlen := b.1
  refine ⟨fun hc => ?_, fun hc => ?_⟩
  · simp only [decide_eq_true_eq] at hc
    have hil : i < m.2.2.1.length := by omega
    have hrow := b.2 _ (getD_mem (d := ([] : List Int)) hil)
    refine ⟨⟨by omega, by omega⟩, VC43_of (by omega) ⟨by unfold roomN; simp; omega, ?_⟩⟩
    unfold VC18_k2
    refine ⟨⟨by omega, by omega⟩, ?_⟩
    have := hX hil trivial
    rw [List.take_succ_eq_append_getElem hil, ← getD_lt ([] : List Int) hil] at this
    exact this
  · simp only [decide_eq_false_iff_not] at hc
    have : i = m.2.2.1.length := by omega
    subst this
    unfold VC18_k1
    rw [List.take_length]
    exact ⟨by omega, h⟩
end Dec
