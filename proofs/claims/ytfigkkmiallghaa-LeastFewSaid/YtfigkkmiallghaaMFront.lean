/-
  'MachineFront' and 'MachineSets' in plain Lean.
-/
import Derived.Test.YtfigkkmiallghaaMachB
set_option linter.unusedSimpArgs false
set_option linter.unusedVariables false
namespace Dec
open Go Go.Proofs

theorem goodB_true {m : Mach} {w : List Int} : goodB m w = true ↔ GoodM m ∧ GoodW m.2.1 w := by unfold goodB; simp
theorem goodB_false {m : Mach} {w : List Int} : goodB m w = false ↔ ¬ (GoodM m ∧ GoodW m.2.1 w) := by unfold goodB; simp

theorem runR_good {m : Mach} {w : List Int} (g : GoodM m) (gw : GoodW m.2.1 w) : runR m w = (runM m m.2.2.2.1 w, bt m.2.2.2.2 (runM m m.2.2.2.1 w).toNat, 0) := by
  unfold runR
  rw [if_pos ((chkM_zero m).2 g), if_pos ((chkW_zero _ _).2 gw)]

theorem runR_bad {m : Mach} {w : List Int} (h : ¬ (GoodM m ∧ GoodW m.2.1 w)) : (runR m w).2.2 ≠ 0 := by
  unfold runR
  by_cases a : chkM m = 0
  · have ga := (chkM_zero m).1 a
    by_cases b : chkW m.2.1 w = 0
    · exact absurd ⟨ga, (chkW_zero _ _).1 b⟩ h
    · rw [if_pos a, if_neg b]; exact b
  · rw [if_neg a]; exact a

theorem goodW_append {k : Int} {u v : List Int} : GoodW k (u ++ v) → GoodW k v := by
  rintro ⟨h1, h2⟩
  simp at h1
  exact ⟨by omega, fun s hs => h2 s (by simp [hs])⟩

theorem machineFront {m : Mach} {u v : List Int} (hm : Ok MachT m) (hv : v.length ≤ 4000000000) : VC3 m u v (fun b => b = true) := by
  unfold VC3
  refine VC15_of hm (VC16_of hm ⟨fun hg => ?_, fun hg => ?_⟩)
  · have := runR_bad (goodB_false.1 (by simpa using hg))
    simpa using this
  · have hg' := goodB_true.1 (by simpa using hg)
    obtain ⟨g, gu⟩ := hg'
    obtain ⟨a, b, c, d, e⟩ := id g
    have hat := run_good g d gu.2
    rw [runR_good g gu]
    refine ⟨by unfold roomN; have := gu.1; simp; omega, by unfold roomN; have := gu.1; simp; omega, VC15_of hm ⟨fun hc => ?_, fun hc => ?_⟩⟩
    · exfalso
      simp at hc
      omega
    · refine ⟨fun hf => ?_, fun hf => ?_⟩
      · refine ⟨⟨by omega, by have := gu.1; omega⟩, ?_⟩
        refine gcall_of (chkW m.2.1 v) (fun _ hk => VC17_of hk) ?_
        have hbad : ¬ GoodW m.2.1 ([] ++ u ++ v) := by
          intro gw
          rw [runR_good g gw] at hf
          simp at hf
        by_cases hl : (12 : Int) < (u.length : Int) + (v.length : Int)
        · simp [hl]
        · have : chkW m.2.1 v ≠ 0 := by
            intro h0
            have gv := (chkW_zero _ _).1 h0
            apply hbad
            refine ⟨by simp; omega, fun s hs => ?_⟩
            simp only [List.nil_append, List.mem_append] at hs
            rcases hs with hs | hs
            · exact gu.2 s hs
            · exact gv.2 s hs
          simp [hl, this]
      · have gw : GoodW m.2.1 ([] ++ u ++ v) := by
          refine Classical.byContradiction fun hn => ?_
          have := runR_bad (m := m) (w := [] ++ u ++ v) (fun hh => hn hh.2)
          simp at hf this
          exact this hf
        rw [runR_good g gw]
        have hm' : Ok MachT (m.1, (m.2.1, (m.2.2.1, (runM m m.2.2.2.1 u, m.2.2.2.2)))) := by
          obtain ⟨o1, o2, o3, o5, o6⟩ := hm
          obtain ⟨a1, a2, a3, a4⟩ := id a
          exact ⟨o1, o2, o3, mk_ok64 (n := runM m m.2.2.2.1 u) ⟨by omega, by omega⟩, o6⟩
        have g' : GoodM (m.1, (m.2.1, (m.2.2.1, (runM m m.2.2.2.1 u, m.2.2.2.2)))) := ⟨a, b, c, hat, e⟩
        have gv : GoodW m.2.1 v := goodW_append gw
        refine VC15_of hm' ?_
        have hr : ∀ q w, runM (m.1, (m.2.1, (m.2.2.1, (runM m m.2.2.2.1 u, m.2.2.2.2)))) q w = runM m q w := fun q w => rfl
        rw [runR_good g' gv]
        simp only [hr]
        rw [List.nil_append, runM_append]
        simp

/-- the machine of all other words -/
noncomputable def notM (m : Mach) : Mach := (m.1, (m.2.1, (m.2.2.1, (m.2.2.2.1, (bAndNot .u32 (IntKind.wrap .u32 ((bShl .u32 (1 : Int) m.1) - (1 : Int))) m.2.2.2.2)))))

theorem VC43_of {s : List Int} (hl : s.length ≤ 4294967296) {K : List Int → Prop} (h : K s) : VC43 s K := by
  intro b hb
  refine ⟨fun e => ?_, fun e => ⟨by unfold roomN; simpa using hl, by simpa using h⟩⟩
  rw [hb e] at h
  exact h

noncomputable def notR (m : Mach) : Mach × Int := if chkM m = 0 then (notM m, 0) else (((0 : Int), ((0 : Int), (([] : (List (List Int))), ((0 : Int), (0 : Int))))), chkM m)

theorem VC18_of {m : Mach} (hm : Ok MachT m) {K : Mach × Int → Prop} (h : K (notR m)) : VC18 m K := by
  unfold VC18
  unfold notR at h
  refine VC40_of hm ⟨fun ha => ?_, fun ha => ?_⟩
  · rw [if_neg (by simpa using ha)] at h; exact h
  have ha' : chkM m = 0 := by simpa using ha
  rw [if_pos ha'] at h
  obtain ⟨a, b, c, d, e⟩ := (chkM_zero m).1 ha'
  obtain ⟨a1, a2, a3, a4⟩ := a
  refine loop_state m.2.2.1.length (fun i => m.2.2.1.take i) (fun _ => True) trivial ?_
  intro i hi _ X hX
  unfold VC18_l1
  simp only [Int.toNat_natCast]
  have hlen := b.1
  refine ⟨fun hc => ?_, fun hc => ?_⟩
  · simp only [decide_eq_true_eq] at hc
    have hil : i < m.2.2.1.length := by omega
    have hrow := b.2 _ (getD_mem (d := ([] : List Int)) hil)
    refine ⟨⟨by omega, by omega⟩, VC43_of (by omega) ⟨by unfold roomN; simp; omega, ?_⟩⟩
    unfold VC18_k2
    refine ⟨⟨by omega, by omega⟩, ?_⟩
    have := hX hil trivial
    rw [List.take_succ_eq_append_getElem hil, ← getD_lt ([] : List Int) hil] at this
    exact this
  · simp only [decide_eq_false_iff_not] at hc
    have : i = m.2.2.1.length := by omega
    subst this
    unfold VC18_k1
    rw [List.take_length]
    exact ⟨by omega, h⟩
end Dec
