/-
'MachineFront' and 'MachineSets' in plain Lean.
-/
import Derived.Test.YtljlpmfmfcljaaaMachB
set_option linter.unusedSimpArgs false
set_option linter.unusedVariables false
namespace Dec
open Go Go.Proofs
theorem goodB_true {m : Mach} {w : List Int} : goodB m w = true ↔ GoodM m ∧ GoodW m.2.1 w := by unfold goodB; simp
theorem goodB_false {m : Mach} {w : List Int} : goodB m w = false ↔ ¬ (GoodM m ∧ GoodW m.2.1 w) := by unfold goodB; simp
theorem runR_good {m : Mach} {w : List Int} (g : GoodM m) (gw : GoodW m.2.1 w) : runR m w = (runM m m.2.2.2.1 w, bt m.2.2.2.2 (runM m m.2.2.2.1 w).toNat, 0) := by
  unfold runR
  rw [if_pos ((chkM_zero m).2 g), if_pos ((chkW_zero _ _).2 gw)]
theorem runR_bad {m : Mach} {w : List Int} (h : ¬ (GoodM m ∧ GoodW m.2.1 w)) : (runR m w).2.2 ≠ 0 := by
  unfold runR
  by_cases a : chkM m = 0
  · have ga := (chkM_zero m).1 a
    by_cases b : chkW m.2.1 w = 0
    · exact absurd ⟨ga, (chkW_zero _ _).1 b⟩ h
    · rw [if_pos a, if_neg b]; exact b
  · rw [if_neg a]; exact a
theorem goodW_append {k : Int} {u v : List Int} : GoodW k (u ++ v) → GoodW k v := by
  rintro ⟨h1, h2⟩
  simp at h1
  exact ⟨by omega, fun s hs => h2 s (by simp [hs])⟩
theorem machineFront {m : Mach} {u v : List Int} (hm : Ok MachT m) (hv : v.length * 8 ≤ 140737488351232) : VC4 m u v (fun b => b = true) := by
  unfold VC4
  refine VC10_of hm (VC11_of hm ⟨fun hg => ?_, fun hg => ?_⟩)
  · have := runR_bad (goodB_false.1 (by simpa using hg))
    simpa using this
  · have hg' := goodB_true.1 (by simpa using hg)
    obtain ⟨g, gu⟩ := hg'
    obtain ⟨a, b, c, d, e⟩ := id g
    have hat := run_good g d gu.2
    rw [runR_good g gu]
    refine ⟨by unfold roomW; have := gu.1; simp; omega, by unfold roomW; have := gu.1; simp; omega, VC10_of hm ⟨fun hc => ?_, fun hc => ?_⟩⟩
    · exfalso
      simp at hc
      omega
    · refine ⟨fun hf => ?_, fun hf => ?_⟩
      · refine ⟨⟨by omega, by have := gu.1; omega⟩, ?_⟩
        refine gcall_of (chkW m.2.1 v) (fun _ hk => VC12_of hk) ?_
        have hbad : ¬ GoodW m.2.1 ([] ++ u ++ v) := by
          intro gw
          rw [runR_good g gw] at hf
          simp at hf
        by_cases hl : (12 : Int) < (u.length : Int) + (v.length : Int)
        · simp [hl]
        · have : chkW m.2.1 v ≠ 0 := by
            intro h0
            have gv := (chkW_zero _ _).1 h0
            apply hbad
            refine ⟨by simp; omega, fun s hs => ?_⟩
            simp only [List.nil_append, List.mem_append] at hs
            rcases hs with hs | hs
            · exact gu.2 s hs
            · exact gv.2 s hs
          simp [hl, this]
      · have gw : GoodW m.2.1 ([] ++ u ++ v) := by
          refine Classical.byContradiction fun hn => ?_
          have := runR_bad (m := m) (w := [] ++ u ++ v) (fun hh => hn hh.2)
          simp at hf this
          exact this hf
        rw [runR_good g gw]
        have hm' : Ok MachT (m.1, (m.2.1, (m.2.2.1, (runM m m.2.2.2.1 u, m.2.2.2.2)))) := by
          obtain ⟨o1, o2, o3, o5, o6⟩ := hm
          obtain ⟨a1, a2, a3, a4⟩ := id a
          exact ⟨o1, o2, o3, mk_ok64 (n := runM m m.2.2.2.1 u) ⟨by omega, by omega⟩, o6⟩
        have g' : GoodM (m.1, (m.2.1, (m.2.2.1, (runM m m.2.2.2.1 u, m.2.2.2.2)))) := ⟨a, b, c, hat, e⟩
        have gv : GoodW m.2.1 v := goodW_append gw
        refine VC10_of hm' ?_
        have hr : ∀ q w, runM (m.1, (m.2.1, (m.2.2.1, (runM m m.2.2.2.1 u, m.2.2.2.2)))) q w = runM m q w := fun q w => rfl
        rw [runR_good g' gv]
        simp only [hr]
        rw [List.nil_append, runM_append]
        simp
end Dec
