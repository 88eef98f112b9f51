/-
Machines in plain Lean: when one may be; a run.
-/
import Derived.Test.YtljlpmfmfcljaaaGenBa
import Derived.Test.YtljlpmfmfcljaaaBits
set_option linter.unusedSimpArgs false
set_option linter.unusedVariables false
namespace Dec
open Go Go.Proofs
abbrev Mach := Int × (Int × ((List (List Int)) × (Int × Int)))
abbrev MachT : Ty := .pr (.int .i64) (.pr (.int .i64) (.pr (.sl (.sl (.int .i64))) (.pr (.int .i64) (.int .u32))))
def mA (m : Mach) : Prop := 1 ≤ m.1 ∧ m.1 ≤ 7 ∧ 1 ≤ m.2.1 ∧ m.2.1 ≤ 3
def mB (m : Mach) : Prop := (m.2.2.1.length : Int) = m.1 ∧ ∀ l ∈ m.2.2.1, (l.length : Int) = m.2.1
def mC (m : Mach) : Prop := ∀ l ∈ m.2.2.1, ∀ n ∈ l, 0 ≤ n ∧ n < m.1
def mD (m : Mach) : Prop := 0 ≤ m.2.2.2.1 ∧ m.2.2.2.1 < m.1
def mE (m : Mach) : Prop := m.2.2.2.2 < ((2 ^ m.1.toNat : Nat) : Int)
open Classical in
noncomputable def chkM (m : Mach) : Int := if ¬ mA m then 1 else if ¬ mB m then 3 else if ¬ mC m then 2 else if ¬ mD m then 2 else if ¬ mE m then 4 else 0
def GoodM (m : Mach) : Prop := mA m ∧ mB m ∧ mC m ∧ mD m ∧ mE m
theorem chkM_zero (m : Mach) : chkM m = 0 ↔ GoodM m := by
  unfold chkM GoodM
  by_cases a : mA m <;> by_cases b : mB m <;> by_cases c : mC m <;> by_cases d : mD m <;> by_cases e : mE m <;> simp [a, b, c, d, e]
theorem VC31_of {n low high : Int} {K : Bool → Prop} (h : K (decide (low ≤ n) && decide (n ≤ high))) : VC31 n low high K := h
theorem VC32_of {s : List (List Int)} {F : List Int → (Bool → Prop) → Prop} {K : Bool → Prop} (f : List Int → Bool) (hl : s.length ≤ 4611686018427387904) (hF : ∀ x ∈ s, ∀ K' : Bool → Prop, K' (f x) → F x K') (h : K (s.any f)) : VC32 s F K :=
  VCany_of (d := ([] : List Int)) f hl hF h
theorem VC35_of {s : List Int} {F : Int → (Bool → Prop) → Prop} {K : Bool → Prop} (f : Int → Bool) (hl : s.length ≤ 4611686018427387904) (hF : ∀ x ∈ s, ∀ K' : Bool → Prop, K' (f x) → F x K') (h : K (s.any f)) : VC35 s F K :=
  VCany_of (d := (0 : Int)) f hl hF h
theorem ok_mach {m : Mach} (h : Ok MachT m) : U32 m.2.2.2.2 := u32_of_ok h.2.2.2.2
theorem mk_ok64 {n : Int} (h : -9223372036854775808 ≤ n ∧ n ≤ 9223372036854775807) : Ok (.int .i64) n := by
  show IntKind.i64.min ≤ n ∧ n ≤ IntKind.i64.max
  simp only [IntKind.min, IntKind.max, IntKind.signed, IntKind.bits]
  simp
  omega
theorem VC20_of {m : Mach} (hm : Ok MachT m) {K : Int → Prop} (h : K (chkM m)) : VC20 m K := by
  have hu := ok_mach hm
  obtain ⟨o1, o2, ⟨o3, o4⟩, o5, o6⟩ := hm
  unfold VC20
  refine VC31_of ?_
  refine gcall_of (decide (1 ≤ m.2.1) && decide (m.2.1 ≤ 3)) (fun _ hk => VC31_of hk) ?_
  by_cases a : mA m
  · have a' := a
    obtain ⟨a1, a2, a3, a4⟩ := a'
    have e : (decide (1 ≤ m.1) && decide (m.1 ≤ 7)) = true := by simp [a1, a2]
    have e2 : (decide (1 ≤ m.2.1) && decide (m.2.1 ≤ 3)) = true := by simp [a3, a4]
    simp only [e, e2, Bool.not_true, Bool.not_false, if_true, Bool.or_self]
    refine ⟨fun e => (by cases e), fun _ => ?_⟩
    by_cases hlen : (m.2.2.1.length : Int) = m.1
    · refine gcall_of (m.2.2.1.any (fun l => !decide ((l.length : Int) = m.2.1))) (fun hg hk => VC32_of _ (by omega) (fun x _ K' hK' => hK') hk) ?_
      simp only [hlen, decide_true, Bool.not_true, Bool.false_or, Bool.not_false, if_true]
      by_cases b : ∀ l ∈ m.2.2.1, (l.length : Int) = m.2.1
      · have hb : m.2.2.1.any (fun l => !decide ((l.length : Int) = m.2.1)) = false := by
          rw [List.any_eq_false]
          intro l hl
          simp [b l hl]
        rw [hb]
        refine ⟨fun e => (by cases e), fun _ => ?_⟩
        have hB : mB m := ⟨hlen, b⟩
        refine loop_count m.2.2.1.length (fun i => ∀ j, j < i → ∀ n ∈ m.2.2.1.getD j [], 0 ≤ n ∧ n < m.1) (by simp) ?_
        intro i hi hP X hX
        unfold VC20_l1
        refine ⟨fun hb => ?_, fun hb => ?_⟩
        · simp only [decide_eq_true_eq] at hb
          have hil : i < m.2.2.1.length := by omega
          refine ⟨⟨by omega, by omega⟩, ?_⟩
          have hrow := b _ (getD_mem (d := ([] : List Int)) hil)
          refine loop_count (m.2.2.1.getD i []).length (fun j => ∀ k, k < j → 0 ≤ (m.2.2.1.getD i []).getD k 0 ∧ (m.2.2.1.getD i []).getD k 0 < m.1) (by simp) ?_
          intro j hj hQ Y hY
          unfold VC20_l2
          simp only [Int.toNat_natCast]
          refine ⟨fun hc => ?_, fun hc => ?_⟩
          · simp only [decide_eq_true_eq] at hc
            have hjl : j < (m.2.2.1.getD i []).length := by omega
            refine ⟨⟨by omega, by omega⟩, ⟨by omega, by omega⟩, ?_⟩
            refine VC31_of ?_
            refine ⟨fun hbad => ?_, fun hgood => ?_⟩
            · have hc2 : chkM m = 2 := by
                unfold chkM
                rw [if_neg (by simpa using a), if_neg (by simpa using hB), if_pos]
                intro hC
                have := hC _ (getD_mem (d := ([] : List Int)) hil) _ (getD_mem (d := (0 : Int)) hjl)
                simp [-List.getD_eq_getElem?_getD] at hbad
                omega
              rw [hc2] at h
              exact h
            · refine ⟨⟨by omega, by omega⟩, hY hjl ?_⟩
              intro k hk
              by_cases hkj : k < j
              · exact hQ k hkj
              · have : k = j := by omega
                subst this
                simp [-List.getD_eq_getElem?_getD] at hgood
                omega
          · simp only [decide_eq_false_iff_not] at hc
            unfold VC20_k2
            refine ⟨⟨by omega, by omega⟩, hX hil ?_⟩
            intro j' hj' n hn
            by_cases hji : j' < i
            · exact hP j' hji n hn
            · have : j' = i := by omega
              subst this
              obtain ⟨k, hk, rfl⟩ := List.mem_iff_getElem.1 hn
              have := hQ k (by omega)
              rw [getD_lt 0 hk] at this
              exact this
        · simp only [decide_eq_false_iff_not] at hb
          have hC : mC m := by
            intro l hl n hn
            obtain ⟨j, hj, rfl⟩ := List.mem_iff_getElem.1 hl
            have := hP j (by omega) n
            rw [getD_lt [] hj] at this
            exact this hn
          unfold VC20_k1
          refine ⟨⟨by omega, by omega⟩, ?_⟩
          refine VC31_of ⟨fun hd => ?_, fun hd => ?_⟩
          · have hc2 : chkM m = 2 := by
              unfold chkM
              rw [if_neg (by simpa using a), if_neg (by simpa using hB), if_neg (by simpa using hC), if_pos]
              intro hD
              obtain ⟨d1, d2⟩ := hD
              simp at hd
              omega
            rw [hc2] at h
            exact h
          · have hD : mD m := by simp at hd; exact ⟨by omega, by omega⟩
            refine ⟨⟨hu.1, by omega⟩, ?_⟩
            obtain ⟨k, hk⟩ : ∃ k : Nat, m.1 = (k : Int) := ⟨m.1.toNat, by omega⟩
            have hE : bShr .u32 m.2.2.2.2 m.1 = 0 ↔ mE m := by
              unfold mE
              rw [hk]
              exact shr_zero hu
            refine ⟨fun he => ?_, fun he => ?_⟩
            · have hc2 : chkM m = 4 := by
                unfold chkM
                rw [if_neg (by simpa using a), if_neg (by simpa using hB), if_neg (by simpa using hC), if_neg (by simpa using hD), if_pos]
                intro hE'
                simp only [Bool.not_eq_true', decide_eq_false_iff_not] at he
                exact he (hE.2 hE')
              rw [hc2] at h
              exact h
            · have hc2 : chkM m = 0 := (chkM_zero m).2 ⟨a, hB, hC, hD, hE.1 (by simpa using he)⟩
              rw [hc2] at h
              exact h
      · have hb : m.2.2.1.any (fun l => !decide ((l.length : Int) = m.2.1)) = true := by
          rw [List.any_eq_true]
          simp only [Classical.not_forall] at b
          obtain ⟨l, hl, hb⟩ := b
          exact ⟨l, hl, by simp [hb]⟩
        have hc : chkM m = 3 := by
          unfold chkM
          rw [if_neg (by simpa using a), if_pos (fun hB => b hB.2)]
        rw [hc] at h
        rw [hb]
        exact ⟨fun _ => h, fun e => by cases e⟩
    · have hc : chkM m = 3 := by
        unfold chkM
        rw [if_neg (by simpa using a), if_pos (fun hB => hlen hB.1)]
      rw [hc] at h
      simp only [hlen, decide_false, Bool.not_false, Bool.not_true, gcall, Bool.true_or]
      exact ⟨fun _ => h, fun e => by cases e⟩
  · have hc : chkM m = 1 := by unfold chkM; rw [if_pos a]
    rw [hc] at h
    refine ⟨fun _ => h, fun e => ?_⟩
    exfalso
    apply a
    by_cases c1 : (decide (1 ≤ m.1) && decide (m.1 ≤ 7)) = true
    · rw [c1] at e
      simp at e c1
      exact ⟨c1.1, c1.2, e.1, e.2⟩
    · rw [Bool.not_eq_true] at c1
      rw [c1] at e
      simp at e
end Dec
