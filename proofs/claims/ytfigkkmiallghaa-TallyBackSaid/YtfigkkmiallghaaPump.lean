/-
  'TallyPump' in plain Lean.
-/
import Derived.Test.YtfigkkmiallghaaMSets
import Derived.Test.YtfigkkmiallghaaMaps
import Derived.Test.YtfigkkmiallghaaGenTb
set_option linter.unusedSimpArgs false
set_option linter.unusedVariables false
namespace Dec
open Go Go.Proofs

/-- where a word's first k symbols lead -/
def stM (m : Mach) (w : List Int) (k : Nat) : Int := runM m m.2.2.2.1 (w.take k)

theorem stM_good {m : Mach} {w : List Int} (g : GoodM m) (gw : GoodW m.2.1 w) (k : Nat) : 0 ≤ stM m w k ∧ stM m w k < m.1 :=
  run_good g g.2.2.2.1 fun s hs => gw.2 s (List.mem_of_mem_take hs)

theorem stM_succ (m : Mach) {w : List Int} {k : Nat} (h : k < w.length) : stM m w (k + 1) = nextM m (stM m w k) (w.getD k 0) := by
  unfold stM
  rw [List.take_succ_eq_append_getElem h, runM_append, ← getD_lt (0 : Int) h]
  rfl

theorem VC55_of {m : Mach} {w : List Int} (hm : Ok MachT m) {K : Int → Prop} (hbad : ∀ e, e ≠ 0 → ¬ (GoodM m ∧ GoodW m.2.1 w) → K e) (h : GoodM m → GoodW m.2.1 w → K 0) : VC55 m w K := by
  unfold VC55
  refine VC40_of hm ⟨fun hc => hbad _ (by simpa using hc) fun hg => ?_, fun hc => ?_⟩
  · rw [(chkM_zero m).2 hg.1] at hc; simp at hc
  have g := (chkM_zero m).1 (by simpa using hc)
  refine VC41_of ⟨g.1.2.2.1, g.1.2.2.2⟩ ?_
  by_cases gw : GoodW m.2.1 w
  · rw [(chkW_zero _ _).2 gw]; exact h g gw
  · exact hbad _ (fun e => gw ((chkW_zero _ _).1 e)) fun hg => gw hg.2

structure Loopy (m : Mach) (w : List Int) (i j : Nat) : Prop where
  lt : i < j
  le : j ≤ w.length
  few : (j : Int) ≤ m.1
  same : stM m w i = stM m w j

theorem VC32_of {m : Mach} {w : List Int} (hm : Ok MachT m) {K : Int × Int × Int → Prop} (hbad : ∀ e, e ≠ 0 → ¬ (GoodM m ∧ GoodW m.2.1 w) → K (0, 0, e))
    (hnone : GoodM m → GoodW m.2.1 w → (w.length : Int) < m.1 → K (0, 0, 5)) (h : GoodM m → GoodW m.2.1 w → ∀ i j : Nat, Loopy m w i j → K ((i : Int), (j : Int), 0)) : VC32 m w K := by
  unfold VC32
  refine VC55_of hm (fun e he hno => ⟨fun _ => hbad e he hno, fun hc => ?_⟩) (fun g gw => ⟨fun hc => ?_, fun _ => ?_⟩)
  · exfalso; simp at hc; exact he hc
  · simp at hc
  have hwl := gw.1
  have hst := stM_good g gw
  obtain ⟨n, hn⟩ : ∃ n : Nat, m.1 = (n : Int) := ⟨m.1.toNat, by have := g.1.1; omega⟩
  have hpig : ∀ j : Nat, j ≤ w.length → (∀ i k, i < k → k ≤ j → stM m w i ≠ stM m w k) → j + 1 ≤ n := by
    intro j hj hd
    refine pigeon n (j + 1) (fun i => (stM m w i).toNat) (fun i hi => ?_) fun i k hik hk e => hd i k hik (by omega) ?_
    · have := hst i; show (stM m w i).toNat < n; omega
    · have h1 := hst i
      have h2 := hst k
      have e' : (stM m w i).toNat = (stM m w k).toNat := e
      omega
  refine Loop.by (fun t : Int × Int × List (Int × Int) => ∃ j : Nat, j ≤ w.length ∧ t.1 = stM m w j ∧ t.2.1 = (j : Int) ∧ (∀ i, i ≤ j → mget t.2.2 (stM m w i) = some (i : Int)) ∧ ∀ q v, mget t.2.2 q = some v → ∃ i : Nat, i ≤ j ∧ v = (i : Int) ∧ stM m w i = q)
    (fun t => ((w.length : Int) - t.2.1).toNat) ⟨0, by omega, rfl, rfl, ?_, ?_⟩ ?_
  · intro i hi
    have : i = 0 := by omega
    subst this
    simp [mset, mget, stM, runM]
  · intro q v hq
    simp only [mset, mget] at hq
    split at hq
    · rename_i e
      injection hq with hq
      exact ⟨0, by omega, by simp [← hq], by simp [stM, runM, e]⟩
    · cases hq
  rintro ⟨at_, c, vis⟩ ⟨j, hj, e1, e2, hv1, hv2⟩ X hX
  simp only at e1 e2 hv1 hv2
  subst e1 e2
  have hd : ∀ i k, i < k → k ≤ j → stM m w i ≠ stM m w k := by
    intro i k hik hk e
    have h1 := hv1 i (by omega)
    have h2 := hv1 k hk
    rw [e, h2] at h1
    injection h1 with h1
    omega
  unfold VC32_l1
  refine ⟨fun hlt => ?_, fun hge => ?_⟩
  · simp only [decide_eq_true_eq] at hlt
    have hjl : j < w.length := by omega
    have hq := hst j
    have hs := gw.2 _ (getD_mem (d := (0 : Int)) hjl)
    have hrow := g.2.1.2 _ (getD_mem (d := ([] : List Int)) (i := (stM m w j).toNat) (by have := g.2.1.1; omega))
    have hnx : ((m.2.2.1.getD (stM m w j).toNat ([] : List Int)).getD (w.getD ((j : Int)).toNat (0 : Int)).toNat (0 : Int)) = stM m w (j + 1) := by rw [stM_succ m hjl]; rfl
    rw [hnx]
    simp only [Int.toNat_natCast]
    refine ⟨⟨by omega, by omega⟩, ⟨by omega, by have := g.2.1.1; omega⟩, ⟨by omega, by omega⟩, fun hsome => ⟨⟨by omega, by omega⟩, ?_⟩, fun hnone' => ⟨⟨by omega, by omega⟩, ⟨by omega, by omega⟩, hX _ ⟨j + 1, by omega, rfl, by simp, ?_, ?_⟩ (by simp only; omega)⟩⟩
    · cases hget : mget vis (stM m w (j + 1)) with
      | none => rw [hget] at hsome; cases hsome
      | some v =>
        obtain ⟨i, hi, rfl, he⟩ := hv2 _ _ hget
        have := h g gw i (j + 1) ⟨by omega, by omega, by have := hpig j (by omega) hd; omega, he⟩
        simpa using this
    · intro i hi
      simp only
      rw [mget_mset]
      by_cases hij : i ≤ j
      · have hne : stM m w i ≠ stM m w (j + 1) := by
          intro e
          rw [← e, hv1 i hij] at hnone'
          cases hnone'
        rw [if_neg hne]; exact hv1 i hij
      · have : i = j + 1 := by omega
        subst this
        simp
    · intro q v hq
      simp only at hq
      rw [mget_mset] at hq
      split at hq
      · rename_i e
        injection hq with hq
        exact ⟨j + 1, by omega, by rw [← hq]; simp, e.symm⟩
      · obtain ⟨i, hi, h1, h2⟩ := hv2 q v hq
        exact ⟨i, by omega, h1, h2⟩
  · simp only [decide_eq_false_iff_not] at hge
    have : j = w.length := by omega
    subst this
    unfold VC32_k1
    exact hnone g gw (by have := hpig _ (Nat.le_refl _) hd; omega)

def pumped (w : List Int) (i j : Nat) : Nat → List Int
  | 0 => [] ++ w.take i
  | k + 1 => pumped w i j k ++ (w.take j).drop i

theorem pumped_run {m : Mach} {w : List Int} {i j : Nat} (h : Loopy m w i j) : ∀ k, runM m m.2.2.2.1 (pumped w i j k) = stM m w i
  | 0 => rfl
  | k + 1 => by
    have h1 := h.same
    have h2 := h.lt
    have e : w.take j = w.take i ++ (w.take j).drop i := by
      have := List.take_append_drop i (w.take j)
      rw [List.take_take, Nat.min_eq_left (by omega)] at this
      exact this.symm
    rw [pumped, runM_append, pumped_run h k]
    unfold stM at h1 ⊢
    rw [← runM_append, ← e, h1]

theorem pumped_mem {w : List Int} {i j : Nat} {s : Int} : ∀ k, s ∈ pumped w i j k → s ∈ w
  | 0, h => by simp only [pumped, List.nil_append] at h; exact List.mem_of_mem_take h
  | k + 1, h => by
    simp only [pumped, List.mem_append] at h
    rcases h with h | h
    · exact pumped_mem k h
    · exact List.mem_of_mem_take (List.mem_of_mem_drop h)

theorem pumped_len {w : List Int} {i j : Nat} (hw : w.length ≤ 12) : ∀ k, (pumped w i j k).length ≤ 12 + 12 * k
  | 0 => by simp [pumped]; omega
  | k + 1 => by
    have := pumped_len (i := i) (j := j) hw k
    simp only [pumped, List.length_append, List.length_drop, List.length_take]
    omega

theorem tallyPump {m : Mach} {w : List Int} {often : Int} (hm : Ok MachT m) (ho : Ok (.int .u8) often) : VC11 m w often (fun b => b = true) := by
  have ho2 : 0 ≤ often := by
    have h1 : IntKind.u8.min ≤ often ∧ often ≤ IntKind.u8.max := ho
    simp [IntKind.min, IntKind.max, IntKind.signed, IntKind.bits] at h1
    exact h1.1
  unfold VC11
  refine VC32_of hm (fun e he hno => VC16_of hm ?_) (fun g gw hlen => VC16_of hm ?_) (fun g gw i j hl => VC16_of hm ?_)
  · rw [goodB_false.2 hno]
    exact ⟨fun _ => (by simpa using he), fun hc => (by cases hc)⟩
  · rw [goodB_true.2 ⟨g, gw⟩]
    exact ⟨fun hc => (by cases hc), fun _ => ⟨fun _ => (by simpa using hlen), fun hc => (by simp at hc)⟩⟩
  · rw [goodB_true.2 ⟨g, gw⟩]
    obtain ⟨h1, h2, h3, h4⟩ := id hl
    have hwl := gw.1
    refine ⟨fun hc => (by cases hc), fun _ => ⟨fun hc => (by simp at hc), fun _ => ⟨fun hc => ?_, fun _ => ⟨⟨by omega, by simp only; omega⟩, by unfold roomN; simp; omega, ?_⟩⟩⟩⟩
    · exfalso
      simp only [Bool.or_eq_true, decide_eq_true_eq] at hc
      omega
    simp only [Int.toNat_natCast]
    have hoft : 0 ≤ often % 4 ∧ often % 4 < 4 := ⟨Int.emod_nonneg _ (by omega), Int.emod_lt_of_pos _ (by omega)⟩
    obtain ⟨t, ht⟩ : ∃ t : Nat, often % 4 = (t : Int) := ⟨(often % 4).toNat, by omega⟩
    refine loop_state t (pumped w i j) (fun _ => True) trivial ?_
    intro k hk _ X hX
    unfold VC11_l1
    rw [ht]
    simp only [Int.toNat_natCast]
    have hpl := pumped_len (i := i) (j := j) hwl k
    refine ⟨⟨ho2, by omega⟩, fun hlt => ?_, fun hge => ?_⟩
    · simp only [decide_eq_true_eq] at hlt
      exact ⟨⟨by omega, by omega, by omega⟩, by unfold roomN; simp; omega, ⟨by omega, by omega⟩, hX (by omega) trivial⟩
    · simp only [decide_eq_false_iff_not] at hge
      have : k = t := by omega
      subst this
      unfold VC11_k1
      simp only [Int.toNat_natCast]
      refine ⟨⟨by omega, by omega⟩, by unfold roomN; simp; omega, VC15_of hm (VC15_of hm ?_)⟩
      rw [runR_good g gw]
      by_cases hx : (pumped w i j k ++ w.drop j).length ≤ 12
      · have gx : GoodW m.2.1 (pumped w i j k ++ w.drop j) := ⟨hx, fun s hs => by
          rw [List.mem_append] at hs
          rcases hs with hs | hs
          · exact gw.2 s (pumped_mem k hs)
          · exact gw.2 s (List.mem_of_mem_drop hs)⟩
        have hrun : runM m m.2.2.2.1 (pumped w i j k ++ w.drop j) = runM m m.2.2.2.1 w := by
          rw [runM_append, pumped_run hl, h4]
          unfold stM
          rw [← runM_append, List.take_append_drop]
        rw [runR_good g gx, hrun]
        simp
      · have hb : ¬ (GoodM m ∧ GoodW m.2.1 (pumped w i j k ++ w.drop j)) := fun hg => hx hg.2.1
        have := runR_bad hb
        have h12 : (12 : Int) < ((pumped w i j k ++ w.drop j).length : Int) := by omega
        simp [this] at h12 ⊢
        exact h12
end Dec
