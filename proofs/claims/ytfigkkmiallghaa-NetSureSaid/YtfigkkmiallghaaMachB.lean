/-
  Machines in plain Lean: words; a run; the reference's checks.
-/
import Derived.Test.YtfigkkmiallghaaMachA
set_option linter.unusedSimpArgs false
set_option linter.unusedVariables false
namespace Dec
open Go Go.Proofs

def GoodW (k : Int) (w : List Int) : Prop := w.length ≤ 12 ∧ ∀ s ∈ w, 0 ≤ s ∧ s < k

open Classical in
noncomputable def chkW (k : Int) (w : List Int) : Int := if 12 < w.length then 1 else if ∀ s ∈ w, 0 ≤ s ∧ s < k then 0 else 2

theorem chkW_zero (k : Int) (w : List Int) : chkW k w = 0 ↔ GoodW k w := by
  unfold chkW GoodW
  by_cases a : 12 < w.length <;> by_cases b : ∀ s ∈ w, 0 ≤ s ∧ s < k <;> simp [a, b] <;> omega

theorem VC41_of {k : Int} {w : List Int} (hk : 1 ≤ k ∧ k ≤ 3) {K : Int → Prop} (h : K (chkW k w)) : VC41 k w K := by
  unfold VC41
  refine ⟨fun hl => ?_, fun hl => ?_⟩
  · simp only [decide_eq_true_eq] at hl
    have : chkW k w = 1 := by unfold chkW; rw [if_pos (by omega)]
    rw [this] at h; exact h
  · simp only [decide_eq_false_iff_not] at hl
    refine VC65_of (fun s => !(decide (0 ≤ s) && decide (s ≤ k - 1))) (by omega) (fun x _ K' hK' => ?_) ?_
    · unfold VC66
      exact ⟨⟨by omega, by omega⟩, VC61_of hK'⟩
    · by_cases b : ∀ s ∈ w, 0 ≤ s ∧ s < k
      · have hc : chkW k w = 0 := (chkW_zero k w).2 ⟨by omega, b⟩
        have : w.any (fun s => !(decide (0 ≤ s) && decide (s ≤ k - 1))) = false := by
          rw [List.any_eq_false]
          intro s hs
          have := b s hs
          simp
          omega
        rw [this]
        rw [hc] at h
        exact ⟨fun e => (by cases e), fun _ => h⟩
      · have hc : chkW k w = 2 := by unfold chkW; rw [if_neg (by omega), if_neg b]
        have : w.any (fun s => !(decide (0 ≤ s) && decide (s ≤ k - 1))) = true := by
          rw [List.any_eq_true]
          simp only [Classical.not_forall] at b
          obtain ⟨s, hs, hb⟩ := b
          refine ⟨s, hs, ?_⟩
          simp
          omega
        rw [this]
        rw [hc] at h
        exact ⟨fun _ => h, fun e => by cases e⟩

theorem VC17_of {k : Int} {w : List Int} {K : Int → Prop} (h : K (chkW k w)) : VC17 k w K := by
  unfold VC17
  refine ⟨fun hl => ?_, fun hl => ?_⟩
  · simp only [decide_eq_true_eq] at hl
    have : chkW k w = 1 := by unfold chkW; rw [if_pos (by omega)]
    rw [this] at h; exact h
  · simp only [decide_eq_false_iff_not] at hl
    refine loop_count w.length (fun i => ∀ j, j < i → 0 ≤ w.getD j 0 ∧ w.getD j 0 < k) (by simp) ?_
    intro i hi hP X hX
    unfold VC17_l1
    simp only [Int.toNat_natCast]
    refine ⟨fun hb => ?_, fun hb => ?_⟩
    · simp only [decide_eq_true_eq] at hb
      have hil : i < w.length := by omega
      refine ⟨⟨by omega, by omega⟩, fun hc => ?_, fun hc => ⟨⟨by omega, by omega⟩, hX hil ?_⟩⟩
      · have : chkW k w = 2 := by
          unfold chkW
          rw [if_neg (by omega), if_neg]
          intro hall
          have := hall _ (getD_mem (d := (0 : Int)) hil)
          simp [-List.getD_eq_getElem?_getD] at hc
          omega
        rw [this] at h; exact h
      · intro j hj
        by_cases hji : j < i
        · exact hP j hji
        · have : j = i := by omega
          subst this
          simp [-List.getD_eq_getElem?_getD] at hc
          omega
    · simp only [decide_eq_false_iff_not] at hb
      have : chkW k w = 0 := by
        rw [chkW_zero]
        refine ⟨by omega, fun s hs => ?_⟩
        obtain ⟨j, hj, rfl⟩ := List.mem_iff_getElem.1 hs
        have := hP j (by omega)
        rw [getD_lt 0 hj] at this
        exact this
      unfold VC17_k1
      rw [this] at h; exact h

theorem VC42_of {s n : Int} (hs : U32 s) (hn : 0 ≤ n) {K : Bool → Prop} (h : K (bt s n.toNat)) : VC42 s n K := by
  unfold VC42
  rw [has_bt hs hn]
  exact ⟨⟨hs.1, hn⟩, h⟩

/-- where a machine goes by a symbol, by a word -/
def nextM (m : Mach) (q s : Int) : Int := (m.2.2.1.getD q.toNat []).getD s.toNat 0
def runM (m : Mach) (q : Int) (w : List Int) : Int := w.foldl (nextM m) q

theorem runM_append (m : Mach) (q : Int) (u v : List Int) : runM m q (u ++ v) = runM m (runM m q u) v := by simp [runM]

theorem next_good {m : Mach} (g : GoodM m) {q s : Int} (hq : 0 ≤ q ∧ q < m.1) (hs : 0 ≤ s ∧ s < m.2.1) : 0 ≤ nextM m q s ∧ nextM m q s < m.1 := by
  obtain ⟨a, b, c, d, e⟩ := g
  have h1 : q.toNat < m.2.2.1.length := by have := b.1; omega
  have hrow := b.2 _ (getD_mem (d := ([] : List Int)) h1)
  exact c _ (getD_mem h1) _ (getD_mem (by omega))

theorem run_good {m : Mach} (g : GoodM m) : ∀ {w : List Int} {q : Int}, 0 ≤ q ∧ q < m.1 → (∀ s ∈ w, 0 ≤ s ∧ s < m.2.1) → 0 ≤ runM m q w ∧ runM m q w < m.1
  | [], q, hq, _ => hq
  | s :: w, q, hq, hw => run_good g (w := w) (next_good g hq (hw s (by simp))) (fun x hx => hw x (by simp [hx]))

noncomputable def runR (m : Mach) (w : List Int) : Int × Bool × Int :=
  if chkM m = 0 then (if chkW m.2.1 w = 0 then (runM m m.2.2.2.1 w, bt m.2.2.2.2 (runM m m.2.2.2.1 w).toNat, 0) else (0, false, chkW m.2.1 w)) else (0, false, chkM m)

theorem VC15_of {m : Mach} {w : List Int} (hm : Ok MachT m) {K : Int × Bool × Int → Prop} (h : K (runR m w)) : VC15 m w K := by
  unfold VC15
  refine VC40_of hm ⟨fun ha => ?_, fun ha => ?_⟩
  · unfold runR at h
    rw [if_neg (by simpa using ha)] at h
    exact h
  have ha' : chkM m = 0 := by simpa using ha
  have g := (chkM_zero m).1 ha'
  obtain ⟨a, b, c, d, e⟩ := id g
  refine VC41_of ⟨a.2.2.1, a.2.2.2⟩ ⟨fun hb => ?_, fun hb => ?_⟩
  · unfold runR at h
    rw [if_pos ha', if_neg (by simpa using hb)] at h
    exact h
  have hb' : chkW m.2.1 w = 0 := by simpa using hb
  have gw := (chkW_zero _ _).1 hb'
  unfold runR at h
  rw [if_pos ha', if_pos hb'] at h
  have hst : ∀ i, 0 ≤ runM m m.2.2.2.1 (w.take i) ∧ runM m m.2.2.2.1 (w.take i) < m.1 := fun i => run_good g d (fun s hs => gw.2 s (List.mem_of_mem_take hs))
  refine loop_state' w.length (fun i => runM m m.2.2.2.1 (w.take i)) (fun _ => True) trivial ?_
  intro i hi _ X hX
  unfold VC15_l1
  simp only [Int.toNat_natCast]
  have hq := hst i
  refine ⟨fun hc => ?_, fun hc => ?_⟩
  · simp only [decide_eq_true_eq] at hc
    have hil : i < w.length := by omega
    have hs := gw.2 _ (getD_mem (d := (0 : Int)) hil)
    have h1 : (runM m m.2.2.2.1 (w.take i)).toNat < m.2.2.1.length := by have := b.1; omega
    have hrow := b.2 _ (getD_mem (d := ([] : List Int)) h1)
    refine ⟨⟨by omega, by omega⟩, ⟨hq.1, by have := b.1; omega⟩, ⟨hs.1, by omega⟩, ⟨by have := gw.1; omega, by have := gw.1; omega⟩, ?_⟩
    have := hX hil trivial
    rw [List.take_succ_eq_append_getElem hil, runM_append] at this
    rw [← getD_lt 0 hil] at this
    exact this
  · simp only [decide_eq_false_iff_not] at hc
    have : i = w.length := by omega
    subst this
    unfold VC15_k1
    refine VC42_of (ok_mach hm) hq.1 ?_
    rw [List.take_length]
    exact h
end Dec
