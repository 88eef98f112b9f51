/-
  Machines in plain Lean: words; a run; the reference's checks.
-/
import Derived.Test.YtfigkkmiallghaaMachA
set_option linter.unusedSimpArgs false
set_option linter.unusedVariables false
namespace Dec
open Go Go.Proofs

def GoodW (k : Int) (w : List Int) : Prop := w.length ≤ 12 ∧ ∀ s ∈ w, 0 ≤ s ∧ s < k

open Classical in
noncomputable def chkW (k : Int) (w : List Int) : Int := if 12 < w.length then 1 else if ∀ s ∈ w, 0 ≤ s ∧ s < k then 0 else 2

theorem chkW_zero (k : Int) (w : List Int) : chkW k w = 0 ↔ GoodW k w := by
  unfold chkW GoodW
  by_cases a : 12 < w.length <;> by_cases b : ∀ s ∈ w, 0 ≤ s ∧ s < k <;> simp [a, b] <;> omega

theorem VC42_of {s n : Int} (hs : U32 s) (hn : 0 ≤ n) {K : Bool → Prop} (h : K (bt s n.toNat)) : VC42 s n K := by
  unfold VC42
  rw [has_bt hs hn]
  exact ⟨⟨hs.1, hn⟩, h⟩

theorem VC26_of {m : Mach} (hm : Ok MachT m) {K : Int → Prop} (h : K (chkM m)) : VC26 m K := by
  have hu := ok_mach hm
  unfold VC26
  refine ⟨fun ha => ?_, fun ha => ?_⟩
  · have : chkM m = 1 := by
      unfold chkM
      rw [if_pos]
      rintro ⟨a1, a2, a3, a4⟩
      simp at ha
      omega
    rw [this] at h; exact h
  have a : mA m := by
    simp only [Bool.or_eq_false_iff, decide_eq_false_iff_not] at ha
    exact ⟨by omega, by omega, by omega, by omega⟩
  obtain ⟨a1, a2, a3, a4⟩ := id a
  refine ⟨fun hb => ?_, fun hb => ?_⟩
  · have : chkM m = 3 := by
      unfold chkM
      rw [if_neg (by simpa using a), if_pos]
      rintro ⟨b1, _⟩
      simp [b1] at hb
    rw [this] at h; exact h
  have hlen : (m.2.2.1.length : Int) = m.1 := by simpa using hb
  refine loop_count m.2.2.1.length (fun i => ∀ j, j < i → ((m.2.2.1.getD j []).length : Int) = m.2.1) (by simp) ?_
  intro i hi hP X hX
  unfold VC26_l3
  simp only [Int.toNat_natCast]
  refine ⟨fun hb => ?_, fun hb => ?_⟩
  · simp only [decide_eq_true_eq] at hb
    have hil : i < m.2.2.1.length := by omega
    refine ⟨⟨by omega, by omega⟩, fun hc => ?_, fun hc => ⟨⟨by omega, by omega⟩, hX hil ?_⟩⟩
    · have : chkM m = 3 := by
        unfold chkM
        rw [if_neg (by simpa using a), if_pos]
        rintro ⟨_, b2⟩
        have := b2 _ (getD_mem (d := ([] : List Int)) hil)
        simp only [Bool.not_eq_true', decide_eq_false_iff_not] at hc
        exact hc this
      rw [this] at h; exact h
    · intro j hj
      by_cases hji : j < i
      · exact hP j hji
      · have : j = i := by omega
        subst this
        simpa [-List.getD_eq_getElem?_getD] using hc
  simp only [decide_eq_false_iff_not] at hb
  have b : mB m := by
    refine ⟨hlen, fun l hl => ?_⟩
    obtain ⟨j, hj, rfl⟩ := List.mem_iff_getElem.1 hl
    have := hP j (by omega)
    rwa [getD_lt [] hj] at this
  unfold VC26_k1
  refine loop_count m.2.2.1.length (fun i => ∀ j, j < i → ∀ n ∈ m.2.2.1.getD j [], 0 ≤ n ∧ n < m.1) (by simp) ?_
  intro i hi hP X hX
  unfold VC26_l1
  refine ⟨fun hb => ?_, fun hb => ?_⟩
  · simp only [decide_eq_true_eq] at hb
    have hil : i < m.2.2.1.length := by omega
    refine ⟨⟨by omega, by omega⟩, ?_⟩
    have hrow := b.2 _ (getD_mem (d := ([] : List Int)) hil)
    refine loop_count (m.2.2.1.getD i []).length (fun j => ∀ k, k < j → 0 ≤ (m.2.2.1.getD i []).getD k 0 ∧ (m.2.2.1.getD i []).getD k 0 < m.1) (by simp) ?_
    intro j hj hQ Y hY
    unfold VC26_l2
    simp only [Int.toNat_natCast]
    refine ⟨fun hc => ?_, fun hc => ?_⟩
    · simp only [decide_eq_true_eq] at hc
      have hjl : j < (m.2.2.1.getD i []).length := by omega
      refine ⟨⟨by omega, by omega⟩, fun hbad => ?_, fun hgood => ⟨⟨by omega, by omega⟩, hY hjl ?_⟩⟩
      · have hc2 : chkM m = 2 := by
          unfold chkM
          rw [if_neg (by simpa using a), if_neg (by simpa using b), if_pos]
          intro hC
          have := hC _ (getD_mem (d := ([] : List Int)) hil) _ (getD_mem (d := (0 : Int)) hjl)
          simp [-List.getD_eq_getElem?_getD] at hbad
          omega
        rw [hc2] at h
        exact h
      · intro k hk
        by_cases hkj : k < j
        · exact hQ k hkj
        · have : k = j := by omega
          subst this
          simp [-List.getD_eq_getElem?_getD] at hgood
          omega
    · simp only [decide_eq_false_iff_not] at hc
      unfold VC26_k3
      refine ⟨⟨by omega, by omega⟩, hX hil ?_⟩
      intro j' hj' n hn
      by_cases hji : j' < i
      · exact hP j' hji n hn
      · have : j' = i := by omega
        subst this
        obtain ⟨k, hk, rfl⟩ := List.mem_iff_getElem.1 hn
        have := hQ k (by omega)
        rw [getD_lt 0 hk] at this
        exact this
  simp only [decide_eq_false_iff_not] at hb
  have c : mC m := by
    intro l hl n hn
    obtain ⟨j, hj, rfl⟩ := List.mem_iff_getElem.1 hl
    have := hP j (by omega) n
    rw [getD_lt [] hj] at this
    exact this hn
  unfold VC26_k2
  refine ⟨fun hd => ?_, fun hd => ?_⟩
  · have : chkM m = 2 := by
      unfold chkM
      rw [if_neg (by simpa using a), if_neg (by simpa using b), if_neg (by simpa using c), if_pos]
      rintro ⟨d1, d2⟩
      simp at hd
      omega
    rw [this] at h; exact h
  have d : mD m := by simp at hd; exact ⟨by omega, by omega⟩
  have e1 : IntKind.wrap .u64 m.1 = m.1 := wrapU64 ⟨by omega, by omega⟩
  rw [e1]
  obtain ⟨k, hk⟩ : ∃ k : Nat, m.1 = (k : Int) := ⟨m.1.toNat, by omega⟩
  have hE : bShl .u32 1 m.1 ≤ m.2.2.2.2 ↔ ¬ mE m := by
    unfold mE
    rw [hk, shl1 (by omega)]
    simp only [Int.toNat_natCast]
    omega
  refine ⟨by omega, fun he => ?_, fun he => ?_⟩
  · simp only [decide_eq_true_eq] at he
    have hc2 : chkM m = 4 := by
      unfold chkM
      rw [if_neg (by simpa using a), if_neg (by simpa using b), if_neg (by simpa using c), if_neg (by simpa using d), if_pos (hE.1 he)]
    rw [hc2] at h
    exact h
  · simp only [decide_eq_false_iff_not] at he
    have hc2 : chkM m = 0 := (chkM_zero m).2 ⟨a, b, c, d, by rw [hE] at he; simpa using he⟩
    rw [hc2] at h
    exact h

open Classical in
noncomputable def goodB (m : Mach) (w : List Int) : Bool := decide (GoodM m ∧ GoodW m.2.1 w)

/-- where a machine goes by a symbol, by a word -/
def nextM (m : Mach) (q s : Int) : Int := (m.2.2.1.getD q.toNat []).getD s.toNat 0
def runM (m : Mach) (q : Int) (w : List Int) : Int := w.foldl (nextM m) q

theorem runM_append (m : Mach) (q : Int) (u v : List Int) : runM m q (u ++ v) = runM m (runM m q u) v := by simp [runM]

theorem next_good {m : Mach} (g : GoodM m) {q s : Int} (hq : 0 ≤ q ∧ q < m.1) (hs : 0 ≤ s ∧ s < m.2.1) : 0 ≤ nextM m q s ∧ nextM m q s < m.1 := by
  obtain ⟨a, b, c, d, e⟩ := g
  have h1 : q.toNat < m.2.2.1.length := by have := b.1; omega
  have hrow := b.2 _ (getD_mem (d := ([] : List Int)) h1)
  exact c _ (getD_mem h1) _ (getD_mem (by omega))

theorem run_good {m : Mach} (g : GoodM m) : ∀ {w : List Int} {q : Int}, 0 ≤ q ∧ q < m.1 → (∀ s ∈ w, 0 ≤ s ∧ s < m.2.1) → 0 ≤ runM m q w ∧ runM m q w < m.1
  | [], q, hq, _ => hq
  | s :: w, q, hq, hw => run_good g (w := w) (next_good g hq (hw s (by simp))) (fun x hx => hw x (by simp [hx]))

noncomputable def runR (m : Mach) (w : List Int) : Int × Bool × Int :=
  if chkM m = 0 then (if chkW m.2.1 w = 0 then (runM m m.2.2.2.1 w, bt m.2.2.2.2 (runM m m.2.2.2.1 w).toNat, 0) else (0, false, chkW m.2.1 w)) else (0, false, chkM m)

end Dec
