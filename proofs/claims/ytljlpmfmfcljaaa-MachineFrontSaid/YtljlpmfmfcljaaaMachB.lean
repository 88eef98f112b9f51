/-
Machines in plain Lean: words; a run; the reference's checks.
-/
import Derived.Test.YtljlpmfmfcljaaaMachA
set_option linter.unusedSimpArgs false
set_option linter.unusedVariables false
namespace Dec
open Go Go.Proofs
def GoodW (k : Int) (w : List Int) : Prop := w.length ≤ 12 ∧ ∀ s ∈ w, 0 ≤ s ∧ s < k
open Classical in
noncomputable def chkW (k : Int) (w : List Int) : Int := if 12 < w.length then 1 else if ∀ s ∈ w, 0 ≤ s ∧ s < k then 0 else 2
theorem chkW_zero (k : Int) (w : List Int) : chkW k w = 0 ↔ GoodW k w := by
  unfold chkW GoodW
  by_cases a : 12 < w.length <;> by_cases b : ∀ s ∈ w, 0 ≤ s ∧ s < k <;> simp [a, b] <;> omega
theorem VC21_of {k : Int} {w : List Int} (hk : 1 ≤ k ∧ k ≤ 3) {K : Int → Prop} (h : K (chkW k w)) : VC21 k w K := by
  unfold VC21
  refine ⟨fun hl => ?_, fun hl => ?_⟩
  · simp only [decide_eq_true_eq] at hl
    have : chkW k w = 1 := by unfold chkW; rw [if_pos (by omega)]
    rw [this] at h; exact h
  · simp only [decide_eq_false_iff_not] at hl
    refine VC35_of (fun s => !(decide (0 ≤ s) && decide (s ≤ k - 1))) (by omega) (fun x _ K' hK' => ?_) ?_
    · unfold VC36
      exact ⟨⟨by omega, by omega⟩, VC31_of hK'⟩
    · by_cases b : ∀ s ∈ w, 0 ≤ s ∧ s < k
      · have hc : chkW k w = 0 := (chkW_zero k w).2 ⟨by omega, b⟩
        have : w.any (fun s => !(decide (0 ≤ s) && decide (s ≤ k - 1))) = false := by
          rw [List.any_eq_false]
          intro s hs
          have := b s hs
          simp
          omega
        rw [this]
        rw [hc] at h
        exact ⟨fun e => (by cases e), fun _ => h⟩
      · have hc : chkW k w = 2 := by unfold chkW; rw [if_neg (by omega), if_neg b]
        have : w.any (fun s => !(decide (0 ≤ s) && decide (s ≤ k - 1))) = true := by
          rw [List.any_eq_true]
          simp only [Classical.not_forall] at b
          obtain ⟨s, hs, hb⟩ := b
          refine ⟨s, hs, ?_⟩
          simp
          omega
        rw [this]
        rw [hc] at h
        exact ⟨fun _ => h, fun e => by cases e⟩
theorem VC12_of {k : Int} {w : List Int} {K : Int → Prop} (h : K (chkW k w)) : VC12 k w K := by
  unfold VC12
  refine ⟨fun hl => ?_, fun hl => ?_⟩
  · simp only [decide_eq_true_eq] at hl
    have : chkW k w = 1 := by unfold chkW; rw [if_pos (by omega)]
    rw [this] at h; exact h
  · simp only [decide_eq_false_iff_not] at hl
    refine loop_count w.length (fun i => ∀ j, j < i → 0 ≤ w.getD j 0 ∧ w.getD j 0 < k) (by simp) ?_
    intro i hi hP X hX
    unfold VC12_l1
    simp only [Int.toNat_natCast]
    refine ⟨fun hb => ?_, fun hb => ?_⟩
    · simp only [decide_eq_true_eq] at hb
      have hil : i < w.length := by omega
      refine ⟨⟨by omega, by omega⟩, fun hc => ?_, fun hc => ⟨⟨by omega, by omega⟩, hX hil ?_⟩⟩
      · have : chkW k w = 2 := by
          unfold chkW
          rw [if_neg (by omega), if_neg]
          intro hall
          have := hall _ (getD_mem (d := (0 : Int)) hil)
          simp [-List.getD_eq_getElem?_getD] at hc
          omega
        rw [this] at h; exact h
      · intro j hj
        by_cases hji : j < i
        · exact hP j hji
        · have : j = i := by omega
          subst this
          simp [-List.getD_eq_getElem?_getD] at hc
          omega
    · simp only [decide_eq_false_iff_not] at hb
      have : chkW k w = 0 := by
        rw [chkW_zero]
        refine ⟨by omega, fun s hs => ?_⟩
        obtain ⟨j, hj, rfl⟩ := List.mem_iff_getElem.1 hs
        have := hP j (by omega)
        rw [getD_lt 0 hj] at this
        exact this
      unfold VC12_k1
      rw [this] at h; exact h
theorem VC22_of {s n : Int} (hs : U32 s) (hn : 0 ≤ n) {K : Bool → Prop} (h : K (bt s n.toNat)) : VC22 s n K := by
  unfold VC22
  rw [has_bt hs hn]
  exact ⟨⟨hs.1, hn⟩, h⟩
theorem VC23_of {m : Mach} (hm : Ok MachT m) {K : Int → Prop} (h : K (chkM m)) : VC23 m K := by
  have hu := ok_mach hm
  unfold VC23
  refine ⟨fun ha => ?_, fun ha => ?_⟩
  · have : chkM m = 1 := by
      unfold chkM
      rw [if_pos]
      rintro ⟨a1, a2, a3, a4⟩
      simp at ha
      omega
    rw [this] at h; exact h
  have a : mA m := by
    simp only [Bool.or_eq_false_iff, decide_eq_false_iff_not] at ha
    exact ⟨by omega, by omega, by omega, by omega⟩
  obtain ⟨a1, a2, a3, a4⟩ := id a
  refine ⟨fun hb => ?_, fun hb => ?_⟩
  · have : chkM m = 3 := by
      unfold chkM
      rw [if_neg (by simpa using a), if_pos]
      rintro ⟨b1, _⟩
      simp [b1] at hb
    rw [this] at h; exact h
  have hlen : (m.2.2.1.length : Int) = m.1 := by simpa using hb
  refine loop_count m.2.2.1.length (fun i => ∀ j, j < i → ((m.2.2.1.getD j []).length : Int) = m.2.1) (by simp) ?_
  intro i hi hP X hX
  unfold VC23_l3
  simp only [Int.toNat_natCast]
  refine ⟨fun hb => ?_, fun hb => ?_⟩
  · simp only [decide_eq_true_eq] at hb
    have hil : i < m.2.2.1.length := by omega
    refine ⟨⟨by omega, by omega⟩, fun hc => ?_, fun hc => ⟨⟨by omega, by omega⟩, hX hil ?_⟩⟩
    · have : chkM m = 3 := by
        unfold chkM
        rw [if_neg (by simpa using a), if_pos]
        rintro ⟨_, b2⟩
        have := b2 _ (getD_mem (d := ([] : List Int)) hil)
        simp only [Bool.not_eq_true', decide_eq_false_iff_not] at hc
        exact hc this
      rw [this] at h; exact h
    · intro j hj
      by_cases hji : j < i
      · exact hP j hji
      · have : j = i := by omega
        subst this
        simpa [-List.getD_eq_getElem?_getD] using hc
  simp only [decide_eq_false_iff_not] at hb
  have b : mB m := by
    refine ⟨hlen, fun l hl => ?_⟩
    obtain ⟨j, hj, rfl⟩ := List.mem_iff_getElem.1 hl
    have := hP j (by omega)
    rwa [getD_lt [] hj] at this
  unfold VC23_k1
  refine loop_count m.2.2.1.length (fun i => ∀ j, j < i → ∀ n ∈ m.2.2.1.getD j [], 0 ≤ n ∧ n < m.1) (by simp) ?_
  intro i hi hP X hX
  unfold VC23_l1
  refine ⟨fun hb => ?_, fun hb => ?_⟩
  · simp only [decide_eq_true_eq] at hb
    have hil : i < m.2.2.1.length := by omega
    refine ⟨⟨by omega, by omega⟩, ?_⟩
    have hrow := b.2 _ (getD_mem (d := ([] : List Int)) hil)
    refine loop_count (m.2.2.1.getD i []).length (fun j => ∀ k, k < j → 0 ≤ (m.2.2.1.getD i []).getD k 0 ∧ (m.2.2.1.getD i []).getD k 0 < m.1) (by simp) ?_
    intro j hj hQ Y hY
    unfold VC23_l2
    simp only [Int.toNat_natCast]
    refine ⟨fun hc => ?_, fun hc => ?_⟩
    · simp only [decide_eq_true_eq] at hc
      have hjl : j < (m.2.2.1.getD i []).length := by omega
      refine ⟨⟨by omega, by omega⟩, fun hbad => ?_, fun hgood => ⟨⟨by omega, by omega⟩, hY hjl ?_⟩⟩
      · have hc2 : chkM m = 2 := by
          unfold chkM
          rw [if_neg (by simpa using a), if_neg (by simpa using b), if_pos]
          intro hC
          have := hC _ (getD_mem (d := ([] : List Int)) hil) _ (getD_mem (d := (0 : Int)) hjl)
          simp [-List.getD_eq_getElem?_getD] at hbad
          omega
        rw [hc2] at h
        exact h
      · intro k hk
        by_cases hkj : k < j
        · exact hQ k hkj
        · have : k = j := by omega
          subst this
          simp [-List.getD_eq_getElem?_getD] at hgood
          omega
    · simp only [decide_eq_false_iff_not] at hc
      unfold VC23_k3
      refine ⟨⟨by omega, by omega⟩, hX hil ?_⟩
      intro j' hj' n hn
      by_cases hji : j' < i
      · exact hP j' hji n hn
      · have : j' = i := by omega
        subst this
        obtain ⟨k, hk, rfl⟩ := List.mem_iff_getElem.1 hn
        have := hQ k (by omega)
        rw [getD_lt 0 hk] at this
        exact this
  simp only [decide_eq_false_iff_not] at hb
  have c : mC m := by
    intro l hl n hn
    obtain ⟨j, hj, rfl⟩ := List.mem_iff_getElem.1 hl
    have := hP j (by omega) n
    rw [getD_lt [] hj] at this
    exact this hn
  unfold VC23_k2
  refine ⟨fun hd => ?_, fun hd => ?_⟩
  · have : chkM m = 2 := by
      unfold chkM
      rw [if_neg (by simpa using a), if_neg (by simpa using b), if_neg (by simpa using c), if_pos]
      rintro ⟨d1, d2⟩
      simp at hd
      omega
    rw [this] at h; exact h
  have d : mD m := by simp at hd; exact ⟨by omega, by omega⟩
  have e1 : IntKind.wrap .u64 m.1 = m.1 := wrapU64 ⟨by omega, by omega⟩
  rw [e1]
  obtain ⟨k, hk⟩ : ∃ k : Nat, m.1 = (k : Int) := ⟨m.1.toNat, by omega⟩
  have hE : bShl .u32 1 m.1 ≤ m.2.2.2.2 ↔ ¬ mE m := by
    unfold mE
    rw [hk, shl1 (by omega)]
    simp only [Int.toNat_natCast]
    omega
  refine ⟨by omega, fun he => ?_, fun he => ?_⟩
  · simp only [decide_eq_true_eq] at he
    have hc2 : chkM m = 4 := by
      unfold chkM
      rw [if_neg (by simpa using a), if_neg (by simpa using b), if_neg (by simpa using c), if_neg (by simpa using d), if_pos (hE.1 he)]
    rw [hc2] at h
    exact h
  · simp only [decide_eq_false_iff_not] at he
    have hc2 : chkM m = 0 := (chkM_zero m).2 ⟨a, b, c, d, by rw [hE] at he; simpa using he⟩
    rw [hc2] at h
    exact h
open Classical in
noncomputable def goodB (m : Mach) (w : List Int) : Bool := decide (GoodM m ∧ GoodW m.2.1 w)
theorem VC11_of {m : Mach} {w : List Int} (hm : Ok MachT m) {K : Bool → Prop} (h : K (goodB m w)) : VC11 m w K := by
  unfold VC11
  refine VC23_of hm ?_
  refine gcall_of (chkW m.2.1 w) (fun _ hk => VC12_of hk) ?_
  have : goodB m w = (decide (chkM m = 0) && decide ((if (decide (chkM m = 0)) = true then chkW m.2.1 w else 0) = 0)) := by
    unfold goodB
    by_cases a : chkM m = 0
    · have ga := (chkM_zero m).1 a
      by_cases b : chkW m.2.1 w = 0
      · have gb := (chkW_zero m.2.1 w).1 b
        simp [a, b, ga, gb]
      · have gb : ¬ GoodW m.2.1 w := fun hh => b ((chkW_zero m.2.1 w).2 hh)
        simp [a, b, gb]
    · have ga : ¬ GoodM m := fun hh => a ((chkM_zero m).2 hh)
      simp [a, ga]
  rw [this] at h
  exact h
def nextM (m : Mach) (q s : Int) : Int := (m.2.2.1.getD q.toNat []).getD s.toNat 0
def runM (m : Mach) (q : Int) (w : List Int) : Int := w.foldl (nextM m) q
theorem runM_append (m : Mach) (q : Int) (u v : List Int) : runM m q (u ++ v) = runM m (runM m q u) v := by simp [runM]
theorem next_good {m : Mach} (g : GoodM m) {q s : Int} (hq : 0 ≤ q ∧ q < m.1) (hs : 0 ≤ s ∧ s < m.2.1) : 0 ≤ nextM m q s ∧ nextM m q s < m.1 := by
  obtain ⟨a, b, c, d, e⟩ := g
  have h1 : q.toNat < m.2.2.1.length := by have := b.1; omega
  have hrow := b.2 _ (getD_mem (d := ([] : List Int)) h1)
  exact c _ (getD_mem h1) _ (getD_mem (by omega))
theorem run_good {m : Mach} (g : GoodM m) : ∀ {w : List Int} {q : Int}, 0 ≤ q ∧ q < m.1 → (∀ s ∈ w, 0 ≤ s ∧ s < m.2.1) → 0 ≤ runM m q w ∧ runM m q w < m.1
  | [], q, hq, _ => hq
  | s :: w, q, hq, hw => run_good g (w := w) (next_good g hq (hw s (by simp))) (fun x hx => hw x (by simp [hx]))
noncomputable def runR (m : Mach) (w : List Int) : Int × Bool × Int :=
  if chkM m = 0 then (if chkW m.2.1 w = 0 then (runM m m.2.2.2.1 w, bt m.2.2.2.2 (runM m m.2.2.2.1 w).toNat, 0) else (0, false, chkW m.2.1 w)) else (0, false, chkM m)
theorem VC10_of {m : Mach} {w : List Int} (hm : Ok MachT m) {K : Int × Bool × Int → Prop} (h : K (runR m w)) : VC10 m w K := by
  unfold VC10
  refine VC20_of hm ⟨fun ha => ?_, fun ha => ?_⟩
  · unfold runR at h
    rw [if_neg (by simpa using ha)] at h
    exact h
  have ha' : chkM m = 0 := by simpa using ha
  have g := (chkM_zero m).1 ha'
  obtain ⟨a, b, c, d, e⟩ := id g
  refine VC21_of ⟨a.2.2.1, a.2.2.2⟩ ⟨fun hb => ?_, fun hb => ?_⟩
  · unfold runR at h
    rw [if_pos ha', if_neg (by simpa using hb)] at h
    exact h
  have hb' : chkW m.2.1 w = 0 := by simpa using hb
  have gw := (chkW_zero _ _).1 hb'
  unfold runR at h
  rw [if_pos ha', if_pos hb'] at h
  have hst : ∀ i, 0 ≤ runM m m.2.2.2.1 (w.take i) ∧ runM m m.2.2.2.1 (w.take i) < m.1 := fun i => run_good g d (fun s hs => gw.2 s (List.mem_of_mem_take hs))
  refine loop_state' w.length (fun i => runM m m.2.2.2.1 (w.take i)) (fun _ => True) trivial ?_
  intro i hi _ X hX
  unfold VC10_l1
  simp only [Int.toNat_natCast]
  have hq := hst i
  refine ⟨fun hc => ?_, fun hc => ?_⟩
  · simp only [decide_eq_true_eq] at hc
    have hil : i < w.length := by omega
    have hs := gw.2 _ (getD_mem (d := (0 : Int)) hil)
    have h1 : (runM m m.2.2.2.1 (w.take i)).toNat < m.2.2.1.length := by have := b.1; omega
    have hrow := b.2 _ (getD_mem (d := ([] : List Int)) h1)
    refine ⟨⟨by omega, by omega⟩, ⟨hq.1, by have := b.1; omega⟩, ⟨hs.1, by omega⟩, ⟨by have := gw.1; omega, by have := gw.1; omega⟩, ?_⟩
    have := hX hil trivial
    rw [List.take_succ_eq_append_getElem hil, runM_append] at this
    rw [← getD_lt 0 hil] at this
    exact this
  · simp only [decide_eq_false_iff_not] at hc
    have : i = w.length := by omega
    subst this
    unfold VC10_k1
    refine VC22_of (ok_mach hm) hq.1 ?_
    rw [List.take_length]
    exact h
end Dec
