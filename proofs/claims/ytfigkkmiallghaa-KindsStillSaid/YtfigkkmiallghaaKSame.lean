/-
  'KindsSame' in plain Lean: what a word does to the states of the least machine.
-/
import Derived.Test.YtfigkkmiallghaaLeastC
set_option linter.unusedSimpArgs false
set_option linter.unusedVariables false
namespace Dec
open Go Go.Proofs

theorem seven_id {a : List Int} (h : a.length = 7) : [(a.getD 0 (0 : Int)), (a.getD 1 (0 : Int)), (a.getD 2 (0 : Int)), (a.getD 3 (0 : Int)), (a.getD 4 (0 : Int)), (a.getD 5 (0 : Int)), (a.getD 6 (0 : Int))] = a := by
  match a, h with
  | [a, b, c, d, e, f, g], _ => rfl

def tab7 (f : Nat → Int) : List Int := (List.range 7).map f
theorem tab7_len (f : Nat → Int) : (tab7 f).length = 7 := by simp [tab7]
theorem tab7_get (f : Nat → Int) {i : Nat} (h : i < 7) : (tab7 f).getD i 0 = f i := by rw [tab7, getD_lt _ (by simpa using h)]; simp
theorem tab7_ext {f g : Nat → Int} (h : ∀ i, i < 7 → f i = g i) : tab7 f = tab7 g := by
  refine ext_getD 0 (by rw [tab7_len, tab7_len]) fun i hi => ?_
  rw [tab7_len] at hi
  rw [tab7_get f hi, tab7_get g hi, h i hi]
theorem tab7_of {a : List Int} (hl : a.length = 7) {f : Nat → Int} (h : ∀ i, i < 7 → a.getD i 0 = f i) : a = tab7 f :=
  ext_getD 0 (by rw [hl, tab7_len]) fun i hi => by rw [h i (by omega), tab7_get f (by omega)]

/-- where a word leads from each state -/
def ofA (m : Mach) (w : List Int) : List Int := tab7 fun i => if (i : Int) < m.1 then runM m (i : Int) w else (i : Int)

theorem VC69_of {K : List Int → Prop} (h : K (tab7 fun i => (i : Int))) : VC69 K := by
  unfold VC69
  refine loop_inv 7 (fun v a => a.length = 7 ∧ ∀ i, i < v → a.getD i 0 = (i : Int)) ⟨by simp, fun i hi => absurd hi (by omega)⟩ ?_
  rintro v hv a ⟨hl, ha⟩ X hX
  dsimp only
  unfold VC69_l1
  refine ⟨fun hlt => ?_, fun hge => ?_⟩
  · simp only [decide_eq_true_eq] at hlt
    simp only [Int.toNat_natCast]
    refine ⟨⟨by omega, by omega⟩, ⟨by omega, by omega⟩, hX _ (by omega) ⟨by simpa using hl, fun i hi => ?_⟩⟩
    by_cases hiv : i = v
    · subst hiv
      rw [getD_lt _ (by rw [List.length_set]; omega), List.getElem_set_self]
    · rw [getD_lt _ (by rw [List.length_set]; omega), List.getElem_set_ne (by omega), ← getD_lt (0 : Int) (by omega)]
      exact ha i (by omega)
  · simp only [decide_eq_false_iff_not] at hge
    unfold VC69_k1
    rw [seven_id hl, seven_id hl, tab7_of hl fun i hi => ha i (by omega)]
    exact h

theorem VC70_of {m : Mach} (g : GoodM m) {s : Int} (hs : 0 ≤ s ∧ s < m.2.1) {K : List Int → Prop} (h : K (tab7 fun i => if (i : Int) < m.1 then nextM m (i : Int) s else (i : Int))) : VC70 m s K := by
  have h7 := g.1.2.1
  have h1 := g.1.1
  obtain ⟨N, hN⟩ : ∃ N : Nat, m.1 = (N : Int) := ⟨m.1.toNat, by omega⟩
  unfold VC70
  refine VC69_of ?_
  rw [seven_id (tab7_len _)]
  refine loop_inv N (fun v a => a.length = 7 ∧ ∀ i, i < 7 → a.getD i 0 = if i < v then nextM m (i : Int) s else (i : Int)) ⟨tab7_len _, fun i hi => by rw [tab7_get _ hi, if_neg (by omega)]⟩ ?_
  rintro v hv a ⟨hl, ha⟩ X hX
  dsimp only
  unfold VC70_l1
  refine ⟨fun hlt => ?_, fun hge => ?_⟩
  · simp only [decide_eq_true_eq] at hlt
    have hr := rowLen' g (q := (v : Int)) ⟨by omega, hlt⟩
    simp only [Int.toNat_natCast] at hr ⊢
    refine ⟨⟨by omega, by omega⟩, ⟨hs.1, by omega⟩, ⟨by omega, by omega⟩, ⟨by omega, by omega⟩, hX _ (by omega) ⟨by simpa using hl, fun i hi => ?_⟩⟩
    by_cases hiv : i = v
    · subst hiv
      rw [getD_lt _ (by rw [List.length_set]; omega), List.getElem_set_self, if_pos (by omega)]
      rfl
    · rw [getD_lt _ (by rw [List.length_set]; omega), List.getElem_set_ne (by omega), ← getD_lt (0 : Int) (by omega), ha i hi]
      by_cases h2 : i < v
      · rw [if_pos h2, if_pos (by omega)]
      · rw [if_neg h2, if_neg (by omega)]
  · simp only [decide_eq_false_iff_not] at hge
    have : v = N := by omega
    subst this
    unfold VC70_k1
    rw [seven_id hl, seven_id hl, tab7_of hl ha]
    have e : (tab7 fun i => if i < v then nextM m (i : Int) s else (i : Int)) = tab7 fun i => if (i : Int) < m.1 then nextM m (i : Int) s else (i : Int) := tab7_ext fun i _ => by
      by_cases h2 : i < v
      · rw [if_pos h2, if_pos (by omega)]
      · rw [if_neg h2, if_neg (by omega)]
    rw [e]
    exact h

def afterA (a b : List Int) : List Int := tab7 fun i => b.getD (a.getD i 0).toNat 0

theorem VC60_of {a b : List Int} (ha : a.length = 7) (hb : b.length = 7) (hin : ∀ i, i < 7 → 0 ≤ a.getD i 0 ∧ a.getD i 0 < 7) {K : List Int → Prop} (h : K (afterA a b)) : VC60 a b K := by
  unfold VC60
  refine loop_inv 7 (fun v o => o.length = 7 ∧ ∀ i, i < v → o.getD i 0 = b.getD (a.getD i 0).toNat 0) ⟨by simp, fun i hi => absurd hi (by omega)⟩ ?_
  rintro v hv o ⟨hl, ho⟩ X hX
  dsimp only
  unfold VC60_l1
  rw [seven_id ha, seven_id hb]
  refine ⟨fun hlt => ?_, fun hge => ?_⟩
  · simp only [decide_eq_true_eq] at hlt
    simp only [Int.toNat_natCast]
    have hv' := hin v (by omega)
    refine ⟨⟨by omega, by omega⟩, ⟨hv'.1, hv'.2⟩, ⟨by omega, by omega⟩, ⟨by omega, by omega⟩, hX _ (by omega) ⟨by simpa using hl, fun i hi => ?_⟩⟩
    by_cases hiv : i = v
    · subst hiv
      rw [getD_lt _ (by rw [List.length_set]; omega), List.getElem_set_self]
    · rw [getD_lt _ (by rw [List.length_set]; omega), List.getElem_set_ne (by omega), ← getD_lt (0 : Int) (by omega)]
      exact ho i (by omega)
  · simp only [decide_eq_false_iff_not] at hge
    unfold VC60_k1
    rw [seven_id hl, seven_id hl, tab7_of hl fun i hi => ho i (by omega)]
    exact h

theorem ofA_len (m : Mach) (w : List Int) : (ofA m w).length = 7 := tab7_len _

theorem ofA_nil (m : Mach) : ofA m [] = tab7 fun i => (i : Int) := tab7_ext fun i _ => by split <;> rfl

theorem ofA_in {m : Mach} (g : GoodM m) {w : List Int} (hw : SymW m.2.1 w) {i : Nat} (hi : i < 7) : 0 ≤ (ofA m w).getD i 0 ∧ (ofA m w).getD i 0 < 7 := by
  have h7 := g.1.2.1
  rw [ofA, tab7_get _ hi]
  split
  · rename_i h
    have := run_good g (q := (i : Int)) ⟨by omega, h⟩ hw
    omega
  · omega

theorem ofA_snoc {m : Mach} (g : GoodM m) {w : List Int} (hw : SymW m.2.1 w) (s : Int) : afterA (ofA m w) (tab7 fun i => if (i : Int) < m.1 then nextM m (i : Int) s else (i : Int)) = ofA m (w ++ [s]) := by
  have h7 := g.1.2.1
  refine tab7_ext fun i hi => ?_
  have hin := ofA_in g hw hi
  rw [tab7_get _ (by omega)]
  rw [ofA, tab7_get _ hi] at hin ⊢
  by_cases h : (i : Int) < m.1
  · simp only [if_pos h] at hin ⊢
    have hr := run_good g (q := (i : Int)) ⟨by omega, h⟩ hw
    have e : ((runM m (i : Int) w).toNat : Int) = runM m (i : Int) w := by omega
    rw [e, if_pos hr.2, runM_append]
    rfl
  · simp only [if_neg h, Int.toNat_natCast]

theorem VC58_of {m : Mach} (g : GoodM m) {w : List Int} (hw : SymW m.2.1 w) (hl : w.length ≤ 1000) {K : List Int → Prop} (h : K (ofA m w)) : VC58 m w K := by
  unfold VC58
  refine VC69_of ?_
  rw [seven_id (tab7_len _), ← ofA_nil m]
  refine loop_state w.length (fun i => ofA m (w.take i)) (fun _ => True) trivial ?_
  intro i hi _ X hX
  unfold VC58_l1
  have hwt : SymW m.2.1 (w.take i) := fun s hs => hw s (List.mem_of_mem_take hs)
  refine ⟨fun hlt => ?_, fun hge => ?_⟩
  · simp only [decide_eq_true_eq] at hlt
    have hil : i < w.length := by omega
    simp only [Int.toNat_natCast]
    refine ⟨⟨by omega, by omega⟩, VC70_of g (hw _ (getD_mem hil)) ?_⟩
    rw [seven_id (ofA_len m (w.take i)), seven_id (tab7_len _)]
    refine VC60_of (ofA_len m (w.take i)) (tab7_len _) (fun j hj => ofA_in g hwt hj) ?_
    rw [ofA_snoc g hwt, seven_id (ofA_len m _)]
    unfold VC58_k2
    have := hX hil trivial
    rw [List.take_succ_eq_append_getElem hil, ← getD_lt (0 : Int) hil] at this
    exact ⟨⟨by omega, by omega⟩, this⟩
  · simp only [decide_eq_false_iff_not] at hge
    have : i = w.length := by omega
    subst this
    unfold VC58_k1
    rw [List.take_length, seven_id (ofA_len m w), seven_id (ofA_len m w)]
    exact h

theorem VC36_of {m : Mach} {u v : List Int} (hm : Ok MachT m) {K : Bool × Int → Prop} (hbad : ¬ (GoodM m ∧ GoodW m.2.1 u ∧ GoodW m.2.1 v) → ∀ e, e ≠ 0 → K (false, e))
    (h : GoodM m → GoodW m.2.1 u → GoodW m.2.1 v → K (decide (ofA (leastF m) u = ofA (leastF m) v), 0)) : VC36 m u v K := by
  unfold VC36
  refine VC25_of hm (fun e he hno => ⟨fun _ => hbad (fun hg => hno hg.1) e he, fun hc => absurd (by simpa using hc) he⟩) (fun g => ⟨fun hc => (by simp at hc), fun _ => ?_⟩)
  have hk := g.1.2.2
  refine loop_count 2 (fun i => (0 < i → GoodW m.2.1 u) ∧ (1 < i → GoodW m.2.1 v)) ⟨fun h => absurd h (by omega), fun h => absurd h (by omega)⟩ ?_
  intro c hc hP X hX
  unfold VC36_l1
  refine ⟨fun hlt => ?_, fun hge => ?_⟩
  · simp at hlt
    refine ⟨⟨by omega, by simp; omega⟩, ?_⟩
    have hcase : c = 0 ∨ c = 1 := by omega
    rcases hcase with rfl | rfl
    · simp
      refine VC41_of hk ⟨fun hne => ?_, fun he => ⟨⟨by omega, by omega⟩, hX (by omega) ⟨fun _ => ?_, fun h => absurd h (by omega)⟩⟩⟩
      · refine hbad (fun hg => ?_) _ (by simpa using hne)
        rw [(chkW_zero _ _).2 hg.2.1] at hne; simp at hne
      · exact (chkW_zero _ _).1 (by simpa using he)
    · simp
      refine VC41_of hk ⟨fun hne => ?_, fun he => ⟨⟨by omega, by omega⟩, hX (by omega) ⟨fun _ => hP.1 (by omega), fun _ => ?_⟩⟩⟩
      · refine hbad (fun hg => ?_) _ (by simpa using hne)
        rw [(chkW_zero _ _).2 hg.2.2] at hne; simp at hne
      · exact (chkW_zero _ _).1 (by simpa using he)
  · simp at hge
    have gu := hP.1 (by omega)
    have gv := hP.2 (by omega)
    have gl := least_good g
    have lk := least_k m
    unfold VC36_k1
    refine VC58_of gl (by rw [lk]; exact gu.2) (by have := gu.1; omega) (VC58_of gl (by rw [lk]; exact gv.2) (by have := gv.1; omega) ?_)
    rw [seven_id (ofA_len _ _), seven_id (ofA_len _ _)]
    exact h g gu gv

theorem ofA_run {m : Mach} {u v : List Int} (h : ofA m u = ofA m v) (h7 : m.1 ≤ 7) {q : Int} (hq : 0 ≤ q ∧ q < m.1) : runM m q u = runM m q v := by
  have e : ((q.toNat : Nat) : Int) = q := by omega
  have h1 : (ofA m u).getD q.toNat 0 = (ofA m v).getD q.toNat 0 := by rw [h]
  rw [ofA, ofA, tab7_get _ (by omega), tab7_get _ (by omega), e, if_pos hq.2, if_pos hq.2] at h1
  exact h1

theorem ofA_mid {m : Mach} (g : GoodM m) {u v x y : List Int} (h : ofA m u = ofA m v) (hx : SymW m.2.1 x) : ∀ q, 0 ≤ q ∧ q < m.1 → runM m q (x ++ u ++ y) = runM m q (x ++ v ++ y) := by
  intro q hq
  rw [runM_append, runM_append, runM_append, runM_append, ofA_run h g.1.2.1 (run_good g hq hx)]

end Dec
