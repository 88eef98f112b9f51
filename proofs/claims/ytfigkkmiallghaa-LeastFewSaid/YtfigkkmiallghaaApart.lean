/-
  'LeastApart' in plain Lean: the first word that just one of two machines takes.
-/
import Derived.Test.YtfigkkmiallghaaMoore
import Derived.Test.YtfigkkmiallghaaGenPb
set_option linter.unusedSimpArgs false
set_option linter.unusedVariables false
namespace Dec
open Go Go.Proofs

abbrev Way := (Int × Int) × List Int

theorem getD_snoc {α : Type} (l : List α) (e d : α) (j : Nat) : (l ++ [e]).getD j d = if j < l.length then l.getD j d else if j = l.length then e else d := by
  by_cases h : j < l.length
  · rw [if_pos h, getD_lt _ (by simp; omega), getD_lt _ h, List.getElem_append_left h]
  · rw [if_neg h]
    by_cases h2 : j = l.length
    · subst h2
      rw [if_pos rfl, getD_lt _ (by simp)]; simp
    · rw [if_neg h2, getD_ge _ (by simp; omega)]

/-- what the search keeps: i ways were followed, of the next one t symbols -/
structure BInv (a b : Mach) (i t : Nat) (seen : List ((Int × Int) × Int)) (q : List Way) : Prop where
  first : 0 < q.length ∧ q.getD 0 (((0 : Int), (0 : Int)), ([] : List Int)) = ((a.2.2.2.1, b.2.2.2.1), [])
  seen : ∀ pr, (mget seen pr).isSome = true ↔ ∃ j, j < q.length ∧ (q.getD j (((0 : Int), (0 : Int)), ([] : List Int))).1 = pr
  run : ∀ j, j < q.length → (q.getD j (((0 : Int), (0 : Int)), ([] : List Int))).1 = (runM a a.2.2.2.1 (q.getD j (((0 : Int), (0 : Int)), ([] : List Int))).2, runM b b.2.2.2.1 (q.getD j (((0 : Int), (0 : Int)), ([] : List Int))).2) ∧ SymW a.2.1 (q.getD j (((0 : Int), (0 : Int)), ([] : List Int))).2 ∧ (q.getD j (((0 : Int), (0 : Int)), ([] : List Int))).2.length ≤ j
  dist : ∀ j k, j < k → k < q.length → (q.getD j (((0 : Int), (0 : Int)), ([] : List Int))).1 ≠ (q.getD k (((0 : Int), (0 : Int)), ([] : List Int))).1
  sorted : ∀ j k, j ≤ k → k < q.length → (q.getD j (((0 : Int), (0 : Int)), ([] : List Int))).2.length ≤ (q.getD k (((0 : Int), (0 : Int)), ([] : List Int))).2.length
  near : ∀ k j, k < q.length → i ≤ j → j < q.length → (q.getD k (((0 : Int), (0 : Int)), ([] : List Int))).2.length ≤ (q.getD j (((0 : Int), (0 : Int)), ([] : List Int))).2.length + 1
  clos : ∀ j s : Nat, (j < i ∨ (j = i ∧ s < t)) → j < q.length → (s : Int) < a.2.1 → ∃ k, k < q.length ∧ (q.getD k (((0 : Int), (0 : Int)), ([] : List Int))).1 = (nextM a (q.getD j (((0 : Int), (0 : Int)), ([] : List Int))).1.1 s, nextM b (q.getD j (((0 : Int), (0 : Int)), ([] : List Int))).1.2 s) ∧ (q.getD k (((0 : Int), (0 : Int)), ([] : List Int))).2.length ≤ (q.getD j (((0 : Int), (0 : Int)), ([] : List Int))).2.length + 1
  acc : ∀ j, j < i → j < q.length → bt a.2.2.2.2 (q.getD j (((0 : Int), (0 : Int)), ([] : List Int))).1.1.toNat = bt b.2.2.2.2 (q.getD j (((0 : Int), (0 : Int)), ([] : List Int))).1.2.toNat

theorem binv_start (a b : Mach) : BInv a b 0 0 (mset ([] : List ((Int × Int) × Int)) (a.2.2.2.1, b.2.2.2.1) (1 : Int)) [((a.2.2.2.1, b.2.2.2.1), ([] : List Int))] := by
  have h0 : ∀ j, j < [((a.2.2.2.1, b.2.2.2.1), ([] : List Int))].length → j = 0 := by intro j hj; simp at hj; exact hj
  refine ⟨⟨by simp, rfl⟩, fun pr => ?_, fun j hj => ?_, fun j k hjk hk => ?_, fun j k hjk hk => ?_, fun k j hk _ hj => ?_, fun j s h hj => ?_, fun j h => absurd h (by omega)⟩
  · rw [mget_mset]
    constructor
    · intro h
      split at h
      · rename_i e; exact ⟨0, by simp, e.symm⟩
      · simp [mget] at h
    · rintro ⟨j, hj, e⟩
      have := h0 j hj
      subst this
      have e' : pr = (a.2.2.2.1, b.2.2.2.1) := e.symm
      rw [if_pos e']; rfl
  · have := h0 j hj; subst this
    exact ⟨rfl, fun s hs => (by cases hs), Nat.le_refl _⟩
  · have := h0 k hk; omega
  · have := h0 k hk
    have h2 : j = 0 := by omega
    subst this h2; exact Nat.le_refl _
  · have := h0 k hk; subst this; exact Nat.zero_le _
  · omega

theorem binv_push {a b : Mach} {i t : Nat} {seen : List ((Int × Int) × Int)} {q : List Way} (h : BInv a b i t seen q) (hi : i < q.length) (ht : (t : Int) < a.2.1)
    (hno : (mget seen (nextM a (q.getD i (((0 : Int), (0 : Int)), ([] : List Int))).1.1 t, nextM b (q.getD i (((0 : Int), (0 : Int)), ([] : List Int))).1.2 t)).isSome = false) :
    BInv a b i (t + 1) (mset seen (nextM a (q.getD i (((0 : Int), (0 : Int)), ([] : List Int))).1.1 t, nextM b (q.getD i (((0 : Int), (0 : Int)), ([] : List Int))).1.2 t) 1) (q ++ [((nextM a (q.getD i (((0 : Int), (0 : Int)), ([] : List Int))).1.1 t, nextM b (q.getD i (((0 : Int), (0 : Int)), ([] : List Int))).1.2 t), (q.getD i (((0 : Int), (0 : Int)), ([] : List Int))).2 ++ [(t : Int)])]) := by
  obtain ⟨hr1, hr2, hr3⟩ := h.run i hi
  generalize hN : ((nextM a (q.getD i (((0 : Int), (0 : Int)), ([] : List Int))).1.1 t, nextM b (q.getD i (((0 : Int), (0 : Int)), ([] : List Int))).1.2 t), (q.getD i (((0 : Int), (0 : Int)), ([] : List Int))).2 ++ [(t : Int)]) = N
  have eN1 : N.1 = (nextM a (q.getD i (((0 : Int), (0 : Int)), ([] : List Int))).1.1 t, nextM b (q.getD i (((0 : Int), (0 : Int)), ([] : List Int))).1.2 t) := by rw [← hN]
  have eN2 : N.2 = (q.getD i (((0 : Int), (0 : Int)), ([] : List Int))).2 ++ [(t : Int)] := by rw [← hN]
  have eNl : N.2.length = (q.getD i (((0 : Int), (0 : Int)), ([] : List Int))).2.length + 1 := by rw [eN2]; simp
  rw [← eN1] at hno ⊢
  have hold : ∀ j, j < q.length → (q ++ [N]).getD j (((0 : Int), (0 : Int)), ([] : List Int)) = q.getD j (((0 : Int), (0 : Int)), ([] : List Int)) := fun j hj => by rw [getD_snoc, if_pos hj]
  have hnew : (q ++ [N]).getD q.length (((0 : Int), (0 : Int)), ([] : List Int)) = N := by rw [getD_snoc, if_neg (by omega), if_pos rfl]
  have hlen : (q ++ [N]).length = q.length + 1 := by simp
  have hcase : ∀ j, j < (q ++ [N]).length → j < q.length ∨ j = q.length := fun j hj => by rw [hlen] at hj; omega
  refine ⟨⟨by omega, by rw [hold 0 h.first.1]; exact h.first.2⟩, fun pr => ?_, fun j hj => ?_, fun j k hjk hk => ?_, fun j k hjk hk => ?_, fun k j hk hij hj => ?_, fun j s hd hj hs => ?_, fun j hji hj => ?_⟩
  · rw [mget_mset]
    constructor
    · intro hs
      split at hs
      · rename_i e
        exact ⟨q.length, by omega, by rw [hnew, e]⟩
      · obtain ⟨j, hj, e⟩ := (h.seen pr).1 hs
        exact ⟨j, by omega, by rw [hold j hj]; exact e⟩
    · rintro ⟨j, hj, e⟩
      rcases hcase j hj with hj' | rfl
      · rw [hold j hj'] at e
        split
        · rfl
        · exact (h.seen pr).2 ⟨j, hj', e⟩
      · rw [hnew] at e
        rw [if_pos e.symm]; rfl
  · rcases hcase j hj with hj' | rfl
    · rw [hold j hj']; exact h.run j hj'
    · rw [hnew]
      refine ⟨?_, ?_, by omega⟩
      · rw [eN1, eN2, hr1, runM_append, runM_append]
        rfl
      · rw [eN2]
        intro s hs
        simp only [List.mem_append, List.mem_singleton] at hs
        rcases hs with hs | rfl
        · exact hr2 s hs
        · exact ⟨by omega, ht⟩
  · rcases hcase k hk with hk' | rfl
    · rw [hold j (by omega), hold k hk']; exact h.dist j k hjk hk'
    · rw [hold j hjk, hnew]
      intro e
      have := (h.seen N.1).2 ⟨j, hjk, e⟩
      rw [hno] at this; cases this
  · rcases hcase k hk with hk' | rfl
    · rw [hold j (by omega), hold k hk']; exact h.sorted j k hjk hk'
    · rw [hnew]
      by_cases hj : j = q.length
      · subst hj; rw [hnew]; exact Nat.le_refl _
      · rw [hold j (by omega), eNl]
        exact h.near j i (by omega) (Nat.le_refl _) hi
  · have hn1 : ∀ j, i ≤ j → j < q.length → N.2.length ≤ (q.getD j (((0 : Int), (0 : Int)), ([] : List Int))).2.length + 1 := fun j hij hj => by
      have := h.sorted i j hij hj
      omega
    rcases hcase k hk with hk' | rfl
    · rw [hold k hk']
      rcases hcase j hj with hj' | rfl
      · rw [hold j hj']; exact h.near k j hk' hij hj'
      · rw [hnew]
        have := h.near k i hk' (Nat.le_refl _) hi
        omega
    · rw [hnew]
      rcases hcase j hj with hj' | rfl
      · rw [hold j hj']; exact hn1 j hij hj'
      · rw [hnew]; omega
  · have hjl : j < q.length := by omega
    rw [hold j hjl]
    by_cases hjs : j = i ∧ s = t
    · obtain ⟨rfl, rfl⟩ := hjs
      exact ⟨q.length, by omega, by rw [hnew, eN1], by rw [hnew, eNl]; omega⟩
    · obtain ⟨k, h1, h2, h3⟩ := h.clos j s (by omega) hjl hs
      exact ⟨k, by omega, by rw [hold k h1]; exact h2, by rw [hold k h1]; exact h3⟩
  · have hjl : j < q.length := by omega
    rw [hold j hjl]
    exact h.acc j hji hjl

theorem binv_skip {a b : Mach} {i t : Nat} {seen : List ((Int × Int) × Int)} {q : List Way} (h : BInv a b i t seen q) (hi : i < q.length)
    (hyes : (mget seen (nextM a (q.getD i (((0 : Int), (0 : Int)), ([] : List Int))).1.1 t, nextM b (q.getD i (((0 : Int), (0 : Int)), ([] : List Int))).1.2 t)).isSome = true) : BInv a b i (t + 1) seen q := by
  refine ⟨h.first, h.seen, h.run, h.dist, h.sorted, h.near, fun j s hd hj hs => ?_, h.acc⟩
  by_cases hjs : j = i ∧ s = t
  · obtain ⟨rfl, rfl⟩ := hjs
    obtain ⟨k, h1, h2⟩ := (h.seen _).1 hyes
    exact ⟨k, h1, h2, h.near k j h1 (Nat.le_refl _) hj⟩
  · exact h.clos j s (by omega) hj hs

theorem binv_next {a b : Mach} {i t : Nat} {seen : List ((Int × Int) × Int)} {q : List Way} (h : BInv a b i t seen q) (ht : a.2.1 ≤ (t : Int)) (hacc : bt a.2.2.2.2 (q.getD i (((0 : Int), (0 : Int)), ([] : List Int))).1.1.toNat = bt b.2.2.2.2 (q.getD i (((0 : Int), (0 : Int)), ([] : List Int))).1.2.toNat) : BInv a b (i + 1) 0 seen q := by
  refine ⟨h.first, h.seen, h.run, h.dist, h.sorted, fun k j hk hij hj => h.near k j hk (by omega) hj, fun j s hd hj hs => h.clos j s (by omega) hj hs, fun j hji hj => ?_⟩
  by_cases hj' : j = i
  · subst hj'; exact hacc
  · exact h.acc j (by omega) hj

theorem runM_snoc (m : Mach) (q : Int) (u : List Int) (s : Int) : runM m q (u ++ [s]) = nextM m (runM m q u) s := by rw [runM_append]; rfl

theorem snoc_cases {α : Type} (l : List α) : l = [] ∨ ∃ u s, l = u ++ [s] := by
  by_cases h : l = []
  · exact .inl h
  · exact .inr ⟨l.dropLast, l.getLast h, (List.dropLast_concat_getLast h).symm⟩

/-- shorter words were followed -/
theorem binv_short {a b : Mach} {i t : Nat} {seen : List ((Int × Int) × Int)} {q : List Way} (h : BInv a b i t seen q) (hi : i < q.length) : ∀ n (v : List Int), v.length = n → SymW a.2.1 v → v.length < (q.getD i (((0 : Int), (0 : Int)), ([] : List Int))).2.length →
    ∃ j, j < i ∧ (q.getD j (((0 : Int), (0 : Int)), ([] : List Int))).1 = (runM a a.2.2.2.1 v, runM b b.2.2.2.1 v) ∧ (q.getD j (((0 : Int), (0 : Int)), ([] : List Int))).2.length ≤ v.length := by
  intro n
  induction n with
  | zero =>
    intro v hv _ hl
    have : v = [] := List.length_eq_zero_iff.1 hv
    subst this
    have hi0 : i ≠ 0 := by
      intro e
      subst e
      rw [h.first.2] at hl
      simp at hl
    exact ⟨0, by omega, by rw [h.first.2]; rfl, by rw [h.first.2]; exact Nat.le_refl _⟩
  | succ n ih =>
    intro v hv hs hl
    rcases snoc_cases v with rfl | ⟨u, s, rfl⟩
    · simp at hv
    · simp only [List.length_append, List.length_cons, List.length_nil] at hv hl
      obtain ⟨j, h1, h2, h3⟩ := ih u (by omega) (fun z hz => hs z (by simp [hz])) (by omega)
      have hss := hs s (by simp)
      obtain ⟨z, hz⟩ : ∃ z : Nat, s = (z : Int) := ⟨s.toNat, by omega⟩
      subst hz
      obtain ⟨k, h4, h5, h6⟩ := h.clos j z (.inl h1) (by omega) hss.2
      rw [h2] at h5
      refine ⟨k, ?_, by rw [runM_snoc, runM_snoc]; exact h5, by simp only [List.length_append, List.length_cons, List.length_nil]; omega⟩
      refine Classical.byContradiction fun hn => ?_
      have := h.sorted i k (by omega) h4
      omega

theorem binv_all {a b : Mach} {i : Nat} {seen : List ((Int × Int) × Int)} {q : List Way} (h : BInv a b i 0 seen q) (hi : q.length ≤ i) : ∀ n (v : List Int), v.length = n → SymW a.2.1 v → ∃ j, j < q.length ∧ (q.getD j (((0 : Int), (0 : Int)), ([] : List Int))).1 = (runM a a.2.2.2.1 v, runM b b.2.2.2.1 v) := by
  intro n
  induction n with
  | zero =>
    intro v hv _
    have : v = [] := List.length_eq_zero_iff.1 hv
    subst this
    exact ⟨0, h.first.1, by rw [h.first.2]; rfl⟩
  | succ n ih =>
    intro v hv hs
    rcases snoc_cases v with rfl | ⟨u, s, rfl⟩
    · simp at hv
    · simp at hv
      obtain ⟨j, h1, h2⟩ := ih u hv (fun z hz => hs z (by simp [hz]))
      have hss := hs s (by simp)
      obtain ⟨z, hz⟩ : ∃ z : Nat, s = (z : Int) := ⟨s.toNat, by omega⟩
      subst hz
      obtain ⟨k, h4, h5, h6⟩ := h.clos j z (.inl (by omega)) h1 hss.2
      rw [h2] at h5
      exact ⟨k, h4, by rw [runM_snoc, runM_snoc]; exact h5⟩

theorem rowLen {m : Mach} (g : GoodM m) {q : Int} (hq : 0 ≤ q ∧ q < m.1) : ((m.2.2.1.getD q.toNat ([] : List Int)).length : Int) = m.2.1 ∧ q.toNat < m.2.2.1.length := by
  have hl : q.toNat < m.2.2.1.length := by have := g.2.1.1; omega
  exact ⟨g.2.1.2 _ (getD_mem hl), hl⟩

/-- the first word that just one takes -/
structure Parts (a b : Mach) (w : List Int) : Prop where
  sym : SymW a.2.1 w
  ne : accM a a.2.2.2.1 w ≠ accM b b.2.2.2.1 w
  min : ∀ v, SymW a.2.1 v → v.length < w.length → accM a a.2.2.2.1 v = accM b b.2.2.2.1 v

def Alike (a b : Mach) : Prop := ∀ v, SymW a.2.1 v → accM a a.2.2.2.1 v = accM b b.2.2.2.1 v

theorem VC51_of {a b : Mach} (ha : Ok MachT a) (hb : Ok MachT b) (ga : GoodM a) (gb : GoodM b) (hk : a.2.1 = b.2.1) {K : List Int × Bool → Prop} (h1 : ∀ w, Parts a b w → K (w, true)) (h0 : Alike a b → K ([], false)) : VC51 a b K := by
  have ua := ok_mach ha
  have ub := ok_mach hb
  have a1 := ga.1
  have b1 := gb.1
  obtain ⟨a11, a12, a13, a14⟩ := a1
  obtain ⟨b11, b12, b13, b14⟩ := b1
  have hfew : ∀ {i t seen} {q : List Way}, BInv a b i t seen q → q.length ≤ 49 := by
    intro i t seen q h
    have hst : ∀ j, j < q.length → (0 ≤ (q.getD j (((0 : Int), (0 : Int)), ([] : List Int))).1.1 ∧ (q.getD j (((0 : Int), (0 : Int)), ([] : List Int))).1.1 < 7) ∧ (0 ≤ (q.getD j (((0 : Int), (0 : Int)), ([] : List Int))).1.2 ∧ (q.getD j (((0 : Int), (0 : Int)), ([] : List Int))).1.2 < 7) := by
      intro j hj
      obtain ⟨e, hs, _⟩ := h.run j hj
      have h1 := run_good ga ga.2.2.2.1 hs
      have h2 := run_good gb gb.2.2.2.1 (w := (q.getD j (((0 : Int), (0 : Int)), ([] : List Int))).2) (fun s hh => by rw [← hk]; exact hs s hh)
      rw [e]
      exact ⟨⟨h1.1, by show runM a a.2.2.2.1 _ < 7; omega⟩, ⟨h2.1, by show runM b b.2.2.2.1 _ < 7; omega⟩⟩
    refine pigeon 49 q.length (fun j => ((q.getD j (((0 : Int), (0 : Int)), ([] : List Int))).1.1 * 7 + (q.getD j (((0 : Int), (0 : Int)), ([] : List Int))).1.2).toNat) (fun j hj => ?_) fun j k hjk hk' e => ?_
    · have := hst j hj; show ((q.getD j (((0 : Int), (0 : Int)), ([] : List Int))).1.1 * 7 + (q.getD j (((0 : Int), (0 : Int)), ([] : List Int))).1.2).toNat < 49; omega
    · have h1 := hst j (by omega)
      have h2 := hst k hk'
      have e' : ((q.getD j (((0 : Int), (0 : Int)), ([] : List Int))).1.1 * 7 + (q.getD j (((0 : Int), (0 : Int)), ([] : List Int))).1.2).toNat = ((q.getD k (((0 : Int), (0 : Int)), ([] : List Int))).1.1 * 7 + (q.getD k (((0 : Int), (0 : Int)), ([] : List Int))).1.2).toNat := e
      exact h.dist j k hjk hk' (Prod.ext (by omega) (by omega))
  unfold VC51
  refine Loop.by (fun s : Int × List ((Int × Int) × Int) × List Way => ∃ i : Nat, s.1 = (i : Int) ∧ i ≤ s.2.2.length ∧ BInv a b i 0 s.2.1 s.2.2) (fun s => (50 - s.1).toNat) ⟨0, rfl, by simp, binv_start a b⟩ ?_
  rintro ⟨c, seen, q⟩ ⟨i, e, hiq, hB⟩ X hX
  dsimp only at e hiq hB
  subst e
  dsimp only
  unfold VC51_l1
  have h49 := hfew hB
  refine ⟨fun hlt => ?_, fun hge => ?_⟩
  · simp only [decide_eq_true_eq] at hlt
    have hil : i < q.length := by omega
    obtain ⟨hr1, hr2, hr3⟩ := hB.run i hil
    have hga := run_good ga ga.2.2.2.1 hr2
    have hgb := run_good gb gb.2.2.2.1 (w := (q.getD i (((0 : Int), (0 : Int)), ([] : List Int))).2) (fun s hh => by rw [← hk]; exact hr2 s hh)
    have hpa : (q.getD i (((0 : Int), (0 : Int)), ([] : List Int))).1.1 = runM a a.2.2.2.1 (q.getD i (((0 : Int), (0 : Int)), ([] : List Int))).2 := by rw [hr1]
    have hpb : (q.getD i (((0 : Int), (0 : Int)), ([] : List Int))).1.2 = runM b b.2.2.2.1 (q.getD i (((0 : Int), (0 : Int)), ([] : List Int))).2 := by rw [hr1]
    rw [← hpa] at hga
    rw [← hpb] at hgb
    simp only [Int.toNat_natCast]
    refine ⟨⟨by omega, by omega⟩, VC42_of ua hga.1 (VC42_of ub hgb.1 ⟨fun hne => ?_, fun heq => ?_⟩)⟩
    · refine h1 _ ⟨hr2, ?_, fun v hv hl => ?_⟩
      · unfold accM
        rw [← hpa, ← hpb]
        simpa using hne
      · obtain ⟨j, k1, k2, _⟩ := binv_short hB hil _ v rfl hv hl
        have := hB.acc j k1 (by omega)
        rw [k2] at this
        exact this
    have hacc : bt a.2.2.2.2 (q.getD i (((0 : Int), (0 : Int)), ([] : List Int))).1.1.toNat = bt b.2.2.2.2 (q.getD i (((0 : Int), (0 : Int)), ([] : List Int))).1.2.toNat := by
      cases hx : bt a.2.2.2.2 (q.getD i (((0 : Int), (0 : Int)), ([] : List Int))).1.1.toNat <;> cases hy : bt b.2.2.2.2 (q.getD i (((0 : Int), (0 : Int)), ([] : List Int))).1.2.toNat <;> simp [hx, hy, -List.getD_eq_getElem?_getD] at heq ⊢
    obtain ⟨n, hn⟩ : ∃ n : Nat, a.2.1 = (n : Int) := ⟨a.2.1.toNat, by omega⟩
    refine Loop.by (fun s : Int × List ((Int × Int) × Int) × List Way => ∃ t : Nat, t ≤ n ∧ s.1 = (t : Int) ∧ i < s.2.2.length ∧ s.2.2.getD i (((0 : Int), (0 : Int)), ([] : List Int)) = q.getD i (((0 : Int), (0 : Int)), ([] : List Int)) ∧ BInv a b i t s.2.1 s.2.2) (fun s => ((n : Int) - s.1).toNat) ⟨0, by omega, rfl, hil, rfl, hB⟩ ?_
    rintro ⟨c, seen2, q2⟩ ⟨t, htn, e, hil2, hget, hB2⟩ X2 hX2
    dsimp only at e hil2 hget hB2
    subst e
    dsimp only
    have h49' := hfew hB2
    unfold VC51_l2
    refine ⟨fun hlt2 => ?_, fun hge2 => ?_⟩
    · simp only [decide_eq_true_eq] at hlt2
      have hrowa := rowLen ga hga
      have hrowb := rowLen gb hgb
      have ea : ((a.2.2.1.getD (q.getD i (((0 : Int), (0 : Int)), ([] : List Int))).1.1.toNat ([] : List Int)).getD t (0 : Int)) = nextM a (q2.getD i (((0 : Int), (0 : Int)), ([] : List Int))).1.1 (t : Int) := by rw [hget]; rfl
      have eb : ((b.2.2.1.getD (q.getD i (((0 : Int), (0 : Int)), ([] : List Int))).1.2.toNat ([] : List Int)).getD t (0 : Int)) = nextM b (q2.getD i (((0 : Int), (0 : Int)), ([] : List Int))).1.2 (t : Int) := by rw [hget]; rfl
      simp only [Int.toNat_natCast]
      simp only [ea, eb]
      refine ⟨⟨by omega, by omega⟩, ⟨by omega, by omega⟩, ⟨by omega, by omega⟩, ⟨by omega, by omega⟩, fun hno => ?_, fun hyes => ?_⟩
      · have hno' : (mget seen2 (nextM a (q2.getD i (((0 : Int), (0 : Int)), ([] : List Int))).1.1 t, nextM b (q2.getD i (((0 : Int), (0 : Int)), ([] : List Int))).1.2 t)).isSome = false := by simpa [-List.getD_eq_getElem?_getD] using hno
        have hB3 := binv_push hB2 hil2 (by omega) hno'
        refine VC43_of (by omega) ⟨by unfold roomN; simp only [List.length_cons, List.length_nil]; omega, by unfold roomN; simp only [List.length_cons, List.length_nil]; omega, ?_⟩
        unfold VC51_k3
        rw [hget] at hB3
        rw [hget]
        refine ⟨⟨by omega, by omega⟩, hX2 _ ⟨t + 1, by omega, by simp, by simp; omega, ?_, hB3⟩ (by simp only; omega)⟩
        dsimp only
        rw [getD_snoc, if_pos hil2]
        exact hget
      · have hyes' : (mget seen2 (nextM a (q2.getD i (((0 : Int), (0 : Int)), ([] : List Int))).1.1 t, nextM b (q2.getD i (((0 : Int), (0 : Int)), ([] : List Int))).1.2 t)).isSome = true := by simpa [-List.getD_eq_getElem?_getD] using hyes
        unfold VC51_k3
        exact ⟨⟨by omega, by omega⟩, hX2 _ ⟨t + 1, by omega, by simp, hil2, hget, binv_skip hB2 hil2 hyes'⟩ (by simp only; omega)⟩
    · simp only [decide_eq_false_iff_not] at hge2
      unfold VC51_k2
      refine ⟨⟨by omega, by omega⟩, hX _ ⟨i + 1, by simp, by dsimp only; omega, binv_next hB2 (by omega) (by rw [hget]; exact hacc)⟩ (by simp only; omega)⟩
  · simp only [decide_eq_false_iff_not] at hge
    unfold VC51_k1
    refine h0 fun v hv => ?_
    obtain ⟨j, k1, k2⟩ := binv_all hB (by omega) _ v rfl hv
    have := hB.acc j (by omega) k1
    rw [k2] at this
    exact this

theorem VC50_of {a b : Mach} (ha : Ok MachT a) (hb : Ok MachT b) {K : Int → Prop} (h1 : ¬ (GoodM a ∧ GoodM b ∧ a.2.1 = b.2.1) → ∀ e, e ≠ 0 → K e) (h0 : GoodM a → GoodM b → a.2.1 = b.2.1 → K 0) : VC50 a b K := by
  unfold VC50
  refine loop_count 2 (fun i => (0 < i → GoodM a) ∧ (1 < i → GoodM b)) ⟨fun h => absurd h (by omega), fun h => absurd h (by omega)⟩ ?_
  intro c hc hP X hX
  unfold VC50_l1
  refine ⟨fun hlt => ?_, fun hge => ?_⟩
  · simp at hlt
    refine ⟨⟨by omega, by simp; omega⟩, ?_⟩
    have hcase : c = 0 ∨ c = 1 := by omega
    rcases hcase with rfl | rfl
    · simp
      refine VC40_of ha ⟨fun hne => ?_, fun he => ⟨⟨by omega, by omega⟩, hX (by omega) ⟨fun _ => ?_, fun h => absurd h (by omega)⟩⟩⟩
      · refine h1 (fun hg => ?_) _ (by simpa using hne)
        rw [(chkM_zero a).2 hg.1] at hne; simp at hne
      · exact (chkM_zero a).1 (by simpa using he)
    · simp
      refine VC40_of hb ⟨fun hne => ?_, fun he => ⟨⟨by omega, by omega⟩, hX (by omega) ⟨fun _ => hP.1 (by omega), fun _ => ?_⟩⟩⟩
      · refine h1 (fun hg => ?_) _ (by simpa using hne)
        rw [(chkM_zero b).2 hg.2.1] at hne; simp at hne
      · exact (chkM_zero b).1 (by simpa using he)
  · simp at hge
    have ga := hP.1 (by omega)
    have gb := hP.2 (by omega)
    unfold VC50_k1
    refine ⟨fun hk => h1 (fun hg => ?_) _ (by omega), fun hk => h0 ga gb (by simpa using hk)⟩
    simp at hk
    exact hk hg.2.2

theorem VC30_of {a b : Mach} (ha : Ok MachT a) (hb : Ok MachT b) {K : List Int × Int → Prop} (hbad : ¬ (GoodM a ∧ GoodM b ∧ a.2.1 = b.2.1) → ∀ e, e ≠ 0 → K ([], e))
    (h1 : GoodM a → GoodM b → a.2.1 = b.2.1 → ∀ w, Parts a b w → K (w, 0)) (h0 : GoodM a → GoodM b → a.2.1 = b.2.1 → Alike a b → K ([], 5)) : VC30 a b K := by
  unfold VC30
  refine VC50_of ha hb (fun hno e he => ⟨fun _ => hbad hno e he, fun hc => absurd (by simpa using hc) he⟩) (fun ga gb hk => ⟨fun hc => (by simp at hc), fun _ => ?_⟩)
  exact VC51_of ha hb ga gb hk (fun w hw => ⟨fun hc => (by cases hc), fun _ => h1 ga gb hk w hw⟩) (fun hal => ⟨fun _ => h0 ga gb hk hal, fun hc => (by cases hc)⟩)

theorem VC27_of {a b : Mach} (ha : Ok MachT a) (hb : Ok MachT b) {K : Bool × Int → Prop} (hbad : ¬ (GoodM a ∧ GoodM b ∧ a.2.1 = b.2.1) → ∀ e, e ≠ 0 → K (false, e))
    (h1 : GoodM a → GoodM b → a.2.1 = b.2.1 → ∀ w, Parts a b w → K (false, 0)) (h0 : GoodM a → GoodM b → a.2.1 = b.2.1 → Alike a b → K (true, 0)) : VC27 a b K := by
  unfold VC27
  refine VC50_of ha hb (fun hno e he => ⟨fun _ => hbad hno e he, fun hc => absurd (by simpa using hc) he⟩) (fun ga gb hk => ⟨fun hc => (by simp at hc), fun _ => ?_⟩)
  exact VC51_of ha hb ga gb hk (fun w hw => h1 ga gb hk w hw) (fun hal => h0 ga gb hk hal)

theorem VC53_of {w i : Int} (hw : U32 w) (hi : 0 ≤ i ∧ i < 32) {K : Bool → Prop} (h : K (bt w i.toNat)) : VC53 w i K := by
  obtain ⟨n, rfl⟩ : ∃ n : Nat, i = (n : Int) := ⟨i.toNat, by omega⟩
  unfold VC53
  rw [wrapU64 (n := (n : Int)) ⟨by omega, by omega⟩]
  refine ⟨fun _ => by omega, ?_⟩
  have e1 : (decide ((0 : Int) ≤ (n : Int)) && decide ((n : Int) < 32)) = true := by simp; omega
  have e2 : (!decide (bAnd .u32 w (bShl .u32 1 (n : Int)) = 0)) = bt w n := by
    have hz := u32_eq_zero (u32_and hw (u32_shl1 (n : Int)))
    cases hb : bt w n with
    | true =>
      simp only [Bool.not_eq_true', decide_eq_false_iff_not]
      intro e
      have := hz.1 e n (by omega)
      rw [bt_and hw (u32_shl1 _), bt_shl1 (by omega), hb] at this
      simp at this
    | false =>
      simp only [Bool.not_eq_false', decide_eq_true_eq]
      refine hz.2 fun j hj => ?_
      rw [bt_and hw (u32_shl1 _), bt_shl1 (by omega)]
      by_cases hnj : n = j
      · subst hnj; rw [hb]; rfl
      · simp [hnj]
  rw [e1, e2]
  simpa using h

theorem VC54_of {m : Mach} {w : List Int} (g : GoodM m) (hs : SymW m.2.1 w) (hl : w.length ≤ 1000) {q : Int} (hq : 0 ≤ q ∧ q < m.1) {K : Int → Prop} (h : K (runM m q w)) : VC54 m q w K := by
  unfold VC54
  have hst : ∀ i, 0 ≤ runM m q (w.take i) ∧ runM m q (w.take i) < m.1 := fun i => run_good g hq (fun s hh => hs s (List.mem_of_mem_take hh))
  refine loop_state' w.length (fun i => runM m q (w.take i)) (fun _ => True) trivial ?_
  intro i hi _ X hX
  try dsimp only
  unfold VC54_l1
  refine ⟨fun hlt => ?_, fun hge => ?_⟩
  · simp only [decide_eq_true_eq] at hlt
    have hil : i < w.length := by omega
    have hr := rowLen g (hst i)
    have hsy := hs _ (getD_mem (d := (0 : Int)) hil)
    have hX' := hX hil trivial
    rw [List.take_succ_eq_append_getElem hil, runM_snoc, ← getD_lt (0 : Int) hil] at hX'
    simp only [Int.toNat_natCast]
    exact ⟨⟨by omega, by omega⟩, ⟨(hst i).1, by have := (hst i).1; omega⟩, ⟨hsy.1, by omega⟩, ⟨by omega, by omega⟩, hX'⟩
  · simp only [decide_eq_false_iff_not] at hge
    have : i = w.length := by omega
    subst this
    unfold VC54_k1
    rw [List.take_length]
    exact h

theorem VC31_of {m : Mach} {w : List Int} (hm : Ok MachT m) (g : GoodM m) (hs : SymW m.2.1 w) (hl : w.length ≤ 1000) {K : Bool → Prop} (h : K (accM m m.2.2.2.1 w)) : VC31 m w K := by
  unfold VC31
  have hr := run_good g g.2.2.2.1 hs
  have h7 := g.1.2.1
  exact VC54_of g hs hl g.2.2.2.1 (VC53_of (ok_mach hm) ⟨hr.1, by omega⟩ h)

theorem accU_left (a b : Mach) {q : Int} (hq : 0 ≤ q ∧ q < a.1) (w : List Int) : accU a b q.toNat w = accM a q w := by
  have e : ((q.toNat : Nat) : Int) = q := by omega
  unfold accU
  rw [if_pos (by omega), e]
theorem accU_right (a b : Mach) {q : Int} (hq : 0 ≤ q ∧ q < b.1) (w : List Int) : accU a b (a.1.toNat + q.toNat) w = accM b q w := by
  have e : ((a.1.toNat + q.toNat - a.1.toNat : Nat) : Int) = q := by omega
  unfold accU
  rw [if_neg (by omega), e]

theorem parts_short {a b : Mach} (ga : GoodM a) (gb : GoodM b) (hk : a.2.1 = b.2.1) {w : List Int} (h : Parts a b w) : (w.length : Int) ≤ a.1 + b.1 := by
  have qa := ga.2.2.2.1
  have qb := gb.2.2.2.1
  have qa1 := qa.1
  have qa2 := qa.2
  have qb1 := qb.1
  have qb2 := qb.2
  have := moore ga gb hk (x := a.2.2.2.1.toNat) (y := a.1.toNat + b.2.2.2.1.toNat) (by omega) (by omega) h.sym (by rw [accU_left a b qa, accU_right a b qb]; exact h.ne)
    (fun v hv hl => by rw [accU_left a b qa, accU_right a b qb]; exact h.min v hv hl)
  omega

theorem leastApart {a b : Mach} {v : List Int} (ha : Ok MachT a) (hb : Ok MachT b) : VC10 a b v (fun b => b = true) := by
  unfold VC10
  have bad : ¬ (GoodM a ∧ GoodM b ∧ a.2.1 = b.2.1) → ((((!decide (chkM a = (0 : Int))) || (!decide ((if (!(!decide (chkM a = (0 : Int)))) then chkM b else 0) = (0 : Int)))) || (!decide (a.2.1 = b.2.1)))) = true := by
    intro hno
    by_cases h1 : chkM a = 0
    · by_cases h2 : chkM b = 0
      · by_cases h3 : a.2.1 = b.2.1
        · exact absurd ⟨(chkM_zero a).1 h1, (chkM_zero b).1 h2, h3⟩ hno
        · simp [h1, h3]
      · simp [h1, h2]
    · simp [h1]
  refine VC30_of ha hb (fun hno e he => VC27_of ha hb (fun _ e2 he2 => VC26_of ha (gcall_of (chkM b) (fun _ hk => VC26_of hb hk) ?_)) (fun ga gb hk => absurd ⟨ga, gb, hk⟩ hno) (fun ga gb hk => absurd ⟨ga, gb, hk⟩ hno)) (fun ga gb hk w hw => ?_) (fun ga gb hk hal => ?_)
  · rw [bad hno]
    exact ⟨fun _ => (by simp [he, he2]), fun hc => (by cases hc)⟩
  · have hca := (chkM_zero a).2 ga
    have hcb := (chkM_zero b).2 gb
    have hshort := parts_short ga gb hk hw
    have hN1 := ga.1.1
    have hN2 := ga.1.2.1
    have hN3 := gb.1.1
    have hN4 := gb.1.2.1
    refine VC27_of ha hb (fun hno => absurd ⟨ga, gb, hk⟩ hno) (fun _ _ _ _ _ => VC26_of ha (gcall_of (chkM b) (fun _ hk => VC26_of hb hk) ?_)) (fun _ _ _ hal => absurd (hal w hw.sym) hw.ne)
    rw [hca]
    simp only [decide_true, Bool.not_true, Bool.not_false, if_true, hcb, hk, Bool.or_self]
    refine ⟨fun hc => (by cases hc), fun _ => ⟨fun hc => (by simp at hc), fun _ => ⟨fun _ => ⟨by omega, by omega⟩, ?_⟩⟩⟩
    have hnl : ¬ (a.1 + b.1 < (w.length : Int)) := by omega
    simp only [hnl, decide_false, Bool.not_false, Bool.and_self, Bool.false_or, Bool.true_and, Bool.and_true]
    refine gcall_of (chkW a.2.1 w) (fun _ hk' => VC17_of (by rw [hk] at *; exact hk')) ?_
    simp only [if_true]
    by_cases hw0 : chkW a.2.1 w = 0
    · have gw := (chkW_zero _ _).1 hw0
      have hl12 := gw.1
      have hsb : SymW b.2.1 w := by rw [← hk]; exact hw.sym
      simp only [hw0, decide_true, Bool.true_and]
      refine gcall_of _ (fun _ hk' => VC31_of ha ga hw.sym (by omega) hk') (gcall_of _ (fun _ hk' => VC31_of hb gb hsb (by omega) hk') ?_)
      simp only [if_true]
      refine ⟨fun hc => absurd (by simpa using hc) hw.ne, fun _ => VC16_of ha ⟨fun _ => trivial, fun hc => VC15_of ha (VC15_of hb ?_)⟩⟩
      simp only [Bool.or_eq_false_iff, Bool.not_eq_false', decide_eq_false_iff_not] at hc
      obtain ⟨gv1, gv⟩ := goodB_true.1 hc.1
      have gvb : GoodW b.2.1 v := by rw [← hk]; exact gv
      rw [runR_good ga gv, runR_good gb gvb]
      have := hw.min v gv.2 (by omega)
      unfold accM at this
      simp [this]
    · simp only [hw0, decide_false, Bool.false_and]
      refine gcall_of false (fun hc => (by cases hc)) (gcall_of false (fun hc => (by cases hc)) ?_)
      simp only [Bool.false_eq_true, if_false]
      refine ⟨fun hc => (by cases hc), fun _ => VC16_of ha ⟨fun _ => trivial, fun hc => VC15_of ha (VC15_of hb ?_)⟩⟩
      simp only [Bool.or_eq_false_iff, Bool.not_eq_false', decide_eq_false_iff_not] at hc
      obtain ⟨gv1, gv⟩ := goodB_true.1 hc.1
      have gvb : GoodW b.2.1 v := by rw [← hk]; exact gv
      rw [runR_good ga gv, runR_good gb gvb]
      have := hw.min v gv.2 (by omega)
      unfold accM at this
      simp [this]
  · have hca := (chkM_zero a).2 ga
    have hcb := (chkM_zero b).2 gb
    refine VC27_of ha hb (fun hno => absurd ⟨ga, gb, hk⟩ hno) (fun _ _ _ w hw => absurd (hal w hw.sym) hw.ne) (fun _ _ _ _ => VC26_of ha (gcall_of (chkM b) (fun _ hk => VC26_of hb hk) ?_))
    rw [hca]
    simp only [decide_true, Bool.not_true, Bool.not_false, if_true, hcb, hk, Bool.or_self]
    refine ⟨fun hc => (by cases hc), fun _ => ⟨fun hc => (by simp at hc), fun _ => ⟨fun hc => (by simp at hc), ?_⟩⟩⟩
    have e5 : decide ((5 : Int) = 0) = false := by decide
    simp only [e5, Bool.false_and]
    refine gcall_of 0 (fun hc => (by cases hc)) (gcall_of false (fun hc => (by cases hc)) (gcall_of false (fun hc => (by cases hc)) ?_))
    refine ⟨fun hc => (by cases hc), fun _ => VC16_of ha ⟨fun _ => trivial, fun hc => VC15_of ha (VC15_of hb ?_)⟩⟩
    simp only [Bool.or_eq_false_iff, Bool.not_eq_false', decide_eq_false_iff_not] at hc
    obtain ⟨gv1, gv⟩ := goodB_true.1 hc.1
    have gvb : GoodW b.2.1 v := by rw [← hk]; exact gv
    rw [runR_good ga gv, runR_good gb gvb]
    have := hal v gv.2
    unfold accM at this
    simp [this]
end Dec
