/-
  'LeastBack' in plain Lean: reversed and made sure twice, a machine is the least one.
-/
import Derived.Test.YtfigkkmiallghaaFewB
import Derived.Test.YtfigkkmiallghaaNetB
import Derived.Test.YtfigkkmiallghaaSure
set_option linter.unusedSimpArgs false
set_option linter.unusedVariables false
namespace Dec
open Go Go.Proofs

structure CorrR (R : Int → Int → Prop) (la lb : List Int) : Prop where
  len : la.length = lb.length
  at_ : ∀ j, j < la.length → R (la.getD j 0) (lb.getD j 0)

theorem CorrR.snoc {R : Int → Int → Prop} {la lb : List Int} (h : CorrR R la lb) {x y : Int} (hxy : R x y) : CorrR R (la ++ [x]) (lb ++ [y]) := by
  refine ⟨by simp [h.len], fun j hj => ?_⟩
  rw [getD_snocI, getD_snocI, ← h.len]
  simp only [List.length_append, List.length_cons, List.length_nil] at hj
  by_cases h1 : j < la.length
  · rw [if_pos h1, if_pos h1]; exact h.at_ j h1
  · rw [if_neg h1, if_neg h1, if_pos (by omega), if_pos (by omega)]; exact hxy

theorem idx_here {m : Mach} {l : List Int} (hf : FoundL m l) {c : Int} {v : Nat} (hv : v < l.length) (e : l.getD v 0 = c) : idxOf (fun y => decide (c = y)) l = (v : Int) := by
  rcases idxOf_spec c l with ⟨_, h2⟩ | ⟨n, h1, h2, h3⟩
  · exact absurd e (h2 v hv)
  · rw [h1]
    by_cases hnv : n = v
    · rw [hnv]
    · rcases Nat.lt_or_gt_of_ne hnv with hl | hl
      · exact absurd (h3.trans e.symm) (hf.dist n v hl hv)
      · exact absurd (e.trans h3.symm) (hf.dist v n hl h2)

theorem idx_none {l : List Int} {c : Int} (h : ∀ j, j < l.length → l.getD j 0 ≠ c) : idxOf (fun y => decide (c = y)) l < 0 := by
  rcases idxOf_spec c l with ⟨h1, _⟩ | ⟨n, _, h2, h3⟩
  · exact h1
  · exact absurd h3 (h n h2)

def Rep (m : Mach) (x : Int) : Prop := (0 ≤ x ∧ x < m.1) ∧ clI m x.toNat = x.toNat

theorem VC24_mir {n : Net} {m : Mach} (g : GoodN n) (hu : NU n) (gm : GoodM m) (hk : n.2.1 = m.2.1) (R : Int → Int → Prop)
    (hR : ∀ X x, R X x → ∃ u, IsRun n n.2.2.2.1 u X)
    (h0 : ∀ r, IsRun n n.2.2.2.1 [] r → R r ((clM m).getD m.2.2.2.1.toNat 0))
    (hst : ∀ X x u s r, R X x → (0 ≤ x ∧ x < m.1) → (0 ≤ s ∧ s < m.2.1) → IsRun n n.2.2.2.1 u X → IsRun n n.2.2.2.1 (u ++ [s]) r → R r ((clM m).getD (nextM m x s).toNat 0))
    (heq : ∀ X x X' x', R X x → R X' x' → Rep m x → Rep m x' → (X = X' ↔ x = x'))
    (hf : ∀ X x, R X x → (0 ≤ x ∧ x < m.1) → (!decide (bAnd .u32 X n.2.2.2.2 = 0)) = bt m.2.2.2.2 x.toNat)
    {K : Mach × Int → Prop} (h : K (leastF m, 0)) : VC24 n K := by
  obtain ⟨⟨a1, a2, a3, a4, a5⟩, b, c⟩ := id g
  obtain ⟨Kn, hK⟩ : ∃ k : Nat, n.2.1 = (k : Int) := ⟨n.2.1.toNat, by omega⟩
  have hKn : n.2.1.toNat = Kn := by omega
  have hKm : m.2.1.toNat = Kn := by omega
  have h7 := gm.1.2.1
  unfold VC24
  refine VC44_of hu ⟨fun hc => ?_, fun _ => ?_⟩
  · rw [(chkN_zero n).2 g] at hc; simp at hc
  refine VC45_of b a5 a2 hu.1 fun r0 hr0 => ?_
  refine Loop.by (fun z : Int × Int × List Int × List (List Int) => ∃ i : Nat, z.1 = (i : Int) ∧ CorrR R z.2.2.1 (stL m (clM m) i).2.1 ∧ z.2.1 = (stL m (clM m) i).1 ∧ z.2.2.2 = (stL m (clM m) i).2.2 ∧ LInv m i (stL m (clM m) i)) (fun z => (8 - z.1).toNat) ⟨0, rfl, ⟨by simp [stL], fun j hj => ?_⟩, rfl, rfl, stL_zero gm⟩ ?_
  · have : j = 0 := by simp at hj; exact hj
    subst this
    exact h0 r0 hr0
  rintro ⟨c', out, sets, rows⟩ ⟨i, e1, hc0, e2, e3, hI⟩ X hX
  dsimp only at e1 hc0 e2 e3
  subst e1
  obtain ⟨S, hS⟩ : ∃ S, S = stL m (clM m) i := ⟨_, rfl⟩
  rw [← hS] at hc0 e2 e3 hI
  have hfew := hI.found.few
  have hcl := hc0.len
  have hle := hI.le
  unfold VC24_l1
  dsimp only
  refine ⟨fun hb => ⟨⟨by omega, by omega⟩, ?_⟩, fun hb => ?_⟩
  · simp only [decide_eq_true_eq] at hb
    have hil : i < S.2.1.length := by omega
    have hx := (hI.found.rep i hil).1
    rw [hKn]
    refine loop_inv Kn (fun s t => CorrR R t.1 (rowStep m (clM m) (S.2.1.getD i 0) s S.2.1).1 ∧ t.2.length = Kn ∧ ∀ u, u < s → t.2.getD u 0 = (rowStep m (clM m) (S.2.1.getD i 0) s S.2.1).2.getD u 0) ⟨hc0, by simp, fun u hu => absurd hu (by omega)⟩ ?_
    rintro s hs ⟨sets2, row⟩ ⟨hc2, hrl, hru⟩ Y hY
    dsimp only at hc2 hrl hru
    obtain ⟨Q, hQ⟩ : ∃ Q, Q = rowStep m (clM m) (S.2.1.getD i 0) s S.2.1 := ⟨_, rfl⟩
    have hro := rowStep_ok gm hx hI.found s (by omega)
    obtain ⟨l, hl⟩ := rowStep_pre m (clM m) (S.2.1.getD i 0) s S.2.1
    rw [← hQ] at hc2 hru hro hl
    have hfew2 := hro.found.few
    have hlen2 := hc2.len
    have hlenQ : S.2.1.length ≤ Q.1.length := by rw [hl]; simp
    have hgi : Q.1.getD i 0 = S.2.1.getD i 0 := by rw [hl]; exact getD_app_left hil
    have hRi : R (sets2.getD i 0) (S.2.1.getD i 0) := by have := hc2.at_ i (by omega); rwa [hgi] at this
    unfold VC24_l2
    dsimp only
    simp only [List.length_replicate, hKn]
    refine ⟨fun hlt => ?_, fun hge => ?_⟩
    · simp only [decide_eq_true_eq] at hlt
      simp only [Int.toNat_natCast]
      obtain ⟨u0, hu0⟩ := hR _ _ hRi
      obtain ⟨cc, hcc⟩ : ∃ cc, cc = (clM m).getD (nextM m (S.2.1.getD i 0) (s : Int)).toNat 0 := ⟨_, rfl⟩
      have hcg := cl_good (m := m) (next_good gm hx (s := (s : Int)) ⟨by omega, by omega⟩)
      rw [← hcc] at hcg
      have fin : ∀ (t : Nat) (sets3 : List Int), CorrR R sets3 (rowStep m (clM m) (S.2.1.getD i 0) (s + 1) S.2.1).1 → (rowStep m (clM m) (S.2.1.getD i 0) (s + 1) S.2.1).2 = Q.2 ++ [(t : Int)] → (InR ((s : Int) + (1 : Int)) ∧ Y (((s : Int) + (1 : Int)), sets3, (row.set s (t : Int)))) := by
        intro t sets3 h1 h2
        refine ⟨⟨by omega, by omega⟩, hY _ (by omega) ⟨h1, by simpa using hrl, fun u hu => ?_⟩⟩
        dsimp only
        rw [h2]
        exact set_row hrl (by omega) hro.len hru u hu
      have old : ∀ (r : Int) (v : Nat), R r cc → v < sets2.length → sets2.getD v 0 = r → (InR ((s : Int) + (1 : Int)) ∧ Y (((s : Int) + (1 : Int)), sets2, (row.set s (v : Int)))) := by
        intro r v hr hv e
        have hQv : Q.1.getD v 0 = cc := by
          have h1 := hc2.at_ v hv
          rw [e] at h1
          exact (heq _ _ _ _ h1 hr (hro.found.rep v (by omega)) ⟨hcg.1, hcg.2.1⟩).1 rfl
        have hidx := idx_here hro.found (c := cc) (v := v) (by omega) hQv
        have est : rowStep m (clM m) (S.2.1.getD i 0) (s + 1) S.2.1 = (Q.1, Q.2 ++ [(v : Int)]) := by
          rw [rowStep]; try dsimp only
          rw [← hQ, ← hcc, hidx, if_neg (by omega)]
        exact fin v sets2 (by rw [est]; exact hc2) (by rw [est])
      have new : ∀ r : Int, R r cc → (∀ j, j < sets2.length → sets2.getD j 0 ≠ r) → (InR ((s : Int) + (1 : Int)) ∧ Y (((s : Int) + (1 : Int)), sets2 ++ [r], (row.set s (sets2.length : Int)))) := by
        intro r hr hno
        have hidx : idxOf (fun y => decide (cc = y)) Q.1 < 0 := idx_none fun j hj e => by
          have h1 := hc2.at_ j (by omega)
          rw [e] at h1
          exact hno j (by omega) ((heq _ _ _ _ h1 hr ⟨hcg.1, hcg.2.1⟩ ⟨hcg.1, hcg.2.1⟩).2 rfl)
        have est : rowStep m (clM m) (S.2.1.getD i 0) (s + 1) S.2.1 = (Q.1 ++ [cc], Q.2 ++ [(Q.1.length : Int)]) := by
          rw [rowStep]; try dsimp only
          rw [← hQ, ← hcc, if_pos hidx]
        exact fin sets2.length (sets2 ++ [r]) (by rw [est]; exact hc2.snoc hr) (by rw [est, hlen2])
      have go : ∀ r, IsRun n n.2.2.2.1 (u0 ++ [(s : Int)]) r → R r cc := fun r hr => by rw [hcc]; exact hst _ _ _ _ _ hRi hx ⟨by omega, by omega⟩ hu0 hr
      refine ⟨⟨⟨by omega, by omega⟩, VC46_of b a5 a2 (by omega) hu0 fun r hr1 => ?_⟩, ⟨by omega, by omega⟩, VC46_of b a5 a2 (by omega) hu0 fun r hr1 => ?_, VC46_of b a5 a2 (by omega) hu0 fun r hr1 => ?_⟩
      · have hr := go r hr1
        refine loop_count sets2.length (fun v => ∀ j, j < v → sets2.getD j 0 ≠ r) (by intro j hj; omega) ?_
        intro v hv hP X3 hX3
        unfold VC24_l3 VC24_k6 VC24_k5 VC24_k4
        refine ⟨fun hc => ?_, fun hc => ?_⟩
        · simp only [decide_eq_true_eq] at hc
          simp only [Int.toNat_natCast]
          refine ⟨⟨by omega, by omega⟩, fun he => ?_, fun he => ⟨⟨by omega, by omega⟩, hX3 (by omega) fun j hj => ?_⟩⟩
          · simp only [decide_eq_true_eq] at he
            exact ⟨⟨by omega, by omega⟩, old r v hr (by omega) he⟩
          · simp only [decide_eq_false_iff_not] at he
            by_cases ej : j < v
            · exact hP j ej
            · have : j = v := by omega
              subst this; exact he
        · simp only [decide_eq_false_iff_not] at hc
          have el : (((sets2 ++ [r]).length : Int) - (1 : Int)) = ((sets2.length : Nat) : Int) := by simp only [List.length_append, List.length_singleton]; omega
          rw [el]
          simp only [Int.toNat_natCast]
          exact ⟨by simp only [roomN, List.length_singleton]; omega, ⟨by omega, by omega⟩, ⟨by omega, by omega⟩, new r hr fun j hj => hP j (by omega)⟩
      · have hr := go r hr1
        refine loop_count sets2.length (fun v => ∀ j, j < v → sets2.getD j 0 ≠ r) (by intro j hj; omega) ?_
        intro v hv hP X3 hX3
        unfold VC24_l4 VC24_k8 VC24_k7 VC24_k4
        refine ⟨fun hc => ?_, fun hc => ?_⟩
        · simp only [decide_eq_true_eq] at hc
          simp only [Int.toNat_natCast]
          refine ⟨⟨by omega, by omega⟩, fun he => ?_, fun he => ⟨⟨by omega, by omega⟩, hX3 (by omega) fun j hj => ?_⟩⟩
          · simp only [decide_eq_true_eq] at he
            exact ⟨⟨by omega, by omega⟩, old r v hr (by omega) he⟩
          · simp only [decide_eq_false_iff_not] at he
            by_cases ej : j < v
            · exact hP j ej
            · have : j = v := by omega
              subst this; exact he
        · simp only [decide_eq_false_iff_not] at hc
          have el : (((sets2 ++ [r]).length : Int) - (1 : Int)) = ((sets2.length : Nat) : Int) := by simp only [List.length_append, List.length_singleton]; omega
          rw [el]
          simp only [Int.toNat_natCast]
          exact ⟨by simp only [roomN, List.length_singleton]; omega, ⟨by omega, by omega⟩, ⟨by omega, by omega⟩, new r hr fun j hj => hP j (by omega)⟩
      · have hr := go r hr1
        refine loop_count sets2.length (fun v => ∀ j, j < v → sets2.getD j 0 ≠ r) (by intro j hj; omega) ?_
        intro v hv hP X3 hX3
        unfold VC24_l5 VC24_k10 VC24_k9 VC24_k4
        refine ⟨fun hc => ?_, fun hc => ?_⟩
        · simp only [decide_eq_true_eq] at hc
          simp only [Int.toNat_natCast]
          refine ⟨⟨by omega, by omega⟩, fun he => ?_, fun he => ⟨⟨by omega, by omega⟩, hX3 (by omega) fun j hj => ?_⟩⟩
          · simp only [decide_eq_true_eq] at he
            exact ⟨⟨by omega, by omega⟩, old r v hr (by omega) he⟩
          · simp only [decide_eq_false_iff_not] at he
            by_cases ej : j < v
            · exact hP j ej
            · have : j = v := by omega
              subst this; exact he
        · simp only [decide_eq_false_iff_not] at hc
          have el : (((sets2 ++ [r]).length : Int) - (1 : Int)) = ((sets2.length : Nat) : Int) := by simp only [List.length_append, List.length_singleton]; omega
          rw [el]
          simp only [Int.toNat_natCast]
          exact ⟨by simp only [roomN, List.length_singleton]; omega, ⟨by omega, by omega⟩, ⟨by omega, by omega⟩, new r hr fun j hj => hP j (by omega)⟩
    · simp only [decide_eq_false_iff_not] at hge
      have : s = Kn := by omega
      subst this
      have hrow : row = Q.2 := ext_getD 0 (by rw [hrl, hro.len]) fun u hu => hru u (by omega)
      have hst2 : stL m (clM m) (i + 1) = stepL m (clM m) i S := by rw [stL, ← hS, if_pos hil]
      have hI' := stepL_inv gm hI hil
      have hrl2 : rows.length = i := by rw [e3]; exact hI.rows
      have hbit := hf _ _ hRi hx
      unfold VC24_k2
      refine ⟨fun hc => ?_, fun _ => ?_⟩
      · simp only [decide_eq_true_eq] at hc; omega
      simp only [Int.toNat_natCast]
      rw [hbit]
      refine ⟨by unfold roomN; simp only [List.length_cons, List.length_nil]; omega, ⟨by omega, by omega⟩, fun hb => ⟨by omega, ?_⟩, fun hb => ?_⟩
      · have est : stepL m (clM m) i S = (bOr .u32 out (bShl .u32 1 (i : Int)), Q.1, rows ++ [row]) := by
          unfold stepL; dsimp only; rw [hKm, ← hQ, hgi, if_pos hb, hrow, e2, e3]
        unfold VC24_k3
        exact ⟨⟨by omega, by omega⟩, hX _ ⟨i + 1, by simp, by dsimp only; rw [hst2, est]; exact hc2, by dsimp only; rw [hst2, est], by dsimp only; rw [hst2, est], by rw [hst2]; exact hI'⟩ (by dsimp only; omega)⟩
      · have est : stepL m (clM m) i S = (out, Q.1, rows ++ [row]) := by
          unfold stepL; dsimp only; rw [hKm, ← hQ, hgi, hb, hrow, e2, e3]; rfl
        unfold VC24_k3
        exact ⟨⟨by omega, by omega⟩, hX _ ⟨i + 1, by simp, by dsimp only; rw [hst2, est]; exact hc2, by dsimp only; rw [hst2, est], by dsimp only; rw [hst2, est], by rw [hst2]; exact hI'⟩ (by dsimp only; omega)⟩
  · simp only [decide_eq_false_iff_not] at hb
    have hstay := stL_stay m (clM m) (i := i) (by rw [← hS]; omega) (7 - i)
    rw [show i + (7 - i) = 7 by omega, ← hS] at hstay
    unfold VC24_k1
    unfold leastF at h
    rw [hstay] at h
    rw [hcl, hk, e2, e3]
    exact h

def IsArcs (m : Mach) (arcs : List Arc) : Prop := ∀ a, a ∈ arcs ↔ ∃ i s : Nat, (i : Int) < m.1 ∧ (s : Int) < m.2.1 ∧ a = ((i : Int), ((s : Int), nextM m (i : Int) (s : Int)))

abbrev wholeN (m : Mach) (arcs : List Arc) : Net := (m.1, (m.2.1, (arcs, (bShl .u32 1 m.2.2.2.1, m.2.2.2.2))))

theorem VC29_of {m : Mach} (g : GoodM m) {K : Net → Prop} (h : ∀ arcs, arcs.length ≤ 60 → IsArcs m arcs → K (wholeN m arcs)) : VC29 m K := by
  obtain ⟨⟨a1, a2, a3, a4⟩, b, c, d, e⟩ := id g
  obtain ⟨N, hN⟩ : ∃ N : Nat, m.1 = (N : Int) := ⟨m.1.toNat, by omega⟩
  obtain ⟨Kn, hK⟩ : ∃ N : Nat, m.2.1 = (N : Int) := ⟨m.2.1.toNat, by omega⟩
  have hlen := b.1
  obtain ⟨d1, d2⟩ := d
  have hw : IntKind.wrap .u64 m.2.2.2.1 = m.2.2.2.1 := wrapU64 ⟨by omega, by omega⟩
  unfold VC29
  refine ⟨by rw [hw]; exact d1, ?_⟩
  refine loop_inv N (fun i arcs => arcs.length ≤ 3 * i ∧ ∀ a, a ∈ arcs ↔ ∃ i' s : Nat, i' < i ∧ (s : Int) < m.2.1 ∧ a = ((i' : Int), ((s : Int), nextM m (i' : Int) (s : Int)))) ⟨by simp, fun a => ⟨fun h => (by cases h), fun ⟨i', s, h1, _⟩ => absurd h1 (by omega)⟩⟩ ?_
  rintro i hi arcs ⟨hl, ha⟩ X hX
  unfold VC29_l1
  dsimp only
  refine ⟨fun hb => ?_, fun hb => ?_⟩
  · simp only [decide_eq_true_eq] at hb
    have hiN : i < N := by omega
    have hrow := rowLen' g (q := (i : Int)) ⟨by omega, by omega⟩
    rw [Int.toNat_natCast] at hrow
    refine ⟨⟨by omega, by omega⟩, ?_⟩
    refine loop_inv Kn (fun s arcs2 => arcs2.length ≤ 3 * i + s ∧ ∀ a, a ∈ arcs2 ↔ ∃ i' s' : Nat, (i' < i ∨ (i' = i ∧ s' < s)) ∧ (s' : Int) < m.2.1 ∧ a = ((i' : Int), ((s' : Int), nextM m (i' : Int) (s' : Int)))) ⟨by omega, fun a => ?_⟩ ?_
    · rw [ha]
      constructor
      · rintro ⟨i', s, h1, h2⟩; exact ⟨i', s, .inl h1, h2⟩
      · rintro ⟨i', s, h1, h2⟩; exact ⟨i', s, by omega, h2⟩
    rintro s hs arcs2 ⟨hl2, ha2⟩ Y hY
    unfold VC29_l2
    dsimp only
    simp only [Int.toNat_natCast]
    refine ⟨fun hc => ?_, fun hc => ?_⟩
    · simp only [decide_eq_true_eq] at hc
      refine ⟨⟨by omega, by omega⟩, by unfold roomN; simp only [List.length_cons, List.length_nil]; omega, ⟨by omega, by omega⟩, hY _ (by omega) ⟨by simp only [List.length_append, List.length_cons, List.length_nil]; omega, fun a => ?_⟩⟩
      have en : (m.2.2.1.getD i ([] : List Int)).getD s (0 : Int) = nextM m (i : Int) (s : Int) := rfl
      rw [en, List.mem_append, List.mem_singleton, ha2]
      constructor
      · rintro (⟨i', s', h1, h2⟩ | h1)
        · exact ⟨i', s', by omega, h2⟩
        · exact ⟨i, s, by omega, by omega, h1⟩
      · rintro ⟨i', s', h1, h2, h3⟩
        by_cases hh : i' < i ∨ (i' = i ∧ s' < s)
        · exact .inl ⟨i', s', hh, h2, h3⟩
        · have e1 : i' = i := by omega
          have e2 : s' = s := by omega
          subst e1 e2
          exact .inr h3
    · simp only [decide_eq_false_iff_not] at hc
      have : s = Kn := by omega
      subst this
      unfold VC29_k2
      refine ⟨⟨by omega, by omega⟩, hX _ hiN ⟨by omega, fun a => ?_⟩⟩
      rw [ha2]
      constructor
      · rintro ⟨i', s', h1, h2⟩; exact ⟨i', s', by omega, h2⟩
      · rintro ⟨i', s', h1, h2, h3⟩; exact ⟨i', s', by omega, h2, h3⟩
  · simp only [decide_eq_false_iff_not] at hb
    have : i = N := by omega
    subst this
    unfold VC29_k1
    rw [hw]
    refine h arcs (by omega) fun a => ?_
    rw [ha]
    constructor
    · rintro ⟨i', s, h1, h2⟩; exact ⟨i', s, by omega, h2⟩
    · rintro ⟨i', s, h1, h2⟩; exact ⟨i', s, by omega, h2⟩

theorem whole_nu {m : Mach} (hf : U32 m.2.2.2.2) (arcs : List Arc) : NU (wholeN m arcs) := ⟨u32_shl1 _, hf⟩

theorem whole_good {m : Mach} (g : GoodM m) {arcs : List Arc} (hl : arcs.length ≤ 60) (ha : IsArcs m arcs) : GoodN (wholeN m arcs) := by
  obtain ⟨⟨a1, a2, a3, a4⟩, b, c, d, e⟩ := id g
  obtain ⟨d1, d2⟩ := d
  refine ⟨⟨a1, a2, a3, a4, hl⟩, fun a hm => ?_, ?_, e⟩
  · obtain ⟨i, s, h1, h2, rfl⟩ := (ha a).1 hm
    have := next_good g (q := (i : Int)) (s := (s : Int)) ⟨by omega, h1⟩ ⟨by omega, h2⟩
    exact ⟨by dsimp only; omega, h1, this.1, this.2, by dsimp only; omega, h2⟩
  · show bShl .u32 1 m.2.2.2.1 < ((2 ^ m.1.toNat : Nat) : Int)
    obtain ⟨z, hz⟩ : ∃ z : Nat, m.2.2.2.1 = (z : Int) := ⟨m.2.2.2.1.toNat, by omega⟩
    rw [hz, below_bt (u32_shl1 _)]
    intro j hj
    rw [bt_shl1 (by omega)]
    exact decide_eq_false (by omega)

theorem np_from {m : Mach} {arcs : List Arc} (ha : IsArcs m arcs) {p q : Nat} {w : List Int} (h : NP (wholeN m arcs) p w q) : (q : Int) < m.1 → (p : Int) < m.1 := by
  induction h with
  | nil p => exact id
  | eps a hm hs hp h ih =>
    obtain ⟨i, s, h1, h2, rfl⟩ := (ha a).1 hm
    dsimp only at hs; omega
  | sym a hm hs h0 hp h ih =>
    obtain ⟨i, s, h1, h2, rfl⟩ := (ha a).1 hm
    dsimp only at hp
    intro _; omega

theorem np_run {m : Mach} (g : GoodM m) {arcs : List Arc} (ha : IsArcs m arcs) {p q : Nat} {w : List Int} (h : NP (wholeN m arcs) p w q) : (p : Int) < m.1 → (q : Int) = runM m (p : Int) w := by
  induction h with
  | nil p => intro _; rfl
  | eps a hm hs hp h ih =>
    obtain ⟨i, s, h1, h2, rfl⟩ := (ha a).1 hm
    dsimp only at hs; omega
  | sym a hm hs h0 hp h ih =>
    obtain ⟨i, s, h1, h2, rfl⟩ := (ha a).1 hm
    dsimp only at hs hp ih
    rw [Int.toNat_natCast] at hp
    subst hs hp
    have hn := next_good g (q := (i : Int)) (s := (s : Int)) ⟨by omega, h1⟩ ⟨by omega, h2⟩
    intro _
    have e : (((nextM m (i : Int) (s : Int)).toNat : Nat) : Int) = nextM m (i : Int) (s : Int) := by omega
    rw [e] at ih
    exact ih hn.2

theorem np_of_run {m : Mach} (g : GoodM m) {arcs : List Arc} (ha : IsArcs m arcs) : ∀ (w : List Int) (p : Nat), (p : Int) < m.1 → SymW m.2.1 w → NP (wholeN m arcs) p w (runM m (p : Int) w).toNat
  | [], p, _, _ => .nil p
  | s :: w, p, hp, hw => by
    have hs := hw s (by simp)
    have hn := next_good g (q := (p : Int)) (s := s) ⟨by omega, hp⟩ hs
    have e : (((nextM m (p : Int) s).toNat : Nat) : Int) = nextM m (p : Int) s := by omega
    have ih := np_of_run g ha w (nextM m (p : Int) s).toNat (by omega) (fun z hz => hw z (by simp [hz]))
    rw [e] at ih
    have es : ((s.toNat : Nat) : Int) = s := by omega
    refine .sym ((p : Int), (s, nextM m (p : Int) s)) ((ha _).2 ⟨p, s.toNat, hp, by omega, by rw [es]⟩) rfl hs.1 rfl ih

theorem symW_rev {k : Int} {w : List Int} (h : SymW k w) : SymW k w.reverse := fun s hs => h s (by simpa using hs)
theorem symW_app {k : Int} {u v : List Int} (hu : SymW k u) (hv : SymW k v) : SymW k (u ++ v) := fun s hs => (List.mem_append.1 hs).elim (hu s) (hv s)

theorem run_back {m : Mach} (g : GoodM m) (hf : U32 m.2.2.2.2) {arcs : List Arc} (ha : IsArcs m arcs) {u : List Int} {X : Int} (hu : SymW m.2.1 u) (h : IsRun (backN (wholeN m arcs)) (backN (wholeN m arcs)).2.2.2.1 u X) (q : Nat) :
    bt X q = true ↔ (q : Int) < m.1 ∧ accM m (q : Int) u.reverse = true := by
  obtain ⟨⟨a1, a2, a3, a4⟩, b, c, d, e⟩ := id g
  rw [h.2 q]
  have key : ∀ p, NP (backN (wholeN m arcs)) p u q ↔ NP (wholeN m arcs) q u.reverse p := fun p => by
    have := np_back_iff (n := wholeN m arcs) (p := q) (q := p) (w := u.reverse)
    rwa [List.reverse_reverse] at this
  constructor
  · rintro ⟨p, h1, h2⟩
    rw [key] at h2
    have h1' : bt m.2.2.2.2 p = true := h1
    have hp : (p : Int) < m.1 := by
      obtain ⟨N, hN⟩ : ∃ N : Nat, m.1 = (N : Int) := ⟨m.1.toNat, by omega⟩
      refine Classical.byContradiction fun hn => ?_
      have e' : m.2.2.2.2 < ((2 ^ m.1.toNat : Nat) : Int) := e
      rw [below_bt hf] at e'
      rw [e' p (by omega)] at h1'; cases h1'
    have hq := np_from ha h2 hp
    have := np_run g ha h2 hq
    refine ⟨hq, ?_⟩
    unfold accM
    rw [← this, Int.toNat_natCast]
    exact h1'
  · rintro ⟨hq, h1⟩
    exact ⟨_, h1, (key _).2 (np_of_run g ha _ q hq (symW_rev hu))⟩

theorem run_back_fin {m : Mach} (g : GoodM m) (hf : U32 m.2.2.2.2) {arcs : List Arc} (ha : IsArcs m arcs) {u : List Int} {X : Int} (hu : SymW m.2.1 u) (h : IsRun (backN (wholeN m arcs)) (backN (wholeN m arcs)).2.2.2.1 u X) :
    (!decide (bAnd .u32 X (backN (wholeN m arcs)).2.2.2.2 = 0)) = accM m m.2.2.2.1 u.reverse := by
  obtain ⟨⟨a1, a2, a3, a4⟩, b, c, d, e⟩ := id g
  obtain ⟨d1, d2⟩ := d
  obtain ⟨z, hz⟩ : ∃ z : Nat, m.2.2.2.1 = (z : Int) := ⟨m.2.2.2.1.toNat, by omega⟩
  have hs : ∀ q, bt (backN (wholeN m arcs)).2.2.2.2 q = decide (z = q) := fun q => by
    show bt (bShl .u32 1 m.2.2.2.1) q = _
    rw [hz, bt_shl1 (by omega)]
  rw [Bool.eq_iff_iff, takes_iff h.1 (show U32 (backN (wholeN m arcs)).2.2.2.2 from u32_shl1 _), hz]
  constructor
  · rintro ⟨q, h1, h2⟩
    rw [hs q] at h2
    have := of_decide_eq_true h2
    subst this
    exact ((run_back g hf ha hu h z).1 h1).2
  · intro h1
    exact ⟨z, (run_back g hf ha hu h z).2 ⟨by omega, h1⟩, by rw [hs]; simp⟩

theorem leastBack {m : Mach} (hm : Ok MachT m) : VC9 m (fun b => b = true) := by
  have hu := ok_mach hm
  unfold VC9
  refine VC25_of hm (fun e he hno => VC26_of hm ⟨fun _ => (by simpa using he), fun hc => absurd ((chkM_zero m).1 (by simpa using hc)) hno⟩) (fun g => VC26_of hm ⟨fun hc => ?_, fun _ => ⟨fun hc => ?_, fun _ => ?_⟩⟩)
  · rw [(chkM_zero m).2 g] at hc; simp at hc
  · exfalso
    have := (least_few g).1
    dsimp only at hc
    rw [Bool.or_eq_true] at hc
    rcases hc with hc | hc
    · simp at hc
    · have := of_decide_eq_true hc
      omega
  refine VC29_of g fun arcs hal ha => ?_
  have wg := whole_good g hal ha
  have wu := whole_nu hu arcs
  refine VC23_of wu (fun _ _ _ hno _ => absurd wg hno) fun _ => ?_
  have bg := back_good wg
  have bu : NU (backN (wholeN m arcs)) := ⟨wu.2, wu.1⟩
  refine VC24_of bu (fun e he hno => absurd bg hno) (fun _ => ⟨fun hc => (by simp at hc), fun _ => ⟨fun _ => (by simp), fun hc => (by simp at hc)⟩⟩) (fun _ out sets rows hl hI => ⟨fun hc => (by simp at hc), fun _ => ⟨fun hc => (by simp at hc), fun _ => ?_⟩⟩)
  have gs := mk_good bg hl hI
  obtain ⟨s, hs⟩ : ∃ s, s = mkM (backN (wholeN m arcs)) out sets rows := ⟨_, rfl⟩
  have hsu : U32 s.2.2.2.2 := by rw [hs]; exact hI.u32
  have hacc : ∀ (t : Nat) (v w : List Int), t < sets.length → SymW m.2.1 v → SymW m.2.1 w → IsRun (backN (wholeN m arcs)) (backN (wholeN m arcs)).2.2.2.1 v (sets.getD t 0) → accM s (t : Int) w = accM m m.2.2.2.1 (v ++ w).reverse := by
    intro t v w ht hv hw hr
    obtain ⟨t2, h1, h2, h3⟩ := mk_run hI w v t ht hr hw
    rw [← hs] at h2
    unfold accM
    rw [h2, Int.toNat_natCast]
    have e : bt s.2.2.2.2 t2 = bt out t2 := by rw [hs]
    rw [e, hI.bit t2, decide_eq_true h1, Bool.true_and]
    exact run_back_fin g hu ha (symW_app hv hw) h3
  have hsN : s.1 = (sets.length : Int) := by rw [hs]
  have hsK : s.2.1 = m.2.1 := by rw [hs]; rfl
  have hsS : s.2.2.2.1 = 0 := by rw [hs]
  have hreach : ∀ w, SymW m.2.1 w → ∃ t : Nat, t < sets.length ∧ IsRun (backN (wholeN m arcs)) (backN (wholeN m arcs)).2.2.2.1 w (sets.getD t 0) := fun w hw => by
    obtain ⟨t, h1, _, h3⟩ := mk_run hI w [] 0 hI.pos hI.first hw
    exact ⟨t, h1, by simpa using h3⟩
  have hruns : ∀ t : Nat, t < sets.length → ∃ v, SymW m.2.1 v ∧ IsRun (backN (wholeN m arcs)) (backN (wholeN m arcs)).2.2.2.1 v (sets.getD t 0) := fun t ht => hI.runs _ (getD_mem ht)
  have hfirst := hI.first
  have hpos := hI.pos
  show VC29 (mkM (backN (wholeN m arcs)) out sets rows) _
  rw [← hs] at gs ⊢
  clear hs hI
  refine VC29_of gs fun arcs2 hal2 ha2 => ?_
  have wg2 := whole_good gs hal2 ha2
  have wu2 := whole_nu hsu arcs2
  refine VC23_of wu2 (fun _ _ _ hno _ => absurd wg2 hno) fun _ => ?_
  have bg2 := back_good wg2
  have bu2 : NU (backN (wholeN s arcs2)) := ⟨wu2.2, wu2.1⟩
  have gn := g.2.2.2.1
  -- a set of states says which words behind it are taken
  have bits : ∀ u X, SymW m.2.1 u → IsRun (backN (wholeN s arcs2)) (backN (wholeN s arcs2)).2.2.2.1 u X → ∀ (q : Nat) (v : List Int), q < sets.length → SymW m.2.1 v → IsRun (backN (wholeN m arcs)) (backN (wholeN m arcs)).2.2.2.1 v (sets.getD q 0) →
      (bt X q = true ↔ accM m (runM m m.2.2.2.1 u) v.reverse = true) := by
    intro u X hsu' hr q v hq hv hrv
    rw [run_back gs hsu ha2 (by rw [hsK]; exact hsu') hr q, hacc q v u.reverse hq hv (symW_rev hsu') hrv, hsN]
    have e : accM m m.2.2.2.1 (v ++ u.reverse).reverse = accM m (runM m m.2.2.2.1 u) v.reverse := by
      unfold accM
      rw [List.reverse_append, List.reverse_reverse, runM_append]
    rw [e]
    exact ⟨fun h => h.2, fun h => ⟨by omega, h⟩⟩
  have out_ : ∀ u X, SymW m.2.1 u → IsRun (backN (wholeN s arcs2)) (backN (wholeN s arcs2)).2.2.2.1 u X → ∀ q : Nat, sets.length ≤ q → bt X q = false := by
    intro u X hsu' hr q hq
    cases hb : bt X q with
    | false => rfl
    | true =>
      have := ((run_back gs hsu ha2 (by rw [hsK]; exact hsu') hr q).1 hb).1
      omega
  refine VC24_mir (m := m) bg2 bu2 g hsK (fun X x => ∃ u, SymW m.2.1 u ∧ IsRun (backN (wholeN s arcs2)) (backN (wholeN s arcs2)).2.2.2.1 u X ∧ EqM m (runM m m.2.2.2.1 u) x) ?_ ?_ ?_ ?_ ?_ ?_
  · rintro X x ⟨u, _, h, _⟩; exact ⟨u, h⟩
  · intro r hr
    exact ⟨[], fun z hz => (by cases hz), hr, (cl_good gn).2.2⟩
  · rintro X x u z r ⟨u', hu', hr', he'⟩ hx hz hru hrr
    refine ⟨u' ++ [z], symW_app hu' (fun y hy => by rw [List.mem_singleton.1 hy]; exact hz), isRun_step hru hr' hrr, ?_⟩
    rw [runM_append]
    exact (he'.next hz).trans (cl_good (next_good g hx hz)).2.2
  · rintro X x X' x' ⟨u, hsu1, hr, he⟩ ⟨u', hsu2, hr', he'⟩ hx hx'
    constructor
    · intro e
      subst e
      have : EqM m (runM m m.2.2.2.1 u) (runM m m.2.2.2.1 u') := by
        intro w hw
        obtain ⟨t, h1, h2⟩ := hreach w.reverse (symW_rev hw)
        have b1 := bits u X hsu1 hr t w.reverse h1 (symW_rev hw) h2
        have b2 := bits u' X hsu2 hr' t w.reverse h1 (symW_rev hw) h2
        rw [List.reverse_reverse] at b1 b2
        rw [Bool.eq_iff_iff, ← b1, b2]
      exact rep_eq hx.1.1 hx'.1.1 hx.2 hx'.2 (he.symm.trans (this.trans he'))
    · intro e
      subst e
      have hee := he.trans he'.symm
      refine u32_ext hr.1 hr'.1 fun q _ => ?_
      by_cases hq : q < sets.length
      · obtain ⟨v, hv, hrv⟩ := hruns q hq
        rw [Bool.eq_iff_iff, bits u X hsu1 hr q v hq hv hrv, bits u' X' hsu2 hr' q v hq hv hrv, hee _ (symW_rev hv)]
      · rw [out_ u X hsu1 hr q (by omega), out_ u' X' hsu2 hr' q (by omega)]
  · rintro X x ⟨u, hsu1, hr, he⟩ hx
    rw [run_back_fin gs hsu ha2 (by rw [hsK]; exact hsu1) hr, hsS]
    have := hacc 0 [] u.reverse hpos (fun z hz => (by cases hz)) (symW_rev hsu1) hfirst
    have h2 := he [] (fun z hz => (by cases hz))
    rw [List.nil_append, List.reverse_reverse] at this
    rw [show ((0 : Nat) : Int) = 0 from rfl] at this
    rw [this]
    exact h2
  · have gl := least_good g
    generalize leastF m = x at gl ⊢
    dsimp only
    refine gcall_of (decide (x = x)) (fun _ hk => VC28_of gl hk) ?_
    simp
end Dec
