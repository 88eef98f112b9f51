/-
  The least machine in plain Lean.
-/
import Derived.Test.YtfigkkmiallghaaMoore
import Derived.Test.YtfigkkmiallghaaGenAd
set_option linter.unusedSimpArgs false
set_option linter.unusedVariables false
namespace Dec
open Go Go.Proofs

/-- no word parts two states -/
def EqM (m : Mach) (x y : Int) : Prop := ∀ w, SymW m.2.1 w → accM m x w = accM m y w

theorem EqM.rfl' (m : Mach) (x : Int) : EqM m x x := fun _ _ => rfl
theorem EqM.symm {m : Mach} {x y : Int} (h : EqM m x y) : EqM m y x := fun w hw => (h w hw).symm
theorem EqM.trans {m : Mach} {x y z : Int} (h : EqM m x y) (h' : EqM m y z) : EqM m x z := fun w hw => (h w hw).trans (h' w hw)
theorem EqM.next {m : Mach} {x y : Int} (h : EqM m x y) {s : Int} (hs : 0 ≤ s ∧ s < m.2.1) : EqM m (nextM m x s) (nextM m y s) := by
  intro w hw
  have := h (s :: w) (fun z hz => by
    rw [List.mem_cons] at hz
    rcases hz with rfl | hz
    · exact hs
    · exact hw z hz)
  exact this

abbrev Pmap := List ((Int × Int) × Int)
def inP (p : Pmap) (i k : Int) : Bool := (mget p (i, k)).isSome

theorem inP_mset (p : Pmap) (i k i' k' : Int) : inP (mset p (i, k) 1) i' k' = (decide (i' = i ∧ k' = k) || inP p i' k') := by
  unfold inP
  rw [mget_mset]
  by_cases h : i' = i ∧ k' = k
  · obtain ⟨rfl, rfl⟩ := h
    simp
  · have : ¬ (i', k') = (i, k) := by
      intro e
      injection e with e1 e2
      exact h ⟨e1, e2⟩
    rw [if_neg this]
    simp [h]

noncomputable def hP (p : Pmap) : Nat := howMany (fun c => inP p ((c / 7 : Nat) : Int) ((c % 7 : Nat) : Int) = true) 49

theorem hP_le (p : Pmap) : hP p ≤ 49 := howMany_le _ _

theorem hP_lt {p : Pmap} {i k : Nat} (hi : i < 7) (hk : k < 7) (h : inP p (i : Int) (k : Int) = false) : hP p < hP (mset p ((i : Int), (k : Int)) 1) := by
  refine howMany_lt 49 (fun c _ hc => by rw [inP_mset, hc, Bool.or_true]) ⟨i * 7 + k, by omega, ?_, ?_⟩
  · have e1 : (i * 7 + k) / 7 = i := by omega
    have e2 : (i * 7 + k) % 7 = k := by omega
    rw [inP_mset, e1, e2]; simp
  · have e1 : (i * 7 + k) / 7 = i := by omega
    have e2 : (i * 7 + k) % 7 = k := by omega
    rw [e1, e2, h]; simp

/-- what is parted is parted by some word -/
def PSound (m : Mach) (p : Pmap) : Prop := ∀ i k, inP p i k = true → ¬ EqM m i k

/-- nothing more can be told of these two -/
def PClosed (m : Mach) (p : Pmap) (i k : Int) : Prop := inP p i k = false → bt m.2.2.2.2 i.toNat = bt m.2.2.2.2 k.toNat ∧ ∀ s, 0 ≤ s ∧ s < m.2.1 → inP p (nextM m i s) (nextM m k s) = false

theorem closed_eq {m : Mach} (g : GoodM m) {p : Pmap} (h : ∀ i k, (0 ≤ i ∧ i < m.1) → (0 ≤ k ∧ k < m.1) → PClosed m p i k) : ∀ (w : List Int) (i k : Int), (0 ≤ i ∧ i < m.1) → (0 ≤ k ∧ k < m.1) → SymW m.2.1 w → inP p i k = false → accM m i w = accM m k w
  | [], i, k, hi, hk, _, hn => (h i k hi hk hn).1
  | s :: w, i, k, hi, hk, hw, hn => by
    have hs := hw s (by simp)
    exact closed_eq g h w _ _ (next_good g hi hs) (next_good g hk hs) (fun z hz => hw z (by simp [hz])) ((h i k hi hk hn).2 s hs)

def PExact (m : Mach) (p : Pmap) : Prop := ∀ i k, (0 ≤ i ∧ i < m.1) → (0 ≤ k ∧ k < m.1) → (inP p i k = true ↔ ¬ EqM m i k)

/-- what the search for parted pairs keeps within a round -/
structure PInv (m : Mach) (p0 : Pmap) (done : Nat → Nat → Prop) (grown : Bool) (p : Pmap) : Prop where
  sound : PSound m p
  still : grown = false → p = p0 ∧ ∀ i k : Nat, (i : Int) < m.1 → (k : Int) < m.1 → done i k → PClosed m p0 (i : Int) (k : Int)
  more : grown = true → hP p0 < hP p

theorem VC67_of {m : Mach} (hm : Ok MachT m) (g : GoodM m) {K : Pmap → Prop} (h : ∀ p, PExact m p → K p) : VC67 m K := by
  have hu := ok_mach hm
  obtain ⟨⟨a1, a2, a3, a4⟩, b, c, d, e⟩ := id g
  obtain ⟨N, hN⟩ : ∃ N : Nat, m.1 = (N : Int) := ⟨m.1.toNat, by omega⟩
  obtain ⟨Kn, hK⟩ : ∃ N : Nat, m.2.1 = (N : Int) := ⟨m.2.1.toNat, by omega⟩
  have hlen := b.1
  unfold VC67
  refine Loop.by (fun s : Bool × Pmap => PSound m s.2 ∧ (s.1 = false → ∀ i k, (0 ≤ i ∧ i < m.1) → (0 ≤ k ∧ k < m.1) → PClosed m s.2 i k)) (fun s => 2 * (49 - hP s.2) + (if s.1 then 1 else 0)) ⟨fun i k hh => by simp [inP, mget] at hh, fun hh => (by cases hh)⟩ ?_
  rintro ⟨grown, p0⟩ ⟨hs0, hc0⟩ X hX
  dsimp only at hs0 hc0
  dsimp only
  unfold VC67_l1
  refine ⟨fun hg => ?_, fun hg => ?_⟩
  · refine Loop.by (fun s : Bool × Int × Pmap => ∃ i : Nat, i ≤ N ∧ s.2.1 = (i : Int) ∧ PInv m p0 (fun i' k' => i' < i) s.1 s.2.2) (fun s => ((N : Int) - s.2.1).toNat) ⟨0, by omega, rfl, hs0, fun _ => ⟨rfl, fun i k _ _ hd => absurd hd (by omega)⟩, fun hh => (by cases hh)⟩ ?_
    rintro ⟨g1, c1, p1⟩ ⟨i, hi, e1, hI⟩ X1 hX1
    dsimp only at e1 hI
    subst e1
    dsimp only
    unfold VC67_l2
    refine ⟨fun hlt => ?_, fun hge => ?_⟩
    · simp only [decide_eq_true_eq] at hlt
      refine Loop.by (fun s : Bool × Int × Pmap => ∃ k : Nat, k ≤ N ∧ s.2.1 = (k : Int) ∧ PInv m p0 (fun i' k' => i' < i ∨ (i' = i ∧ k' < k)) s.1 s.2.2) (fun s => ((N : Int) - s.2.1).toNat) ⟨0, by omega, rfl, hI.sound, fun hh => ⟨(hI.still hh).1, fun i' k' h1 h2 hd => (hI.still hh).2 i' k' h1 h2 (by omega)⟩, hI.more⟩ ?_
      rintro ⟨g2, c2, p2⟩ ⟨k, hk, e2, hJ⟩ X2 hX2
      dsimp only at e2 hJ
      subst e2
      dsimp only
      unfold VC67_l3
      refine ⟨fun hlt2 => ?_, fun hge2 => ?_⟩
      · simp only [decide_eq_true_eq] at hlt2
        have hi2 : (0 : Int) ≤ (i : Int) ∧ (i : Int) < m.1 := ⟨by omega, hlt⟩
        have hk2 : (0 : Int) ≤ (k : Int) ∧ (k : Int) < m.1 := ⟨by omega, hlt2⟩
        refine ⟨fun hin => ?_, fun hin => VC42_of hu hi2.1 (VC42_of hu hk2.1 ?_)⟩
        · unfold VC67_k4
          refine ⟨⟨by omega, by omega⟩, hX2 _ ⟨k + 1, by omega, by simp, hJ.sound, fun hh => ⟨(hJ.still hh).1, fun i' k' h1 h2 hd => ?_⟩, hJ.more⟩ (by simp only; omega)⟩
          by_cases hd2 : i' < i ∨ (i' = i ∧ k' < k)
          · exact (hJ.still hh).2 i' k' h1 h2 hd2
          · have e1 : i' = i := by omega
            have e2 : k' = k := by omega
            subst e1 e2
            intro hf
            rw [← (hJ.still hh).1] at hf
            have : inP p2 (i' : Int) (k' : Int) = true := hin
            rw [this] at hf; cases hf
        · have hin' : inP p2 (i : Int) (k : Int) = false := hin
          refine Loop.by (fun s : Bool × Int => ∃ t : Nat, t ≤ Kn ∧ s.2 = (t : Int) ∧ (s.1 = true ↔ (bt m.2.2.2.2 i ≠ bt m.2.2.2.2 k ∨ ∃ u : Nat, u < t ∧ inP p2 (nextM m i u) (nextM m k u) = true))) (fun s => ((Kn : Int) - s.2).toNat) ⟨0, by omega, rfl, ?_⟩ ?_
          · simp
          rintro ⟨is, c3⟩ ⟨t, ht, e3, hiff⟩ X3 hX3
          dsimp only at e3 hiff
          subst e3
          dsimp only
          unfold VC67_l4
          have hra := b.2 _ (getD_mem (d := ([] : List Int)) (i := i) (l := m.2.2.1) (by omega))
          have hrb := b.2 _ (getD_mem (d := ([] : List Int)) (i := k) (l := m.2.2.1) (by omega))
          refine ⟨fun hlt3 => ?_, fun hge3 => ?_⟩
          · simp only [decide_eq_true_eq] at hlt3
            simp only [Int.toNat_natCast]
            refine ⟨⟨by omega, by omega⟩, ⟨by omega, by omega⟩, ⟨by omega, by omega⟩, ⟨by omega, by omega⟩, ⟨by omega, by omega⟩, hX3 _ ⟨t + 1, by omega, by simp, ?_⟩ (by simp only; omega)⟩
            have ein : (mget p2 ((m.2.2.1.getD i ([] : List Int)).getD t (0 : Int), (m.2.2.1.getD k ([] : List Int)).getD t (0 : Int))).isSome = inP p2 (nextM m i t) (nextM m k t) := rfl
            simp only [ein, Bool.or_eq_true, hiff]
            constructor
            · rintro ((h1 | ⟨u, h1, h2⟩) | h1)
              · exact .inl h1
              · exact .inr ⟨u, by omega, h2⟩
              · exact .inr ⟨t, by omega, h1⟩
            · rintro (h1 | ⟨u, h1, h2⟩)
              · exact .inl (.inl h1)
              · by_cases hut : u = t
                · subst hut; exact .inr h2
                · exact .inl (.inr ⟨u, by omega, h2⟩)
          · simp only [decide_eq_false_iff_not] at hge3
            have : t = Kn := by omega
            subst this
            unfold VC67_k5
            refine ⟨fun his => ?_, fun his => ?_⟩
            · have hne : ¬ EqM m (i : Int) (k : Int) := by
                intro heq
                rcases hiff.1 his with h1 | ⟨u, h1, h2⟩
                · exact h1 (by have := heq [] (fun z hz => by cases hz); exact this)
                · exact hJ.sound _ _ h2 (heq.next ⟨by omega, by omega⟩)
              unfold VC67_k6 VC67_k4
              have hlt7 := hP_lt (p := p2) (i := i) (k := k) (by omega) (by omega) hin'
              refine ⟨⟨by omega, by omega⟩, hX2 _ ⟨k + 1, by omega, by simp, fun i' k' hh => ?_, fun hh => (by cases hh), fun _ => ?_⟩ (by simp only; omega)⟩
              · dsimp only at hh
                rw [inP_mset, Bool.or_eq_true] at hh
                rcases hh with hh | hh
                · simp only [decide_eq_true_eq] at hh
                  rw [hh.1, hh.2]; exact hne
                · exact hJ.sound _ _ hh
              · dsimp only
                cases hg2 : g2 with
                | false => rw [← (hJ.still hg2).1]; exact hlt7
                | true => have := hJ.more hg2; omega
            · unfold VC67_k6 VC67_k4
              refine ⟨⟨by omega, by omega⟩, hX2 _ ⟨k + 1, by omega, by simp, hJ.sound, fun hh => ⟨(hJ.still hh).1, fun i' k' h1 h2 hd => ?_⟩, hJ.more⟩ (by simp only; omega)⟩
              by_cases hd2 : i' < i ∨ (i' = i ∧ k' < k)
              · exact (hJ.still hh).2 i' k' h1 h2 hd2
              · have e1 : i' = i := by omega
                have e2 : k' = k := by omega
                subst e1 e2
                intro _
                have hnot : ¬ (bt m.2.2.2.2 i' ≠ bt m.2.2.2.2 k' ∨ ∃ u : Nat, u < t ∧ inP p2 (nextM m i' u) (nextM m k' u) = true) := fun hh2 => by
                  have := hiff.2 hh2
                  rw [his] at this; cases this
                refine ⟨?_, fun s hs => ?_⟩
                · simp only [Int.toNat_natCast]
                  exact Classical.byContradiction fun hn => hnot (.inl hn)
                · rw [← (hJ.still hh).1]
                  obtain ⟨u, rfl⟩ : ∃ u : Nat, s = (u : Int) := ⟨s.toNat, by omega⟩
                  cases hx : inP p2 (nextM m i' u) (nextM m k' u) with
                  | false => rfl
                  | true => exact absurd (.inr ⟨u, by omega, hx⟩) hnot
      · simp only [decide_eq_false_iff_not] at hge2
        unfold VC67_k3
        refine ⟨⟨by omega, by omega⟩, hX1 _ ⟨i + 1, by omega, by simp, hJ.sound, fun hh => ⟨(hJ.still hh).1, fun i' k' h1 h2 hd => (hJ.still hh).2 i' k' h1 h2 (by omega)⟩, hJ.more⟩ (by simp only; omega)⟩
    · simp only [decide_eq_false_iff_not] at hge
      unfold VC67_k2
      refine hX _ ⟨hI.sound, fun hh i' k' h1 h2 => ?_⟩ ?_
      · dsimp only at hh ⊢
        obtain ⟨u, rfl⟩ : ∃ u : Nat, i' = (u : Int) := ⟨i'.toNat, by omega⟩
        obtain ⟨v, rfl⟩ : ∃ u : Nat, k' = (u : Int) := ⟨k'.toNat, by omega⟩
        have := (hI.still hh).2 u v h1.2 h2.2 (by omega)
        rw [(hI.still hh).1]
        exact this
      · dsimp only
        rw [hg]
        have h1 := hP_le p0
        have h2 := hP_le p1
        cases hg1 : g1 with
        | false => rw [(hI.still hg1).1]; simp
        | true => have := hI.more hg1; simp; omega
  · unfold VC67_k1
    refine h p0 fun i k hi hk => ⟨hs0 i k, fun hne => ?_⟩
    cases hx : inP p0 i k with
    | true => rfl
    | false => exact absurd (fun w hw => closed_eq g (hc0 hg) w i k hi hk hw hx) hne

theorem exists_least {P : Nat → Prop} : ∀ n, P n → ∃ k, k ≤ n ∧ P k ∧ ∀ j, j < k → ¬ P j := by
  intro n
  induction n using Nat.strongRecOn with
  | _ n ih =>
    intro hn
    by_cases h : ∃ j, j < n ∧ P j
    · obtain ⟨j, hj, hp⟩ := h
      obtain ⟨k, h1, h2, h3⟩ := ih j hj hp
      exact ⟨k, by omega, h2, h3⟩
    · exact ⟨n, Nat.le_refl _, hn, fun j hj hp => h ⟨j, hj, hp⟩⟩

/-- the smallest state that no word parts from it -/
noncomputable def clI (m : Mach) (i : Nat) : Nat := Classical.choose (exists_least (P := fun k => EqM m (i : Int) (k : Int)) i (EqM.rfl' m _))
theorem clI_spec (m : Mach) (i : Nat) : clI m i ≤ i ∧ EqM m (i : Int) (clI m i : Int) ∧ ∀ j, j < clI m i → ¬ EqM m (i : Int) (j : Int) :=
  Classical.choose_spec (exists_least (P := fun k => EqM m (i : Int) (k : Int)) i (EqM.rfl' m _))

noncomputable def clM (m : Mach) : List Int := (List.range m.1.toNat).map fun (i : Nat) => (clI m i : Int)

theorem clM_len (m : Mach) : (clM m).length = m.1.toNat := by simp [clM]
theorem clM_get {m : Mach} {x : Int} (hx : 0 ≤ x ∧ x < m.1) : (clM m).getD x.toNat 0 = (clI m x.toNat : Int) := by
  rw [clM, getD_lt _ (by simp; omega)]; simp

theorem VC48_of {m : Mach} (hm : Ok MachT m) (g : GoodM m) {K : List Int → Prop} (h : K (clM m)) : VC48 m K := by
  obtain ⟨⟨a1, a2, a3, a4⟩, b, c, d, e⟩ := id g
  obtain ⟨N, hN⟩ : ∃ N : Nat, m.1 = (N : Int) := ⟨m.1.toNat, by omega⟩
  have hNn : m.1.toNat = N := by omega
  unfold VC48
  refine VC67_of hm g fun p hp => ⟨⟨by omega, by omega⟩, ?_⟩
  refine loop_inv N (fun v out => out.length = N ∧ ∀ u, u < v → out.getD u 0 = (clI m u : Int)) ⟨by simp [hNn], fun u hu => absurd hu (by omega)⟩ ?_
  rintro v hv out ⟨hl, ho⟩ X hX
  try dsimp only
  unfold VC48_l1
  simp only [List.length_replicate, hNn]
  refine ⟨fun hlt => ?_, fun hge => ?_⟩
  · simp only [decide_eq_true_eq] at hlt
    have hvN : v < N := by omega
    obtain ⟨k1, k2, k3⟩ := clI_spec m v
    refine loop_count N (fun k => k ≤ clI m v) (Nat.zero_le _) ?_
    intro k hk hkc X2 hX2
    unfold VC48_l2
    refine ⟨fun hlt2 => ?_, fun hge2 => ?_⟩
    · simp only [decide_eq_true_eq] at hlt2
      have hex := hp (v : Int) (k : Int) ⟨by omega, by omega⟩ ⟨by omega, by omega⟩
      refine ⟨fun hno => ⟨⟨by omega, by omega⟩, ?_⟩, fun hyes => ⟨⟨by omega, by omega⟩, hX2 (by omega) ?_⟩⟩
      · have hf : inP p (v : Int) (k : Int) = false := by
          have : (!(inP p (v : Int) (k : Int))) = true := hno
          simpa using this
        have heq : EqM m (v : Int) (k : Int) := Classical.byContradiction fun hn => by
          rw [hex.2 hn] at hf; cases hf
        have : k = clI m v := by
          refine Classical.byContradiction fun hn => k3 k (by omega) heq
        unfold VC48_k2
        simp only [Int.toNat_natCast]
        refine ⟨⟨by omega, by omega⟩, hX _ hvN ⟨by simpa using hl, fun u hu => ?_⟩⟩
        by_cases huv : u = v
        · subst huv
          rw [getD_lt _ (by simp; omega), List.getElem_set_self, this]
        · rw [getD_lt _ (by simp; omega), List.getElem_set_ne (by omega)]
          have := ho u (by omega)
          rwa [getD_lt _ (by omega)] at this
      · have ht : inP p (v : Int) (k : Int) = true := by
          have : (!(inP p (v : Int) (k : Int))) = false := hyes
          simpa using this
        have hne := hex.1 ht
        have : k ≠ clI m v := by
          intro e
          rw [e] at hne
          exact hne k2
        omega
    · simp only [decide_eq_false_iff_not] at hge2
      omega
  · simp only [decide_eq_false_iff_not] at hge
    have : v = N := by omega
    subst this
    have : out = clM m := by
      refine ext_getD 0 (by rw [clM_len, hl, hNn]) fun u hu => ?_
      rw [ho u (by omega)]
      have := clM_get (m := m) (x := (u : Int)) ⟨by omega, by omega⟩
      simpa using this.symm
    subst this
    unfold VC48_k1
    exact h
end Dec
