/-
  'MachineSets' in plain Lean: the machine of both.
-/
import Derived.Test.YtfigkkmiallghaaMFront
set_option linter.unusedSimpArgs false
set_option linter.unusedVariables false
namespace Dec
open Go Go.Proofs

/-- a loop that counts, with an invariant of its state -/
theorem loop_inv {τ : Type} {B : Int × τ → (Int × τ → Prop) → Prop} (n : Nat) (I : Nat → τ → Prop) {s0 : τ} (h0 : I 0 s0)
    (h : ∀ i : Nat, i ≤ n → ∀ s, I i s → ∀ X : Int × τ → Prop, (∀ s', i < n → I (i + 1) s' → X ((i : Int) + 1, s')) → B ((i : Int), s) X) : Loop B (0, s0) := by
  refine Loop.by (fun s => ∃ i : Nat, i ≤ n ∧ I i s.2 ∧ s.1 = (i : Int)) (fun s => ((n : Int) - s.1).toNat) ⟨0, by omega, h0, rfl⟩ ?_
  rintro ⟨c, s⟩ ⟨i, hi, hP, rfl⟩ X hX
  exact h i hi s hP X fun s' hlt hP' => hX _ ⟨i + 1, by omega, hP', by simp⟩ (by simp only; omega)

theorem small_mul {x y : Int} (hx : 0 ≤ x ∧ x ≤ 7) (hy : 0 ≤ y ∧ y ≤ 7) : 0 ≤ x * y ∧ x * y ≤ 49 :=
  ⟨Int.mul_nonneg hx.1 hy.1, by have := Int.mul_le_mul hx.2 hy.2 hy.1 (by omega : (0:Int) ≤ 7); omega⟩

def rowB (a b : Mach) (i j : Nat) : List Int := (List.range a.2.1.toNat).map fun (s : Nat) => nextM a (i : Int) (s : Int) * b.1 + nextM b (j : Int) (s : Int)

structure TInv (a b : Mach) (nb t : Nat) (out : Int) (rows : List (List Int)) : Prop where
  len : rows.length = t
  row : ∀ u, u < t → rows.getD u [] = rowB a b (u / nb) (u % nb)
  u32 : U32 out
  bit : ∀ u, bt out u = (decide (u < t) && (bt a.2.2.2.2 (u / nb) && bt b.2.2.2.2 (u % nb)))

theorem tinv_zero (a b : Mach) (nb : Nat) : TInv a b nb 0 0 [] := ⟨rfl, by intro u hu; omega, u32_zero, by intro u; simp [bt_zero]⟩

theorem divmod {i j nb : Nat} (h : j < nb) : (i * nb + j) / nb = i ∧ (i * nb + j) % nb = j := by
  have h0 : 0 < nb := by omega
  constructor
  · rw [Nat.mul_comm, Nat.mul_add_div h0, Nat.div_eq_of_lt h]; rfl
  · rw [Nat.mul_comm, Nat.mul_add_mod, Nat.mod_eq_of_lt h]

theorem tinv_step {a b : Mach} {nb i j : Nat} {out : Int} {rows : List (List Int)} (h : TInv a b nb (i * nb + j) out rows) (hj : j < nb) (ht : i * nb + j < 32) :
    TInv a b nb (i * nb + j + 1) (if bt a.2.2.2.2 i && bt b.2.2.2.2 j then bOr .u32 out (bShl .u32 1 ((i * nb + j : Nat) : Int)) else out) (rows ++ [rowB a b i j]) := by
  obtain ⟨h1, h2⟩ := divmod (i := i) hj
  refine ⟨by simp [h.len], fun u hu => ?_, ?_, fun u => ?_⟩
  · by_cases hut : u < i * nb + j
    · have := h.row u hut
      rw [getD_lt _ (by rw [h.len]; omega)] at this
      rw [getD_lt _ (by simp [h.len]; omega), List.getElem_append_left (by rw [h.len]; omega)]
      exact this
    · have : u = i * nb + j := by omega
      subst this
      rw [getD_lt _ (by simp [h.len]), List.getElem_append_right (by rw [h.len]; omega)]
      simp [h1, h2]
  · split
    · exact u32_or h.u32 (u32_shl1 _)
    · exact h.u32
  · by_cases hut : u = i * nb + j
    · subst hut
      rw [h1, h2]
      have hb := h.bit (i * nb + j)
      simp at hb
      split
      · rename_i hc
        rw [bt_or h.u32 (u32_shl1 _), bt_shl1 ht]
        simp at hc
        simp [hc]
      · rename_i hc
        rw [hb]
        simp at hc
        simp
        exact fun e => hc e
    · have hb := h.bit u
      have e : decide (u < i * nb + j + 1) = decide (u < i * nb + j) := by
        by_cases h3 : u < i * nb + j
        · simp [h3]; omega
        · have : ¬ u < i * nb + j + 1 := by omega
          simp [h3, this]
      rw [e, ← hb]
      split
      · rw [bt_or h.u32 (u32_shl1 _), bt_shl1 ht]
        simp; omega
      · rfl

structure BothM (a b m : Mach) : Prop where
  n : m.1 = a.1 * b.1
  k : m.2.1 = a.2.1
  start : m.2.2.2.1 = a.2.2.2.1 * b.1 + b.2.2.2.1
  inv : TInv a b b.1.toNat (a.1.toNat * b.1.toNat) m.2.2.2.2 m.2.2.1

theorem VC19_of {a b : Mach} (ha : Ok MachT a) (hb : Ok MachT b) (ga : GoodM a) (gb : GoodM b) {K : Mach × Int → Prop}
    (h1 : ¬ (a.2.1 = b.2.1 ∧ a.1 * b.1 ≤ 7) → ∀ m e, e ≠ 0 → K (m, e))
    (h2 : a.2.1 = b.2.1 → a.1 * b.1 ≤ 7 → ∀ m, BothM a b m → K (m, 0)) : VC19 a b K := by
  have ua := ok_mach ha
  have ub := ok_mach hb
  obtain ⟨a1, a2, a3, a4, a5⟩ := id ga
  obtain ⟨b1, b2, b3, b4, b5⟩ := id gb
  obtain ⟨a11, a12, a13, a14⟩ := a1
  obtain ⟨b11, b12, b13, b14⟩ := b1
  obtain ⟨na, hna⟩ : ∃ n : Nat, a.1 = (n : Int) := ⟨a.1.toNat, by omega⟩
  obtain ⟨nb, hnb⟩ : ∃ n : Nat, b.1 = (n : Int) := ⟨b.1.toNat, by omega⟩
  obtain ⟨k, hk⟩ : ∃ n : Nat, a.2.1 = (n : Int) := ⟨a.2.1.toNat, by omega⟩
  have hab := small_mul (x := a.1) (y := b.1) ⟨by omega, by omega⟩ ⟨by omega, by omega⟩
  have hsb := small_mul (x := a.2.2.2.1) (y := b.1) ⟨a4.1, by have := a4.2; omega⟩ ⟨by omega, by omega⟩
  have hIn : ∀ n : Int, 0 ≤ n ∧ n ≤ 100 → InR n := fun n hn => ⟨by omega, by omega⟩
  unfold VC19
  refine loop_count 2 (fun _ => True) trivial ?_
  intro c hc _ X hX
  unfold VC19_l4
  refine ⟨fun hlt => ?_, fun hge => ?_⟩
  · simp at hlt
    refine ⟨⟨by omega, by simp; omega⟩, ?_⟩
    have hcase : c = 0 ∨ c = 1 := by omega
    rcases hcase with rfl | rfl
    · simp
      refine VC40_of ha ?_
      rw [(chkM_zero a).2 ga]
      exact ⟨fun hne => absurd rfl hne, fun _ => ⟨hIn _ ⟨by omega, by omega⟩, hX (by omega) trivial⟩⟩
    · simp
      refine VC40_of hb ?_
      rw [(chkM_zero b).2 gb]
      exact ⟨fun hne => absurd rfl hne, fun _ => ⟨hIn _ ⟨by omega, by omega⟩, hX (by omega) trivial⟩⟩
  unfold VC19_k1
  refine ⟨fun hk' => ?_, fun hk' => ⟨hIn _ ⟨by omega, by omega⟩, fun hm => ?_, fun hm => ⟨hIn _ ⟨by omega, by omega⟩, hIn _ ⟨by omega, by omega⟩, hIn _ ⟨by have := b4.1; omega, by have := b4.2; omega⟩, ?_⟩⟩⟩
  · simp at hk'
    exact h1 (fun hh => hk' hh.1) _ _ (by omega)
  · simp at hm
    exact h1 (fun hh => by have := hh.2; omega) _ _ (by omega)
  simp at hk' hm
  have hle : na * nb ≤ 7 := by
    have : ((na * nb : Nat) : Int) ≤ 7 := by rw [Int.natCast_mul, ← hna, ← hnb]; omega
    omega
  refine loop_inv na (fun i s => TInv a b nb (i * nb) s.1 s.2) (by simpa using tinv_zero a b nb) ?_
  rintro i hi ⟨out, rows⟩ hT X hX
  simp only at hT
  unfold VC19_l1
  refine ⟨fun hlt => ?_, fun hge => ?_⟩
  · simp only [decide_eq_true_eq] at hlt
    have hina : i < na := by omega
    have hmul : i * nb + nb ≤ na * nb := by have := Nat.mul_le_mul_right nb (show i + 1 ≤ na by omega); rw [Nat.add_mul] at this; omega
    refine loop_inv nb (fun j s => TInv a b nb (i * nb + j) s.1 s.2) hT ?_
    rintro j hj ⟨out2, rows2⟩ hT2 X2 hX2
    simp only at hT2
    unfold VC19_l2
    refine ⟨fun hlt2 => ⟨⟨by omega, by omega⟩, ?_⟩, fun hge2 => ?_⟩
    · simp only [decide_eq_true_eq] at hlt2
      have hjb : j < nb := by omega
      have hk2 : a.2.1.toNat = k := by omega
      have hia : i < a.2.2.1.length := by have := a2.1; omega
      have hjb2 : j < b.2.2.1.length := by have := b2.1; omega
      have hrla := a2.2 _ (getD_mem (d := ([] : List Int)) hia)
      have hrlb := b2.2 _ (getD_mem (d := ([] : List Int)) hjb2)
      refine loop_inv k (fun s row => row.length = k ∧ ∀ u, u < s → row.getD u 0 = nextM a (i : Int) (u : Int) * b.1 + nextM b (j : Int) (u : Int)) ⟨by simp [hk2], by intro u hu; omega⟩ ?_
      rintro s hs row ⟨hr1, hr2⟩ X3 hX3
      unfold VC19_l3
      refine ⟨fun hc3 => ?_, fun hc3 => ?_⟩
      · simp only [decide_eq_true_eq, List.length_replicate, hk2] at hc3
        have hsk : s < k := by omega
        have hxa := next_good ga (q := (i : Int)) (s := (s : Int)) ⟨by omega, by omega⟩ ⟨by omega, by omega⟩
        have hxb := next_good gb (q := (j : Int)) (s := (s : Int)) ⟨by omega, by omega⟩ ⟨by omega, by omega⟩
        have hxm := small_mul (x := nextM a i s) (y := b.1) ⟨by omega, by omega⟩ ⟨by omega, by omega⟩
        have ea : ((a.2.2.1.getD ((i : Int)).toNat ([] : List Int)).getD ((s : Int)).toNat (0 : Int)) = nextM a i s := rfl
        have eb : ((b.2.2.1.getD ((j : Int)).toNat ([] : List Int)).getD ((s : Int)).toNat (0 : Int)) = nextM b j s := rfl
        rw [ea, eb]
        simp only [Int.toNat_natCast]
        refine ⟨⟨by omega, by omega⟩, ⟨by omega, by omega⟩, hIn _ ⟨by omega, by omega⟩, ⟨by omega, by omega⟩, ⟨by omega, by omega⟩, hIn _ ⟨by omega, by omega⟩, ⟨by omega, by omega⟩, ⟨by omega, by omega⟩, hX3 _ hsk ⟨by simp [hr1], fun u hu => ?_⟩⟩
        by_cases hus : u = s
        · subst hus
          rw [getD_lt _ (by simp [hr1]; omega), List.getElem_set_self]
        · rw [getD_lt _ (by simp [hr1]; omega), List.getElem_set_ne (by omega)]
          have := hr2 u (by omega)
          rw [getD_lt _ (by rw [hr1]; omega)] at this
          exact this
      · simp only [decide_eq_false_iff_not, List.length_replicate, hk2] at hc3
        have hsk : s = k := by omega
        subst hsk
        have hrow : row = rowB a b i j := by
          refine ext_getD 0 (by simp [rowB, hr1, hk2]) fun u hu => ?_
          rw [hr2 u (by omega), rowB, getD_lt _ (by simp [hk2]; omega)]
          simp
        subst hrow
        have hlen := hT2.len
        have hlt7 : i * nb + j < na * nb := by omega
        have hnext := tinv_step hT2 hjb (by omega)
        have hcast : (i : Int) * b.1 + (j : Int) = ((i * nb + j : Nat) : Int) := by rw [hnb]; simp
        unfold VC19_k4
        refine ⟨by unfold roomN; simp; omega, ?_⟩
        refine VC42_of ua (by omega) ?_
        simp only [Int.toNat_natCast]
        refine gcall_of (bt b.2.2.2.2 j) (fun _ hk => VC42_of ub (by omega) (by simpa using hk)) ?_
        have hib := small_mul (x := (i : Int)) (y := b.1) ⟨by omega, by omega⟩ ⟨by omega, by omega⟩
        rw [hcast]
        refine ⟨fun hh => ⟨hIn _ ⟨by omega, by omega⟩, hIn _ ⟨by omega, by omega⟩, by omega, ?_⟩, fun hh => ?_⟩
        · have hc : (bt a.2.2.2.2 i && bt b.2.2.2.2 j) = true := by
            cases hx : bt a.2.2.2.2 i <;> simp [hx] at hh ⊢
            exact hh
          rw [if_pos hc] at hnext
          exact ⟨⟨by omega, by omega⟩, hX2 _ hjb (by simpa [Nat.add_assoc] using hnext)⟩
        · have hc : ¬ (bt a.2.2.2.2 i && bt b.2.2.2.2 j) = true := by
            cases hx : bt a.2.2.2.2 i <;> simp [hx] at hh ⊢
            exact hh
          rw [if_neg hc] at hnext
          exact ⟨⟨by omega, by omega⟩, hX2 _ hjb (by simpa [Nat.add_assoc] using hnext)⟩
    · simp only [decide_eq_false_iff_not] at hge2
      have : j = nb := by omega
      subst this
      refine ⟨⟨by omega, by omega⟩, hX _ hina ?_⟩
      simp only
      rw [Nat.add_mul]
      simpa using hT2
  · simp only [decide_eq_false_iff_not] at hge
    have : i = na := by omega
    subst this
    unfold VC19_k2
    refine h2 hk' (by omega) _ ⟨rfl, rfl, rfl, ?_⟩
    simp only
    have e1 : a.1.toNat = i := by omega
    have e2 : b.1.toNat = nb := by omega
    rw [e1, e2]
    exact hT

theorem both_next {a b m : Mach} (ga : GoodM a) (gb : GoodM b) (h : BothM a b m) (hk : a.2.1 = b.2.1) {p q s : Int} (hp : 0 ≤ p ∧ p < a.1) (hq : 0 ≤ q ∧ q < b.1) (hs : 0 ≤ s ∧ s < a.2.1) :
    nextM m (p * b.1 + q) s = nextM a p s * b.1 + nextM b q s ∧ (p * b.1 + q).toNat < m.2.2.1.length ∧ (m.2.2.1.getD (p * b.1 + q).toNat []).length = a.2.1.toNat := by
  obtain ⟨i, rfl⟩ : ∃ n : Nat, p = (n : Int) := ⟨p.toNat, by omega⟩
  obtain ⟨j, rfl⟩ : ∃ n : Nat, q = (n : Int) := ⟨q.toNat, by omega⟩
  obtain ⟨na, hna⟩ : ∃ n : Nat, a.1 = (n : Int) := ⟨a.1.toNat, by omega⟩
  obtain ⟨nb, hnb⟩ : ∃ n : Nat, b.1 = (n : Int) := ⟨b.1.toNat, by omega⟩
  have hinv := h.inv
  rw [hna, hnb] at hinv
  simp only [Int.toNat_natCast] at hinv
  have hjb : j < nb := by omega
  have hlt : i * nb + j < na * nb := by have := Nat.mul_le_mul_right nb (show i + 1 ≤ na by omega); rw [Nat.add_mul] at this; omega
  have hcast : ((i : Int) * b.1 + (j : Int)).toNat = i * nb + j := by rw [hnb, ← Int.natCast_mul, ← Int.natCast_add, Int.toNat_natCast]
  obtain ⟨e1, e2⟩ := divmod (i := i) hjb
  have hr := hinv.row _ hlt
  rw [e1, e2] at hr
  refine ⟨?_, by rw [hcast, hinv.len]; exact hlt, by rw [hcast, hr]; simp [rowB]⟩
  unfold nextM
  rw [hcast, hr, rowB, getD_lt _ (by simp; omega)]
  have : ((s.toNat : Nat) : Int) = s := by omega
  simp [nextM, this]

theorem both_run {a b m : Mach} (ga : GoodM a) (gb : GoodM b) (h : BothM a b m) (hk : a.2.1 = b.2.1) : ∀ {w : List Int} {p q : Int}, (0 ≤ p ∧ p < a.1) → (0 ≤ q ∧ q < b.1) → (∀ s ∈ w, 0 ≤ s ∧ s < a.2.1) →
    runM m (p * b.1 + q) w = runM a p w * b.1 + runM b q w
  | [], p, q, _, _, _ => rfl
  | s :: w, p, q, hp, hq, hw => by
    have hs := hw s (by simp)
    obtain ⟨h1, _, _⟩ := both_next ga gb h hk hp hq hs
    show runM m (nextM m (p * b.1 + q) s) w = runM a (nextM a p s) w * b.1 + runM b (nextM b q s) w
    rw [h1]
    exact both_run ga gb h hk (next_good ga hp hs) (next_good gb hq (by rw [← hk]; exact hs)) fun x hx => hw x (by simp [hx])

theorem both_lt {a b : Mach} {p q : Int} (hp : 0 ≤ p ∧ p < a.1) (hq : 0 ≤ q ∧ q < b.1) : 0 ≤ p * b.1 + q ∧ p * b.1 + q < a.1 * b.1 := by
  have h1 : (p + 1) * b.1 ≤ a.1 * b.1 := Int.mul_le_mul_of_nonneg_right (by omega) (by omega)
  rw [Int.add_mul] at h1
  have h2 : 0 ≤ p * b.1 := Int.mul_nonneg hp.1 (by omega)
  omega

theorem both_good {a b m : Mach} (ga : GoodM a) (gb : GoodM b) (h : BothM a b m) (hk : a.2.1 = b.2.1) (hle : a.1 * b.1 ≤ 7) : GoodM m := by
  obtain ⟨a1, a2, a3, a4, a5⟩ := id ga
  obtain ⟨b1, b2, b3, b4, b5⟩ := id gb
  obtain ⟨a11, a12, a13, a14⟩ := a1
  obtain ⟨b11, b12, b13, b14⟩ := b1
  obtain ⟨na, hna⟩ : ∃ n : Nat, a.1 = (n : Int) := ⟨a.1.toNat, by omega⟩
  obtain ⟨nb, hnb⟩ : ∃ n : Nat, b.1 = (n : Int) := ⟨b.1.toNat, by omega⟩
  have hinv := h.inv
  rw [hna, hnb] at hinv
  simp only [Int.toNat_natCast] at hinv
  have hpos : 1 ≤ a.1 * b.1 := by have := Int.mul_le_mul a11 b11 (by omega) (by omega); omega
  have hmn : m.1 = ((na * nb : Nat) : Int) := by rw [h.n, hna, hnb]; simp
  have hrows : ∀ l ∈ m.2.2.1, ∃ i j, i < na ∧ j < nb ∧ l = rowB a b i j := by
    intro l hl
    obtain ⟨t, ht, rfl⟩ := List.mem_iff_getElem.1 hl
    have := hinv.row t (by rw [← hinv.len]; exact ht)
    rw [getD_lt _ ht] at this
    rw [hinv.len] at ht
    exact ⟨t / nb, t % nb, Nat.div_lt_of_lt_mul (by rw [Nat.mul_comm]; exact ht), Nat.mod_lt _ (by omega), this⟩
  refine ⟨⟨by rw [h.n]; exact hpos, by rw [h.n]; exact hle, by rw [h.k]; exact a13, by rw [h.k]; exact a14⟩, ⟨by rw [hinv.len, hmn], ?_⟩, ?_, ?_, ?_⟩
  · intro l hl
    obtain ⟨i, j, _, _, rfl⟩ := hrows l hl
    rw [h.k]; simp [rowB]; omega
  · intro l hl n hn
    obtain ⟨i, j, hi, hj, rfl⟩ := hrows l hl
    simp only [rowB, List.mem_map, List.mem_range] at hn
    obtain ⟨s, hs, rfl⟩ := hn
    rw [h.n]
    exact both_lt (next_good ga ⟨by omega, by omega⟩ ⟨by omega, by omega⟩) (next_good gb ⟨by omega, by omega⟩ ⟨by omega, by omega⟩)
  · unfold mD
    rw [h.start, h.n]
    exact both_lt a4 b4
  · unfold mE
    rw [hmn, Int.toNat_natCast, below_bt hinv.u32]
    intro i hi
    rw [hinv.bit]
    have : ¬ i < na * nb := by omega
    simp [this]

theorem both_bit {a b m : Mach} (ga : GoodM a) (gb : GoodM b) (h : BothM a b m) {p q : Int} (hp : 0 ≤ p ∧ p < a.1) (hq : 0 ≤ q ∧ q < b.1) :
    bt m.2.2.2.2 (p * b.1 + q).toNat = (bt a.2.2.2.2 p.toNat && bt b.2.2.2.2 q.toNat) := by
  obtain ⟨i, rfl⟩ : ∃ n : Nat, p = (n : Int) := ⟨p.toNat, by omega⟩
  obtain ⟨j, rfl⟩ : ∃ n : Nat, q = (n : Int) := ⟨q.toNat, by omega⟩
  obtain ⟨na, hna⟩ : ∃ n : Nat, a.1 = (n : Int) := ⟨a.1.toNat, by omega⟩
  obtain ⟨nb, hnb⟩ : ∃ n : Nat, b.1 = (n : Int) := ⟨b.1.toNat, by omega⟩
  have hinv := h.inv
  rw [hna, hnb] at hinv
  simp only [Int.toNat_natCast] at hinv
  have hjb : j < nb := by omega
  have hlt : i * nb + j < na * nb := by have := Nat.mul_le_mul_right nb (show i + 1 ≤ na by omega); rw [Nat.add_mul] at this; omega
  have hcast : ((i : Int) * b.1 + (j : Int)).toNat = i * nb + j := by rw [hnb, ← Int.natCast_mul, ← Int.natCast_add, Int.toNat_natCast]
  obtain ⟨e1, e2⟩ := divmod (i := i) hjb
  rw [hcast, hinv.bit, e1, e2]
  simp [hlt]

theorem not_good {m : Mach} (hm : Ok MachT m) (g : GoodM m) : GoodM (notM m) := by
  have um := ok_mach hm
  obtain ⟨⟨a1, a2, a3, a4⟩, b, c, d, e⟩ := g
  obtain ⟨n, hn⟩ : ∃ n : Nat, m.1 = (n : Int) := ⟨m.1.toNat, by omega⟩
  refine ⟨⟨a1, a2, a3, a4⟩, b, c, d, ?_⟩
  unfold mE notM
  simp only
  rw [hn, Int.toNat_natCast, below_bt (u32_andNot _ _)]
  intro i hi
  rw [bt_andNot (mask_u32 _) um, mask_bt (by omega)]
  have : ¬ i < n := by omega
  simp [this]

theorem not_bit {m : Mach} (hm : Ok MachT m) (g : GoodM m) {q : Int} (hq : 0 ≤ q ∧ q < m.1) : bt (notM m).2.2.2.2 q.toNat = !bt m.2.2.2.2 q.toNat := by
  have um := ok_mach hm
  obtain ⟨⟨a1, a2, a3, a4⟩, b, c, d, e⟩ := g
  obtain ⟨n, hn⟩ : ∃ n : Nat, m.1 = (n : Int) := ⟨m.1.toNat, by omega⟩
  unfold notM
  simp only
  rw [hn, bt_andNot (mask_u32 _) um, mask_bt (by omega)]
  have : q.toNat < n := by omega
  simp [this]

theorem ok_u32 {s : Int} (h : U32 s) : Ok (.int .u32) s := by
  show IntKind.u32.min ≤ s ∧ s ≤ IntKind.u32.max
  simp only [IntKind.min, IntKind.max, IntKind.signed, IntKind.bits]
  obtain ⟨h1, h2⟩ := h
  simp
  omega

theorem ok_of_good {m : Mach} (g : GoodM m) (h : U32 m.2.2.2.2) : Ok MachT m := by
  obtain ⟨⟨a1, a2, a3, a4⟩, ⟨b1, b2⟩, c, d, e⟩ := g
  obtain ⟨d1, d2⟩ := d
  refine ⟨mk_ok64 ⟨by omega, by omega⟩, mk_ok64 ⟨by omega, by omega⟩, ⟨by omega, fun l hl => ⟨by have := b2 l hl; omega, fun n hn => ?_⟩⟩, mk_ok64 ⟨by omega, by omega⟩, ok_u32 h⟩
  have := c l hl n hn
  exact mk_ok64 ⟨by omega, by omega⟩

theorem machineSets {a b : Mach} {w : List Int} (ha : Ok MachT a) (hb : Ok MachT b) : VC4 a b w (fun b => b = true) := by
  unfold VC4
  refine VC15_of ha (VC15_of hb (VC16_of ha (gcall_of (goodB b w) (fun _ hk => VC16_of hb hk) ⟨fun hbad => ?_, fun hgood => ?_⟩)))
  · by_cases g1 : GoodM a ∧ GoodW a.2.1 w
    · by_cases g2 : GoodM b ∧ GoodW b.2.1 w
      · exfalso
        rw [goodB_true.2 g1, goodB_true.2 g2] at hbad
        simp at hbad
      · have := runR_bad g2
        simp [this]
    · have := runR_bad g1
      simp [this]
  · have e1 : goodB a w = true := by
      cases h : goodB a w
      · rw [h] at hgood; simp at hgood
      · rfl
    have e2 : goodB b w = true := by
      cases h : goodB b w
      · rw [e1, h] at hgood; simp at hgood
      · rfl
    obtain ⟨ga, gwa⟩ := goodB_true.1 e1
    obtain ⟨gb, gwb⟩ := goodB_true.1 e2
    rw [runR_good ga gwa, runR_good gb gwb]
    refine VC18_of ha ?_
    have gn := not_good ha ga
    have hqa := run_good ga ga.2.2.2.1 gwa.2
    have hqb := run_good gb gb.2.2.2.1 gwb.2
    have hN : notR a = (notM a, 0) := by unfold notR; rw [if_pos ((chkM_zero a).2 ga)]
    rw [hN]
    have on : Ok MachT (notM a) := ok_of_good gn (u32_andNot _ _)
    refine VC15_of on ?_
    have hrn : ∀ q w, runM (notM a) q w = runM a q w := fun q w => rfl
    have hsn : (notM a).2.2.2.1 = a.2.2.2.1 := rfl
    rw [runR_good gn gwa]
    simp only [hrn, hsn]
    rw [not_bit ha ga hqa]
    refine ⟨fun hc => ?_, fun _ => ?_⟩
    · exfalso
      simp at hc
    refine VC19_of ha hb ga gb (fun hno m e he => ⟨fun _ => ⟨fun _ => ?_, ?_⟩, fun hc => ?_⟩) (fun hk hle m hm => ⟨fun hc => ?_, fun _ => ?_⟩)
    · obtain ⟨⟨a1, a2, _⟩, _⟩ := ga
      obtain ⟨⟨b1, b2, _⟩, _⟩ := gb
      have := small_mul (x := a.1) (y := b.1) ⟨by omega, by omega⟩ ⟨by omega, by omega⟩
      exact ⟨by omega, by omega⟩
    · simp
      by_cases hk : a.2.1 = b.2.1
      · right
        by_cases h7 : a.1 * b.1 ≤ 7
        · exact absurd ⟨hk, h7⟩ hno
        · omega
      · exact .inl hk
    · exfalso
      simp at hc
      exact he hc
    · simp at hc
    · have gm := both_good ga gb hm hk hle
      have om : Ok MachT m := ok_of_good gm hm.inv.u32
      refine VC15_of om ?_
      have gwm : GoodW m.2.1 w := by rw [hm.k]; exact gwa
      rw [runR_good gm gwm, hm.start, both_run ga gb hm hk ga.2.2.2.1 gb.2.2.2.1 gwa.2, both_bit ga gb hm hqa hqb]
      simp
end Dec
