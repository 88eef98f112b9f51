/-
  'TurnerThen' in plain Lean: one transducer after the other.
-/
import Derived.Test.YtckghdhnmpnljaaGenWb
import Derived.Test.YtckghdhnmpnljaaTurnA
set_option linter.unusedSimpArgs false
set_option linter.unusedVariables false
namespace Dec
open Go Go.Proofs

/-- a loop that counts, with an invariant of its state -/
theorem loop_inv {τ : Type} {B : Int × τ → (Int × τ → Prop) → Prop} (n : Nat) (I : Nat → τ → Prop) {s0 : τ} (h0 : I 0 s0)
    (h : ∀ i : Nat, i ≤ n → ∀ s, I i s → ∀ X : Int × τ → Prop, (∀ s', i < n → I (i + 1) s' → X ((i : Int) + 1, s')) → B ((i : Int), s) X) : Loop B (0, s0) := by
  refine Loop.by (fun s => ∃ i : Nat, i ≤ n ∧ I i s.2 ∧ s.1 = (i : Int)) (fun s => ((n : Int) - s.1).toNat) ⟨0, by omega, h0, rfl⟩ ?_
  rintro ⟨c, s⟩ ⟨i, hi, hP, rfl⟩ X hX
  exact h i hi s hP X fun s' hlt hP' => hX _ ⟨i + 1, by omega, hP', by simp⟩ (by simp only; omega)

theorem small_mul {x y : Int} (hx : 0 ≤ x ∧ x ≤ 7) (hy : 0 ≤ y ∧ y ≤ 7) : 0 ≤ x * y ∧ x * y ≤ 49 :=
  ⟨Int.mul_nonneg hx.1 hy.1, by have := Int.mul_le_mul hx.2 hy.2 hy.1 (by omega : (0:Int) ≤ 7); omega⟩

def rowN (a b : Tn) (i j : Nat) : List Int := (List.range a.2.1.toNat).map fun (s : Nat) => nextT a (i : Int) (s : Int) * b.1 + (writeT b (j : Int) (outT a (i : Int) (s : Int))).1
def rowW (a b : Tn) (i j : Nat) : List (List Int) := (List.range a.2.1.toNat).map fun (s : Nat) => (writeT b (j : Int) (outT a (i : Int) (s : Int))).2

structure CInv (a b : Tn) (nb c : Nat) (ns : List (List Int)) (os : List (List (List Int))) : Prop where
  lenN : ns.length = c
  lenO : os.length = c
  row : ∀ u, u < c → ns.getD u [] = rowN a b (u / nb) (u % nb) ∧ os.getD u [] = rowW a b (u / nb) (u % nb) ∧ ∀ x ∈ rowW a b (u / nb) (u % nb), x.length ≤ 4

theorem divmod {i j nb : Nat} (h : j < nb) : (i * nb + j) / nb = i ∧ (i * nb + j) % nb = j := by
  have h0 : 0 < nb := by omega
  constructor
  · rw [Nat.mul_comm, Nat.mul_add_div h0, Nat.div_eq_of_lt h]; rfl
  · rw [Nat.mul_comm, Nat.mul_add_mod, Nat.mod_eq_of_lt h]

theorem getD_snocL {α : Type} {l : List α} {x d : α} {u : Nat} : (l ++ [x]).getD u d = if u < l.length then l.getD u d else if u = l.length then x else d := by
  simp only [List.getD]
  by_cases h : u < l.length
  · rw [if_pos h, List.getElem?_append_left h]
  · rw [if_neg h, List.getElem?_append_right (by omega)]
    by_cases e : u = l.length
    · rw [if_pos e, e, Nat.sub_self]; rfl
    · rw [if_neg e, List.getElem?_eq_none (by simp; omega)]; rfl

theorem cinv_step {a b : Tn} {nb i j : Nat} {ns : List (List Int)} {os : List (List (List Int))} (h : CInv a b nb (i * nb + j) ns os) (hj : j < nb) (hs : ∀ x ∈ rowW a b i j, x.length ≤ 4) :
    CInv a b nb (i * nb + j + 1) (ns ++ [rowN a b i j]) (os ++ [rowW a b i j]) := by
  obtain ⟨h1, h2⟩ := divmod (i := i) hj
  refine ⟨by simp [h.lenN], by simp [h.lenO], fun u hu => ?_⟩
  rw [getD_snocL, getD_snocL, h.lenN, h.lenO]
  by_cases hut : u < i * nb + j
  · rw [if_pos hut, if_pos hut]
    exact h.row u hut
  · have : u = i * nb + j := by omega
    subst this
    rw [if_neg hut, if_neg hut, if_pos rfl, if_pos rfl, h1, h2]
    exact ⟨rfl, rfl, hs⟩

structure ThenT (a b t : Tn) : Prop where
  n : t.1 = a.1 * b.1
  le : a.1 * b.1 ≤ 7
  k : t.2.1 = a.2.1
  l : t.2.2.1 = b.2.2.1
  start : t.2.2.2.2.2 = a.2.2.2.2.2 * b.1 + b.2.2.2.2.2
  inv : CInv a b b.1.toNat (a.1.toNat * b.1.toNat) t.2.2.2.1 t.2.2.2.2.1

theorem VC19_of {a b : Tn} {K : Tn × Int → Prop} (h1 : ∀ e, e ≠ 0 → K ((0, (0, (0, ([], ([], 0))))), e))
    (h2 : GoodT a → GoodT b → b.2.1 = a.2.2.1 → ∀ t, ThenT a b t → K (t, 0)) : VC19 a b K := by
  unfold VC19
  refine loop_count 2 (fun i => (0 < i → GoodT a) ∧ (1 < i → GoodT b)) ⟨fun h => absurd h (by omega), fun h => absurd h (by omega)⟩ ?_
  intro c hc hP X hX
  unfold VC19_l4
  refine ⟨fun hlt => ?_, fun hge => ?_⟩
  · simp at hlt
    refine ⟨⟨by omega, by simp; omega⟩, ?_⟩
    have hcase : c = 0 ∨ c = 1 := by omega
    rcases hcase with rfl | rfl
    · simp only [Int.toNat_natCast, List.getD_cons_zero]
      exact VC39_of (fun e he _ => ⟨fun _ => h1 e he, fun hc => absurd (by simpa using hc) he⟩) (fun g => ⟨fun hc => by simp at hc, fun _ => ⟨⟨by omega, by omega⟩, hX (by omega) ⟨fun _ => g, fun h => absurd h (by omega)⟩⟩⟩)
    · simp only [Int.toNat_natCast, List.getD_cons_succ, List.getD_cons_zero]
      exact VC39_of (fun e he _ => ⟨fun _ => h1 e he, fun hc => absurd (by simpa using hc) he⟩) (fun g => ⟨fun hc => by simp at hc, fun _ => ⟨⟨by omega, by omega⟩, hX (by omega) ⟨fun _ => hP.1 (by omega), fun _ => g⟩⟩⟩)
  simp at hge
  have ga := hP.1 (by omega)
  have gb := hP.2 (by omega)
  clear hX hP
  have an := ga.n
  have ak := ga.k
  have ast := ga.start
  have bn := gb.n
  have bst := gb.start
  obtain ⟨na, hna⟩ : ∃ n : Nat, a.1 = (n : Int) := ⟨a.1.toNat, by omega⟩
  obtain ⟨nb, hnb⟩ : ∃ n : Nat, b.1 = (n : Int) := ⟨b.1.toNat, by omega⟩
  obtain ⟨k, hk⟩ : ∃ n : Nat, a.2.1 = (n : Int) := ⟨a.2.1.toNat, by omega⟩
  have hab := small_mul (x := a.1) (y := b.1) ⟨by omega, by omega⟩ ⟨by omega, by omega⟩
  have hsb := small_mul (x := a.2.2.2.2.2) (y := b.1) ⟨ast.1, by have := ast.2; omega⟩ ⟨by omega, by omega⟩
  have hIn : ∀ n : Int, 0 ≤ n ∧ n ≤ 100 → InR n := fun n hn => ⟨by omega, by omega⟩
  unfold VC19_k1
  refine ⟨fun _ => h1 3 (by decide), fun hk' => ⟨hIn _ ⟨by omega, by omega⟩, fun _ => h1 1 (by decide), fun hm => ⟨hIn _ ⟨by omega, by omega⟩, hIn _ ⟨by omega, by omega⟩, hIn _ ⟨by omega, by omega⟩, ?_⟩⟩⟩
  simp at hk' hm
  have hle : na * nb ≤ 7 := by
    have : ((na * nb : Nat) : Int) ≤ 7 := by rw [Int.natCast_mul, ← hna, ← hnb]; omega
    omega
  refine loop_inv na (fun i s => CInv a b nb (i * nb) s.1 s.2) (by simp only [Nat.zero_mul]; exact ⟨rfl, rfl, fun u hu => absurd hu (by omega)⟩) ?_
  rintro i hi ⟨ns, os⟩ hT X hX
  simp only at hT
  unfold VC19_l1
  refine ⟨fun hlt => ?_, fun hge => ?_⟩
  · simp only [decide_eq_true_eq] at hlt
    have hina : i < na := by omega
    have hmul : i * nb + nb ≤ na * nb := by have := Nat.mul_le_mul_right nb (show i + 1 ≤ na by omega); rw [Nat.add_mul] at this; omega
    refine loop_inv nb (fun j s => CInv a b nb (i * nb + j) s.1 s.2) hT ?_
    rintro j hj ⟨ns2, os2⟩ hT2 X2 hX2
    simp only at hT2
    unfold VC19_l2
    refine ⟨fun hlt2 => ⟨⟨by omega, by omega⟩, ⟨by omega, by omega⟩, ?_⟩, fun hge2 => ?_⟩
    · simp only [decide_eq_true_eq] at hlt2
      have hjb : j < nb := by omega
      have hk2 : a.2.1.toNat = k := by omega
      have hia : i < a.2.2.2.1.length := by have := ga.lenN; omega
      have hio : i < a.2.2.2.2.1.length := by have := ga.lenO; omega
      have hrla := ga.rowN _ (getD_mem (d := ([] : List Int)) hia)
      have hrlo := ga.rowO _ (getD_mem (d := ([] : List (List Int))) hio)
      unfold VC19_k4
      refine loop_inv k (fun s r => r.1.length = k ∧ r.2.length = k ∧ ∀ u, u < s → r.1.getD u 0 = nextT a (i : Int) (u : Int) * b.1 + (writeT b (j : Int) (outT a (i : Int) (u : Int))).1 ∧ r.2.getD u [] = (writeT b (j : Int) (outT a (i : Int) (u : Int))).2 ∧ (writeT b (j : Int) (outT a (i : Int) (u : Int))).2.length ≤ 4) ⟨by simp [hk2], by simp [hk2], by intro u hu; omega⟩ ?_
      rintro s hs ⟨next, words⟩ ⟨hr1, hr2, hr3⟩ X3 hX3
      simp only at hr1 hr2 hr3
      unfold VC19_l3
      dsimp only
      refine ⟨fun hc3 => ?_, fun hc3 => ?_⟩
      · simp only [decide_eq_true_eq] at hc3
        have hsk : s < k := by omega
        have hxa := next_goodT ga (q := (i : Int)) (s := (s : Int)) ⟨by omega, by omega⟩ ⟨by omega, by omega⟩
        have hxo := out_goodT ga (q := (i : Int)) (s := (s : Int)) ⟨by omega, by omega⟩ ⟨by omega, by omega⟩
        have hxm := small_mul (x := nextT a i s) (y := b.1) ⟨by omega, by omega⟩ ⟨by omega, by omega⟩
        have ea : ((a.2.2.2.1.getD ((i : Int)).toNat ([] : List Int)).getD ((s : Int)).toNat (0 : Int)) = nextT a i s := rfl
        have eo : ((a.2.2.2.2.1.getD ((i : Int)).toNat ([] : List (List Int))).getD ((s : Int)).toNat ([] : List Int)) = outT a i s := rfl
        have hsym : ∀ x ∈ outT a (i : Int) (s : Int), 0 ≤ x ∧ x < b.2.1 := fun x hx => by have := hxo.2 x hx; omega
        have hwg := write_good gb (outT a (i : Int) (s : Int)) (j : Int) ⟨by omega, by omega⟩ hsym
        rw [eo, ea]
        refine ⟨⟨by omega, by omega⟩, ⟨by omega, by simp only [Int.toNat_natCast]; omega⟩, VC41_of gb ⟨by omega, by omega⟩ (by omega) hsym ⟨fun _ => h1 1 (by decide), fun h4 => ?_⟩⟩
        simp only [decide_eq_false_iff_not] at h4
        simp only [Int.toNat_natCast]
        refine ⟨⟨by omega, by omega⟩, ⟨by omega, by omega⟩, hIn _ ⟨by omega, by omega⟩, hIn _ ⟨by omega, by omega⟩, ⟨by omega, by omega⟩, ⟨by omega, by omega⟩, ⟨by omega, by omega⟩, hX3 _ hsk ⟨by simp [hr1], by simp [hr2], fun u hu => ?_⟩⟩
        dsimp only
        by_cases hus : u = s
        · subst hus
          rw [getD_lt _ (by simp [hr1]; omega), List.getElem_set_self, getD_lt _ (by simp [hr2]; omega), List.getElem_set_self]
          exact ⟨rfl, rfl, by omega⟩
        · rw [getD_lt _ (by simp [hr1]; omega), List.getElem_set_ne (by omega), getD_lt _ (by simp [hr2]; omega), List.getElem_set_ne (by omega)]
          have := hr3 u (by omega)
          rw [getD_lt _ (by rw [hr1]; omega), getD_lt _ (by rw [hr2]; omega)] at this
          exact this
      · simp only [decide_eq_false_iff_not] at hc3
        have hsk : s = k := by omega
        subst hsk
        have hrowN : next = rowN a b i j := by
          refine ext_getD 0 (by simp [rowN, hr1, hk2]) fun u hu => ?_
          rw [(hr3 u (by omega)).1, rowN, getD_lt _ (by simp [hk2]; omega)]
          simp
        have hrowW : words = rowW a b i j := by
          refine ext_getD [] (by simp [rowW, hr2, hk2]) fun u hu => ?_
          rw [(hr3 u (by omega)).2.1, rowW, getD_lt _ (by simp [hk2]; omega)]
          simp
        have hshort : ∀ x ∈ rowW a b i j, x.length ≤ 4 := by
          intro x hx
          simp only [rowW, List.mem_map, List.mem_range] at hx
          obtain ⟨u, hu, rfl⟩ := hx
          exact (hr3 u (by omega)).2.2
        subst hrowN hrowW
        have hl1 := hT2.lenN
        have hl2 := hT2.lenO
        have hlt7 : i * nb + j < na * nb := by omega
        have hnext := cinv_step hT2 hjb hshort
        unfold VC19_k5
        refine ⟨by unfold roomN; simp; omega, by unfold roomN; simp; omega, ⟨by omega, by omega⟩, hX2 _ hjb (by simpa [Nat.add_assoc] using hnext)⟩
    · simp only [decide_eq_false_iff_not] at hge2
      have : j = nb := by omega
      subst this
      unfold VC19_k3
      refine ⟨⟨by omega, by omega⟩, hX _ hina ?_⟩
      simp only
      rw [Nat.add_mul]
      simpa using hT2
  · simp only [decide_eq_false_iff_not] at hge
    have : i = na := by omega
    subst this
    unfold VC19_k2
    refine h2 ga gb hk' _ ⟨rfl, by omega, rfl, rfl, rfl, ?_⟩
    simp only
    have e1 : a.1.toNat = i := by omega
    have e2 : b.1.toNat = nb := by omega
    rw [e1, e2]
    exact hT

theorem then_at {a b t : Tn} (ga : GoodT a) (gb : GoodT b) (h : ThenT a b t) {p q : Int} (hp : 0 ≤ p ∧ p < a.1) (hq : 0 ≤ q ∧ q < b.1) {s : Int} (hs : 0 ≤ s ∧ s < a.2.1) :
    nextT t (p * b.1 + q) s = nextT a p s * b.1 + (writeT b q (outT a p s)).1 ∧ outT t (p * b.1 + q) s = (writeT b q (outT a p s)).2 := by
  obtain ⟨i, rfl⟩ : ∃ n : Nat, p = (n : Int) := ⟨p.toNat, by omega⟩
  obtain ⟨j, rfl⟩ : ∃ n : Nat, q = (n : Int) := ⟨q.toNat, by omega⟩
  obtain ⟨na, hna⟩ : ∃ n : Nat, a.1 = (n : Int) := ⟨a.1.toNat, by omega⟩
  obtain ⟨nb, hnb⟩ : ∃ n : Nat, b.1 = (n : Int) := ⟨b.1.toNat, by omega⟩
  have hinv := h.inv
  rw [hna, hnb] at hinv
  simp only [Int.toNat_natCast] at hinv
  have hjb : j < nb := by omega
  have hlt : i * nb + j < na * nb := by have := Nat.mul_le_mul_right nb (show i + 1 ≤ na by omega); rw [Nat.add_mul] at this; omega
  have hcast : ((i : Int) * b.1 + (j : Int)).toNat = i * nb + j := by rw [hnb, ← Int.natCast_mul, ← Int.natCast_add, Int.toNat_natCast]
  obtain ⟨e1, e2⟩ := divmod (i := i) hjb
  obtain ⟨hr1, hr2, _⟩ := hinv.row _ hlt
  rw [e1, e2] at hr1 hr2
  have hsn : ((s.toNat : Nat) : Int) = s := by omega
  constructor
  · unfold nextT
    rw [hcast, hr1, rowN, getD_lt _ (by simp; omega)]
    simp [hsn, nextT]
  · unfold outT
    rw [hcast, hr2, rowW, getD_lt _ (by simp; omega)]
    simp [hsn, outT]

theorem both_lt {a c : Int} {b : Tn} {p q : Int} (hp : 0 ≤ p ∧ p < a) (hq : 0 ≤ q ∧ q < b.1) : 0 ≤ p * b.1 + q ∧ p * b.1 + q < a * b.1 := by
  have h1 : (p + 1) * b.1 ≤ a * b.1 := Int.mul_le_mul_of_nonneg_right (by omega) (by omega)
  rw [Int.add_mul] at h1
  have h2 : 0 ≤ p * b.1 := Int.mul_nonneg hp.1 (by omega)
  omega

theorem then_good {a b t : Tn} (ga : GoodT a) (gb : GoodT b) (hk : b.2.1 = a.2.2.1) (h : ThenT a b t) : GoodT t := by
  have an := ga.n
  have ak := ga.k
  have bn := gb.n
  obtain ⟨na, hna⟩ : ∃ n : Nat, a.1 = (n : Int) := ⟨a.1.toNat, by omega⟩
  obtain ⟨nb, hnb⟩ : ∃ n : Nat, b.1 = (n : Int) := ⟨b.1.toNat, by omega⟩
  have hinv := h.inv
  rw [hna, hnb] at hinv
  simp only [Int.toNat_natCast] at hinv
  have hpos : 1 ≤ a.1 * b.1 := by have := Int.mul_le_mul an.1 bn.1 (by omega) (by omega); omega
  have hmn : t.1 = ((na * nb : Nat) : Int) := by rw [h.n, hna, hnb]; simp
  have hN : ∀ r ∈ t.2.2.2.1, ∃ i j, i < na ∧ j < nb ∧ r = rowN a b i j := by
    intro r hr
    obtain ⟨c, hc, rfl⟩ := List.mem_iff_getElem.1 hr
    have := (hinv.row c (by rw [← hinv.lenN]; exact hc)).1
    rw [getD_lt _ hc] at this
    rw [hinv.lenN] at hc
    exact ⟨c / nb, c % nb, Nat.div_lt_of_lt_mul (by rw [Nat.mul_comm]; exact hc), Nat.mod_lt _ (by omega), this⟩
  have hO : ∀ r ∈ t.2.2.2.2.1, ∃ i j, i < na ∧ j < nb ∧ r = rowW a b i j ∧ ∀ x ∈ rowW a b i j, x.length ≤ 4 := by
    intro r hr
    obtain ⟨c, hc, rfl⟩ := List.mem_iff_getElem.1 hr
    have := (hinv.row c (by rw [← hinv.lenO]; exact hc)).2
    rw [getD_lt _ hc] at this
    rw [hinv.lenO] at hc
    exact ⟨c / nb, c % nb, Nat.div_lt_of_lt_mul (by rw [Nat.mul_comm]; exact hc), Nat.mod_lt _ (by omega), this.1, this.2⟩
  have wg : ∀ (i j s : Nat), i < na → j < nb → s < a.2.1.toNat → (0 ≤ (writeT b (j : Int) (outT a (i : Int) (s : Int))).1 ∧ (writeT b (j : Int) (outT a (i : Int) (s : Int))).1 < b.1) ∧ ∀ x ∈ (writeT b (j : Int) (outT a (i : Int) (s : Int))).2, 0 ≤ x ∧ x < b.2.2.1 := by
    intro i j s hi hj hs
    have ho := out_goodT ga (q := (i : Int)) (s := (s : Int)) ⟨by omega, by omega⟩ ⟨by omega, by omega⟩
    have := write_good gb (outT a (i : Int) (s : Int)) (j : Int) ⟨by omega, by omega⟩ (fun x hx => by have := ho.2 x hx; omega)
    exact ⟨this.1, this.2.2⟩
  refine ⟨by have := h.n; have := h.le; omega, by have := h.k; omega, by rw [h.l]; exact gb.l, by rw [hinv.lenN, hmn], by rw [hinv.lenO, hmn], ?_, ?_, ?_, ?_, ?_, ?_⟩
  · intro r hr
    obtain ⟨i, j, _, _, rfl⟩ := hN r hr
    rw [h.k]; simp [rowN]; omega
  · intro r hr
    obtain ⟨i, j, _, _, rfl, _⟩ := hO r hr
    rw [h.k]; simp [rowW]; omega
  · intro r hr w hw
    obtain ⟨i, j, _, _, rfl, hsh⟩ := hO r hr
    exact hsh w hw
  · rw [h.start, h.n]
    exact both_lt (c := 0) ga.start gb.start
  · intro r hr n hn
    obtain ⟨i, j, hi, hj, rfl⟩ := hN r hr
    simp only [rowN, List.mem_map, List.mem_range] at hn
    obtain ⟨s, hs, rfl⟩ := hn
    rw [h.n]
    exact both_lt (c := 0) (next_goodT ga ⟨by omega, by omega⟩ ⟨by omega, by omega⟩) (wg i j s hi hj hs).1
  · intro r hr w hw s hs
    obtain ⟨i, j, hi, hj, rfl, _⟩ := hO r hr
    simp only [rowW, List.mem_map, List.mem_range] at hw
    obtain ⟨u, hu, rfl⟩ := hw
    rw [h.l]
    exact (wg i j u hi hj hu).2 s hs

theorem then_write {a b t : Tn} (ga : GoodT a) (gb : GoodT b) (hk : b.2.1 = a.2.2.1) (h : ThenT a b t) : ∀ {w : List Int} {p q : Int}, (0 ≤ p ∧ p < a.1) → (0 ≤ q ∧ q < b.1) → (∀ s ∈ w, 0 ≤ s ∧ s < a.2.1) →
    writeT t (p * b.1 + q) w = ((writeT a p w).1 * b.1 + (writeT b q (writeT a p w).2).1, (writeT b q (writeT a p w).2).2)
  | [], p, q, _, _, _ => rfl
  | s :: w, p, q, hp, hq, hw => by
    have hs := hw s (by simp)
    obtain ⟨h1, h2⟩ := then_at ga gb h hp hq hs
    have ho := out_goodT ga hp hs
    have hq2 := (write_good gb (outT a p s) q hq (fun x hx => by have := ho.2 x hx; omega)).1
    have ih := then_write ga gb hk h (w := w) (next_goodT ga hp hs) hq2 fun x hx => hw x (by simp [hx])
    simp only [writeT, h1, h2, ih, writeT_append]

theorem turnerThen (a b : Tn) (w : List Int) : VC4 a b w (fun b => b = true) := by
  unfold VC4
  by_cases hg : GoodT a ∧ GoodT b ∧ GoodW a.2.1 w
  · obtain ⟨ga, gb, gw⟩ := hg
    have hwa := write_good ga w a.2.2.2.2.2 ga.start gw.2
    refine VC19_of (fun e he => ?_) (fun _ _ hk t ht => ?_)
    · refine VC14_of (fun e2 he2 hno => absurd ⟨ga, gw⟩ hno) fun _ _ => VC15_of fun c hc => ?_
      have hc := hc.2 ga
      subst hc
      refine gcall_both (fun _ => VC15_of fun d hd => ?_) (fun hc => by simp at hc)
      have hd := hd.2 gb
      subst hd
      refine gcall_both (fun _ => VC16_of (fun e2 he2 hno => absurd gw hno) fun _ => ?_) (fun hc => by simp at hc)
      exact ⟨fun hc => by simp at hc, fun _ => ⟨fun hc => by simp at hc, fun _ => ⟨fun _ => by simp, fun hc => absurd (by simpa using hc) he⟩⟩⟩
    · have gt := then_good ga gb hk ht
      refine VC14_of (fun e2 he2 hno => absurd ⟨ga, gw⟩ hno) fun _ _ => VC15_of fun c hc => ?_
      have hc := hc.2 ga
      subst hc
      refine gcall_both (fun _ => VC15_of fun d hd => ?_) (fun hc => by simp at hc)
      have hd := hd.2 gb
      subst hd
      refine gcall_both (fun _ => VC16_of (fun e2 he2 hno => absurd gw hno) fun _ => ?_) (fun hc => by simp at hc)
      refine ⟨fun hc => by simp at hc, fun _ => ⟨fun hc => by simp at hc, fun _ => ⟨fun hc => by simp at hc, fun _ => ?_⟩⟩⟩
      have gwt : GoodW t.2.1 w := by rw [ht.k]; exact gw
      have hsym : ∀ x ∈ (writeT a a.2.2.2.2.2 w).2, 0 ≤ x ∧ x < b.2.1 := fun x hx => by have := hwa.2.2 x hx; omega
      refine VC14_of (fun e2 he2 hno => ?_) fun _ hxw => ?_
      · have hlong : 12 < (writeT a a.2.2.2.2.2 w).2.length := Nat.lt_of_not_le fun hle => hno ⟨gb, hle, hsym⟩
        have hd : decide ((12 : Int) < ((writeT a a.2.2.2.2.2 w).2.length : Int)) = true := decide_eq_true (by omega)
        refine VC14_of (fun e3 he3 hno3 => absurd ⟨gt, gwt⟩ hno3) fun _ _ => ?_
        have he2' : decide (e2 = 0) = false := decide_eq_false he2
        simp only [hd, he2']
        refine gcall_both (fun hc => by simp at hc) (fun _ => by simp)
      · refine VC14_of (fun e3 he3 hno3 => absurd ⟨gt, gwt⟩ hno3) fun _ _ => ?_
        have hr := then_write ga gb hk ht (w := w) ga.start gb.start gw.2
        rw [← ht.start] at hr
        rw [hr]
        dsimp only
        refine gcall_both (fun _ => VC18_of ?_ ?_) (fun hc => by simp at hc)
        · have h1 := (write_good gb _ _ gb.start hsym).2.1
          have h2 := hxw.1
          dsimp only at h2
          omega
        · simp
  · refine VC19_of (fun e he => ?_) (fun ga gb hk t ht => ?_)
    · have fin : ∀ (x : List Int) (f : Int), VC15 a (fun (ret28v : Bool) => gcall (α := Bool) (!(!ret28v)) (VC15 b) false (fun (ret32v : Bool) => gcall (α := Int) (!((!ret28v) || (!ret32v))) (VC16 a.2.1 w) (0 : Int) (fun (ret39v : Int) => (((((!ret28v) || (!ret32v)) || (!decide (ret39v = (0 : Int)))) = true → ((!decide (e = (0 : Int))) || (!decide (f = (0 : Int)))) = true) ∧ ((((!ret28v) || (!ret32v)) || (!decide (ret39v = (0 : Int)))) = false → (((!decide (f = (0 : Int))) = true → (false : Bool) = true) ∧ ((!decide (f = (0 : Int))) = false → (((!decide (e = (0 : Int))) = true → (decide ((0 : Int) = (0 : Int))) = true) ∧ ((!decide (e = (0 : Int))) = false → VC14 b x (fun (ret58v : (List Int) × Int) => VC14 (0, (0, (0, ([], ([], 0))))) w (fun (ret64v : (List Int) × Int) => gcall (α := Bool) ((decide (ret64v.2 = (0 : Int))) && ((!((decide ((12 : Int) < (x.length : Int))) && (!decide (ret58v.2 = (0 : Int))))) && (decide (ret58v.2 = (0 : Int))))) (VC18 ret58v.1 ret64v.1) false (fun (ret83v : Bool) => ((decide (ret64v.2 = (0 : Int))) && (((decide ((12 : Int) < (x.length : Int))) && (!decide (ret58v.2 = (0 : Int)))) || ((decide (ret58v.2 = (0 : Int))) && ret83v))) = true)))))))))))) := by
        intro x f
        have hK : ((!decide (e = (0 : Int))) || (!decide (f = (0 : Int)))) = true := by simp [he]
        refine VC15_of fun c hc => ?_
        refine gcall_both (fun h1 => VC15_of fun d hd => ?_) (fun h1 => ?_)
        · refine gcall_both (fun h2 => VC16_of (fun e2 he2 _ => ⟨fun _ => hK, fun h3 => by simp [he2] at h3⟩) fun hw => ?_) (fun h2 => ⟨fun _ => hK, fun h3 => ?_⟩)
          · have hcd : c = true ∧ d = true := by simpa using h2
            exact absurd ⟨hc.1 hcd.1, hd.1 hcd.2, hw⟩ hg
          · cases c <;> cases d <;> simp_all
        · have : c = false := by simpa using h1
          subst this
          refine gcall_both (fun h2 => by simp at h2) (fun _ => ⟨fun _ => hK, fun h3 => by simp at h3⟩)
      exact VC14_of (fun f hf _ => fin _ f) (fun _ _ => fin _ 0)
    · have hnw : ¬ GoodW a.2.1 w := fun hw => hg ⟨ga, gb, hw⟩
      refine VC14_of (fun f hf _ => VC15_of fun c hc => ?_) (fun _ hw => absurd hw hnw)
      have hc := hc.2 ga
      subst hc
      refine gcall_both (fun _ => VC15_of fun d hd => ?_) (fun h => by simp at h)
      have hd := hd.2 gb
      subst hd
      refine gcall_both (fun _ => VC16_of (fun e2 he2 _ => ?_) fun hw => absurd hw hnw) (fun h => by simp at h)
      exact ⟨fun _ => by simp [hf], fun h => by simp [he2] at h⟩
end Dec
