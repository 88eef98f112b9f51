/-
  'TurnerBefore' in plain Lean: the machine of the words whose output is accepted.
-/
import Derived.Test.YtckghdhnmpnljaaMachT
set_option linter.unusedSimpArgs false
set_option linter.unusedVariables false
namespace Dec
open Go Go.Proofs

/-- a loop that counts, with an invariant of its state -/
theorem loop_inv {τ : Type} {B : Int × τ → (Int × τ → Prop) → Prop} (n : Nat) (I : Nat → τ → Prop) {s0 : τ} (h0 : I 0 s0)
    (h : ∀ i : Nat, i ≤ n → ∀ s, I i s → ∀ X : Int × τ → Prop, (∀ s', i < n → I (i + 1) s' → X ((i : Int) + 1, s')) → B ((i : Int), s) X) : Loop B (0, s0) := by
  refine Loop.by (fun s => ∃ i : Nat, i ≤ n ∧ I i s.2 ∧ s.1 = (i : Int)) (fun s => ((n : Int) - s.1).toNat) ⟨0, by omega, h0, rfl⟩ ?_
  rintro ⟨c, s⟩ ⟨i, hi, hP, rfl⟩ X hX
  exact h i hi s hP X fun s' hlt hP' => hX _ ⟨i + 1, by omega, hP', by simp⟩ (by simp only; omega)

theorem small_mul {x y : Int} (hx : 0 ≤ x ∧ x ≤ 7) (hy : 0 ≤ y ∧ y ≤ 7) : 0 ≤ x * y ∧ x * y ≤ 49 :=
  ⟨Int.mul_nonneg hx.1 hy.1, by have := Int.mul_le_mul hx.2 hy.2 hy.1 (by omega : (0:Int) ≤ 7); omega⟩

def rowT (t : Tn) (m : Mach) (i j : Nat) : List Int := (List.range t.2.1.toNat).map fun (s : Nat) => nextT t (i : Int) (s : Int) * m.1 + runM m (j : Int) (outT t (i : Int) (s : Int))

structure TInv (t : Tn) (m : Mach) (nb c : Nat) (out : Int) (rows : List (List Int)) : Prop where
  len : rows.length = c
  row : ∀ u, u < c → rows.getD u [] = rowT t m (u / nb) (u % nb)
  u32 : U32 out
  bit : ∀ u, bt out u = (decide (u < c) && bt m.2.2.2.2 (u % nb))

theorem tinv_zero (t : Tn) (m : Mach) (nb : Nat) : TInv t m nb 0 0 [] := ⟨rfl, by intro u hu; omega, u32_zero, by intro u; simp [bt_zero]⟩

theorem divmod {i j nb : Nat} (h : j < nb) : (i * nb + j) / nb = i ∧ (i * nb + j) % nb = j := by
  have h0 : 0 < nb := by omega
  constructor
  · rw [Nat.mul_comm, Nat.mul_add_div h0, Nat.div_eq_of_lt h]; rfl
  · rw [Nat.mul_comm, Nat.mul_add_mod, Nat.mod_eq_of_lt h]

theorem tinv_step {t : Tn} {m : Mach} {nb i j : Nat} {out : Int} {rows : List (List Int)} (h : TInv t m nb (i * nb + j) out rows) (hj : j < nb) (ht : i * nb + j < 32) :
    TInv t m nb (i * nb + j + 1) (if bt m.2.2.2.2 j then bOr .u32 out (bShl .u32 1 ((i * nb + j : Nat) : Int)) else out) (rows ++ [rowT t m i j]) := by
  obtain ⟨h1, h2⟩ := divmod (i := i) hj
  refine ⟨by simp [h.len], fun u hu => ?_, ?_, fun u => ?_⟩
  · by_cases hut : u < i * nb + j
    · have := h.row u hut
      rw [getD_lt _ (by rw [h.len]; omega)] at this
      rw [getD_lt _ (by simp [h.len]; omega), List.getElem_append_left (by rw [h.len]; omega)]
      exact this
    · have : u = i * nb + j := by omega
      subst this
      rw [getD_lt _ (by simp [h.len]), List.getElem_append_right (by rw [h.len]; omega)]
      simp [h1, h2]
  · split
    · exact u32_or h.u32 (u32_shl1 _)
    · exact h.u32
  · by_cases hut : u = i * nb + j
    · subst hut
      rw [h2]
      have hb := h.bit (i * nb + j)
      simp at hb
      split
      · rename_i hc
        rw [bt_or h.u32 (u32_shl1 _), bt_shl1 ht]
        simp [hc]
      · rename_i hc
        rw [hb]
        simp at hc
        simp [hc]
    · have hb := h.bit u
      have e : decide (u < i * nb + j + 1) = decide (u < i * nb + j) := by
        by_cases h3 : u < i * nb + j
        · simp [h3]; omega
        · have : ¬ u < i * nb + j + 1 := by omega
          simp [h3, this]
      rw [e, ← hb]
      split
      · rw [bt_or h.u32 (u32_shl1 _), bt_shl1 ht]
        simp; omega
      · rfl

structure BothM (t : Tn) (b m : Mach) : Prop where
  n : m.1 = t.1 * b.1
  k : m.2.1 = t.2.1
  start : m.2.2.2.1 = t.2.2.2.2.2 * b.1 + b.2.2.2.1
  inv : TInv t b b.1.toNat (t.1.toNat * b.1.toNat) m.2.2.2.2 m.2.2.1

theorem VC20_of {t : Tn} {b : Mach} (hb : Ok MachT b) {K : Mach × Int → Prop}
    (h1 : ¬ (GoodT t ∧ GoodM b ∧ b.2.1 = t.2.2.1 ∧ t.1 * b.1 ≤ 7) → ∀ e, e ≠ 0 → K ((0, (0, ([], (0, 0)))), e))
    (h2 : GoodT t → GoodM b → b.2.1 = t.2.2.1 → t.1 * b.1 ≤ 7 → ∀ m, BothM t b m → K (m, 0)) : VC20 t b K := by
  have ub := ok_mach hb
  unfold VC20
  refine VC39_of (fun e he hno => ⟨fun _ => h1 (fun hg => hno hg.1) e he, fun hc => absurd (by simpa using hc) he⟩) (fun gt => ⟨fun hc => by simp at hc, fun _ => ?_⟩)
  refine VC43_of hb ⟨fun hc => h1 (fun hg => ?_) _ (by simpa using hc), fun hc => ?_⟩
  · rw [(chkM_zero b).2 hg.2.1] at hc; simp at hc
  have gb : GoodM b := (chkM_zero b).1 (by simpa using hc)
  obtain ⟨b1, b2, b3, b4, b5⟩ := id gb
  obtain ⟨b11, b12, b13, b14⟩ := b1
  have tn := gt.n
  have tk := gt.k
  have tst := gt.start
  obtain ⟨na, hna⟩ : ∃ n : Nat, t.1 = (n : Int) := ⟨t.1.toNat, by omega⟩
  obtain ⟨nb, hnb⟩ : ∃ n : Nat, b.1 = (n : Int) := ⟨b.1.toNat, by omega⟩
  obtain ⟨k, hk⟩ : ∃ n : Nat, t.2.1 = (n : Int) := ⟨t.2.1.toNat, by omega⟩
  have hab := small_mul (x := t.1) (y := b.1) ⟨by omega, by omega⟩ ⟨by omega, by omega⟩
  have hsb := small_mul (x := t.2.2.2.2.2) (y := b.1) ⟨tst.1, by have := tst.2; omega⟩ ⟨by omega, by omega⟩
  have hIn : ∀ n : Int, 0 ≤ n ∧ n ≤ 100 → InR n := fun n hn => ⟨by omega, by omega⟩
  refine ⟨fun hk' => ?_, fun hk' => ⟨hIn _ ⟨by omega, by omega⟩, fun hm => ?_, fun hm => ⟨hIn _ ⟨by omega, by omega⟩, hIn _ ⟨by omega, by omega⟩, hIn _ ⟨by have := b4.1; omega, by have := b4.2; omega⟩, ?_⟩⟩⟩
  · simp at hk'
    exact h1 (fun hh => hk' hh.2.2.1) _ (by omega)
  · simp at hm
    exact h1 (fun hh => by have := hh.2.2.2; omega) _ (by omega)
  simp at hk' hm
  have hle : na * nb ≤ 7 := by
    have : ((na * nb : Nat) : Int) ≤ 7 := by rw [Int.natCast_mul, ← hna, ← hnb]; omega
    omega
  refine loop_inv na (fun i s => TInv t b nb (i * nb) s.1 s.2) (by simpa using tinv_zero t b nb) ?_
  rintro i hi ⟨out, rows⟩ hT X hX
  simp only at hT
  unfold VC20_l1
  refine ⟨fun hlt => ?_, fun hge => ?_⟩
  · simp only [decide_eq_true_eq] at hlt
    have hina : i < na := by omega
    have hmul : i * nb + nb ≤ na * nb := by have := Nat.mul_le_mul_right nb (show i + 1 ≤ na by omega); rw [Nat.add_mul] at this; omega
    refine loop_inv nb (fun j s => TInv t b nb (i * nb + j) s.1 s.2) hT ?_
    rintro j hj ⟨out2, rows2⟩ hT2 X2 hX2
    simp only at hT2
    unfold VC20_l2
    refine ⟨fun hlt2 => ⟨⟨by omega, by omega⟩, ?_⟩, fun hge2 => ?_⟩
    · simp only [decide_eq_true_eq] at hlt2
      have hjb : j < nb := by omega
      have hk2 : t.2.1.toNat = k := by omega
      have hia : i < t.2.2.2.1.length := by have := gt.lenN; omega
      have hio : i < t.2.2.2.2.1.length := by have := gt.lenO; omega
      have hrla := gt.rowN _ (getD_mem (d := ([] : List Int)) hia)
      have hrlo := gt.rowO _ (getD_mem (d := ([] : List (List Int))) hio)
      refine loop_inv k (fun s row => row.length = k ∧ ∀ u, u < s → row.getD u 0 = nextT t (i : Int) (u : Int) * b.1 + runM b (j : Int) (outT t (i : Int) (u : Int))) ⟨by simp [hk2], by intro u hu; omega⟩ ?_
      rintro s hs row ⟨hr1, hr2⟩ X3 hX3
      unfold VC20_l3
      refine ⟨fun hc3 => ?_, fun hc3 => ?_⟩
      · simp only [decide_eq_true_eq, List.length_replicate, hk2] at hc3
        have hsk : s < k := by omega
        have hxa := next_goodT gt (q := (i : Int)) (s := (s : Int)) ⟨by omega, by omega⟩ ⟨by omega, by omega⟩
        have hxo := out_goodT gt (q := (i : Int)) (s := (s : Int)) ⟨by omega, by omega⟩ ⟨by omega, by omega⟩
        have hxm := small_mul (x := nextT t i s) (y := b.1) ⟨by omega, by omega⟩ ⟨by omega, by omega⟩
        have ea : ((t.2.2.2.1.getD ((i : Int)).toNat ([] : List Int)).getD ((s : Int)).toNat (0 : Int)) = nextT t i s := rfl
        have eo : ((t.2.2.2.2.1.getD ((i : Int)).toNat ([] : List (List Int))).getD ((s : Int)).toNat ([] : List Int)) = outT t i s := rfl
        refine ⟨⟨by omega, by omega⟩, ⟨by omega, by simp only [Int.toNat_natCast]; omega⟩, ?_⟩
        have hsym : ∀ x ∈ outT t (i : Int) (s : Int), 0 ≤ x ∧ x < b.2.1 := fun x hx => by have := hxo.2 x hx; omega
        refine Loop.by (fun z : Int × Int => ∃ e : Nat, z.2 = (e : Int) ∧ e ≤ (outT t (i : Int) (s : Int)).length ∧ z.1 = runM b (j : Int) ((outT t (i : Int) (s : Int)).take e)) (fun z => (((outT t (i : Int) (s : Int)).length : Int) - z.2).toNat) ⟨0, rfl, by omega, by simp [runM]⟩ ?_
        rintro ⟨to, e'⟩ ⟨e, e1, he, eto⟩ X4 hX4
        dsimp only at e1 eto
        subst e1 eto
        unfold VC20_l4
        dsimp only
        rw [eo]
        have hrun := run_good gb (w := (outT t (i : Int) (s : Int)).take e) (q := (j : Int)) ⟨by omega, by omega⟩ (fun x hx => hsym x (List.mem_of_mem_take hx))
        refine ⟨fun hc4 => ?_, fun hc4 => ?_⟩
        · simp only [decide_eq_true_eq] at hc4
          simp only [Int.toNat_natCast]
          have hel : e < (outT t (i : Int) (s : Int)).length := by omega
          have hx := hsym _ (getD_mem (d := (0 : Int)) hel)
          have hlen := b2.1
          have mrow : b.2.2.1.getD (runM b (j : Int) ((outT t (i : Int) (s : Int)).take e)).toNat [] ∈ b.2.2.1 := getD_mem (by omega)
          have hrl := b2.2 _ mrow
          refine ⟨⟨by omega, by omega⟩, ⟨by omega, by omega⟩, ⟨by omega, by omega⟩, ⟨by omega, by omega⟩, hX4 _ ⟨e + 1, by simp, by omega, ?_⟩ (by dsimp only; omega)⟩
          dsimp only
          rw [List.take_succ_eq_append_getElem hel, ← getD_lt (0 : Int) hel, runM_append]
          simp [runM, nextM]
        · simp only [decide_eq_false_iff_not] at hc4
          have : e = (outT t (i : Int) (s : Int)).length := by omega
          subst this
          rw [List.take_length] at hrun ⊢
          unfold VC20_k5
          rw [ea]
          simp only [Int.toNat_natCast]
          refine ⟨⟨by omega, by omega⟩, ⟨by omega, by omega⟩, hIn _ ⟨by omega, by omega⟩, hIn _ ⟨by omega, by omega⟩, ⟨by omega, by omega⟩, ⟨by omega, by omega⟩, hX3 _ hsk ⟨by simp [hr1], fun u hu => ?_⟩⟩
          by_cases hus : u = s
          · subst hus
            rw [getD_lt _ (by simp [hr1]; omega), List.getElem_set_self]
          · rw [getD_lt _ (by simp [hr1]; omega), List.getElem_set_ne (by omega)]
            have := hr2 u (by omega)
            rw [getD_lt _ (by rw [hr1]; omega)] at this
            exact this
      · simp only [decide_eq_false_iff_not, List.length_replicate, hk2] at hc3
        have hsk : s = k := by omega
        subst hsk
        have hrow : row = rowT t b i j := by
          refine ext_getD 0 (by simp [rowT, hr1, hk2]) fun u hu => ?_
          rw [hr2 u (by omega), rowT, getD_lt _ (by simp [hk2]; omega)]
          simp
        subst hrow
        have hlen := hT2.len
        have hlt7 : i * nb + j < na * nb := by omega
        have hnext := tinv_step hT2 hjb (by omega)
        have hcast : (i : Int) * b.1 + (j : Int) = ((i * nb + j : Nat) : Int) := by rw [hnb]; simp
        have hib := small_mul (x := (i : Int)) (y := b.1) ⟨by omega, by omega⟩ ⟨by omega, by omega⟩
        unfold VC20_k3 VC20_k4
        refine ⟨by unfold roomN; simp; omega, ?_⟩
        refine VC44_of ub (by omega) ?_
        simp only [Int.toNat_natCast]
        rw [hcast]
        refine ⟨fun hh => ⟨hIn _ ⟨by omega, by omega⟩, hIn _ ⟨by omega, by omega⟩, by omega, ?_⟩, fun hh => ?_⟩
        · rw [if_pos hh] at hnext
          exact ⟨⟨by omega, by omega⟩, hX2 _ hjb (by simpa [Nat.add_assoc] using hnext)⟩
        · rw [if_neg (by rw [hh]; decide)] at hnext
          exact ⟨⟨by omega, by omega⟩, hX2 _ hjb (by simpa [Nat.add_assoc] using hnext)⟩
    · simp only [decide_eq_false_iff_not] at hge2
      have : j = nb := by omega
      subst this
      unfold VC20_k2
      refine ⟨⟨by omega, by omega⟩, hX _ hina ?_⟩
      simp only
      rw [Nat.add_mul]
      simpa using hT2
  · simp only [decide_eq_false_iff_not] at hge
    have : i = na := by omega
    subst this
    unfold VC20_k1
    refine h2 gt gb hk' (by omega) _ ⟨rfl, rfl, rfl, ?_⟩
    simp only
    have e1 : t.1.toNat = i := by omega
    have e2 : b.1.toNat = nb := by omega
    rw [e1, e2]
    exact hT

theorem both_next {t : Tn} {b m : Mach} (gt : GoodT t) (gb : GoodM b) (h : BothM t b m) {p q s : Int} (hp : 0 ≤ p ∧ p < t.1) (hq : 0 ≤ q ∧ q < b.1) (hs : 0 ≤ s ∧ s < t.2.1) :
    nextM m (p * b.1 + q) s = nextT t p s * b.1 + runM b q (outT t p s) := by
  obtain ⟨i, rfl⟩ : ∃ n : Nat, p = (n : Int) := ⟨p.toNat, by omega⟩
  obtain ⟨j, rfl⟩ : ∃ n : Nat, q = (n : Int) := ⟨q.toNat, by omega⟩
  obtain ⟨na, hna⟩ : ∃ n : Nat, t.1 = (n : Int) := ⟨t.1.toNat, by omega⟩
  obtain ⟨nb, hnb⟩ : ∃ n : Nat, b.1 = (n : Int) := ⟨b.1.toNat, by omega⟩
  have hinv := h.inv
  rw [hna, hnb] at hinv
  simp only [Int.toNat_natCast] at hinv
  have hjb : j < nb := by omega
  have hlt : i * nb + j < na * nb := by have := Nat.mul_le_mul_right nb (show i + 1 ≤ na by omega); rw [Nat.add_mul] at this; omega
  have hcast : ((i : Int) * b.1 + (j : Int)).toNat = i * nb + j := by rw [hnb, ← Int.natCast_mul, ← Int.natCast_add, Int.toNat_natCast]
  obtain ⟨e1, e2⟩ := divmod (i := i) hjb
  have hr := hinv.row _ hlt
  rw [e1, e2] at hr
  unfold nextM
  rw [hcast, hr, rowT, getD_lt _ (by simp; omega)]
  have : ((s.toNat : Nat) : Int) = s := by omega
  simp [this]

theorem both_run {t : Tn} {b m : Mach} (gt : GoodT t) (gb : GoodM b) (h : BothM t b m) (hk : b.2.1 = t.2.2.1) : ∀ {w : List Int} {p q : Int}, (0 ≤ p ∧ p < t.1) → (0 ≤ q ∧ q < b.1) → (∀ s ∈ w, 0 ≤ s ∧ s < t.2.1) →
    runM m (p * b.1 + q) w = (writeT t p w).1 * b.1 + runM b q (writeT t p w).2
  | [], p, q, _, _, _ => rfl
  | s :: w, p, q, hp, hq, hw => by
    have hs := hw s (by simp)
    have h1 := both_next gt gb h hp hq hs
    have ho := out_goodT gt hp hs
    show runM m (nextM m (p * b.1 + q) s) w = _
    rw [h1, both_run gt gb h hk (next_goodT gt hp hs) (run_good gb hq (fun x hx => by have := ho.2 x hx; omega)) fun x hx => hw x (by simp [hx])]
    simp only [writeT, runM_append]

theorem both_lt {a c : Int} {b : Mach} {p q : Int} (hp : 0 ≤ p ∧ p < a) (hq : 0 ≤ q ∧ q < b.1) : 0 ≤ p * b.1 + q ∧ p * b.1 + q < a * b.1 := by
  have h1 : (p + 1) * b.1 ≤ a * b.1 := Int.mul_le_mul_of_nonneg_right (by omega) (by omega)
  rw [Int.add_mul] at h1
  have h2 : 0 ≤ p * b.1 := Int.mul_nonneg hp.1 (by omega)
  omega

theorem both_good {t : Tn} {b m : Mach} (gt : GoodT t) (gb : GoodM b) (h : BothM t b m) (hk : b.2.1 = t.2.2.1) (hle : t.1 * b.1 ≤ 7) : GoodM m := by
  obtain ⟨b1, b2, b3, b4, b5⟩ := id gb
  obtain ⟨b11, b12, b13, b14⟩ := b1
  have tn := gt.n
  have tk := gt.k
  obtain ⟨na, hna⟩ : ∃ n : Nat, t.1 = (n : Int) := ⟨t.1.toNat, by omega⟩
  obtain ⟨nb, hnb⟩ : ∃ n : Nat, b.1 = (n : Int) := ⟨b.1.toNat, by omega⟩
  have hinv := h.inv
  rw [hna, hnb] at hinv
  simp only [Int.toNat_natCast] at hinv
  have hpos : 1 ≤ t.1 * b.1 := by have := Int.mul_le_mul tn.1 b11 (by omega) (by omega); omega
  have hmn : m.1 = ((na * nb : Nat) : Int) := by rw [h.n, hna, hnb]; simp
  have hrows : ∀ l ∈ m.2.2.1, ∃ i j, i < na ∧ j < nb ∧ l = rowT t b i j := by
    intro l hl
    obtain ⟨c, hc, rfl⟩ := List.mem_iff_getElem.1 hl
    have := hinv.row c (by rw [← hinv.len]; exact hc)
    rw [getD_lt _ hc] at this
    rw [hinv.len] at hc
    exact ⟨c / nb, c % nb, Nat.div_lt_of_lt_mul (by rw [Nat.mul_comm]; exact hc), Nat.mod_lt _ (by omega), this⟩
  refine ⟨⟨by rw [h.n]; exact hpos, by rw [h.n]; exact hle, by rw [h.k]; exact tk.1, by rw [h.k]; exact tk.2⟩, ⟨by rw [hinv.len, hmn], ?_⟩, ?_, ?_, ?_⟩
  · intro l hl
    obtain ⟨i, j, _, _, rfl⟩ := hrows l hl
    rw [h.k]; simp [rowT]; omega
  · intro l hl n hn
    obtain ⟨i, j, hi, hj, rfl⟩ := hrows l hl
    simp only [rowT, List.mem_map, List.mem_range] at hn
    obtain ⟨s, hs, rfl⟩ := hn
    rw [h.n]
    have ho := out_goodT gt (q := (i : Int)) (s := (s : Int)) ⟨by omega, by omega⟩ ⟨by omega, by omega⟩
    exact both_lt (c := 0) (next_goodT gt ⟨by omega, by omega⟩ ⟨by omega, by omega⟩) (run_good gb ⟨by omega, by omega⟩ (fun x hx => by have := ho.2 x hx; omega))
  · unfold mD
    rw [h.start, h.n]
    exact both_lt (c := 0) gt.start b4
  · unfold mE
    rw [hmn, Int.toNat_natCast, below_bt hinv.u32]
    intro i hi
    rw [hinv.bit]
    have : ¬ i < na * nb := by omega
    simp [this]

theorem both_bit {t : Tn} {b m : Mach} (gt : GoodT t) (gb : GoodM b) (h : BothM t b m) {p q : Int} (hp : 0 ≤ p ∧ p < t.1) (hq : 0 ≤ q ∧ q < b.1) :
    bt m.2.2.2.2 (p * b.1 + q).toNat = bt b.2.2.2.2 q.toNat := by
  obtain ⟨i, rfl⟩ : ∃ n : Nat, p = (n : Int) := ⟨p.toNat, by omega⟩
  obtain ⟨j, rfl⟩ : ∃ n : Nat, q = (n : Int) := ⟨q.toNat, by omega⟩
  obtain ⟨na, hna⟩ : ∃ n : Nat, t.1 = (n : Int) := ⟨t.1.toNat, by have := gt.n; omega⟩
  obtain ⟨nb, hnb⟩ : ∃ n : Nat, b.1 = (n : Int) := ⟨b.1.toNat, by omega⟩
  have hinv := h.inv
  rw [hna, hnb] at hinv
  simp only [Int.toNat_natCast] at hinv
  have hjb : j < nb := by omega
  have hlt : i * nb + j < na * nb := by have := Nat.mul_le_mul_right nb (show i + 1 ≤ na by omega); rw [Nat.add_mul] at this; omega
  have hcast : ((i : Int) * b.1 + (j : Int)).toNat = i * nb + j := by rw [hnb, ← Int.natCast_mul, ← Int.natCast_add, Int.toNat_natCast]
  obtain ⟨e1, e2⟩ := divmod (i := i) hjb
  rw [hcast, hinv.bit, e2]
  simp [hlt]

theorem ok_u32 {s : Int} (h : U32 s) : Ok (.int .u32) s := by
  show IntKind.u32.min ≤ s ∧ s ≤ IntKind.u32.max
  simp only [IntKind.min, IntKind.max, IntKind.signed, IntKind.bits]
  obtain ⟨h1, h2⟩ := h
  simp
  omega

theorem ok_of_good {m : Mach} (g : GoodM m) (h : U32 m.2.2.2.2) : Ok MachT m := by
  obtain ⟨⟨a1, a2, a3, a4⟩, ⟨b1, b2⟩, c, d, e⟩ := g
  obtain ⟨d1, d2⟩ := d
  refine ⟨mk_ok64 ⟨by omega, by omega⟩, mk_ok64 ⟨by omega, by omega⟩, ⟨by omega, fun l hl => ⟨by have := b2 l hl; omega, fun n hn => ?_⟩⟩, mk_ok64 ⟨by omega, by omega⟩, ok_u32 h⟩
  have := c l hl n hn
  exact mk_ok64 ⟨by omega, by omega⟩

theorem VC22_of {m : Mach} {w : List Int} (hm : Ok MachT m) (g : GoodM m) {K : Int × Bool × Int → Prop} (hbad : ∀ e, e ≠ 0 → ¬ GoodW m.2.1 w → K (0, false, e))
    (h : GoodW m.2.1 w → K (runM m m.2.2.2.1 w, bt m.2.2.2.2 (runM m m.2.2.2.1 w).toNat, 0)) : VC22 m w K := by
  have um := ok_mach hm
  obtain ⟨a, b, c, d, e⟩ := id g
  unfold VC22
  refine VC43_of hm ⟨fun hc => by rw [(chkM_zero m).2 g] at hc; simp at hc, fun _ => ?_⟩
  refine VC40_of ⟨a.2.2.1, a.2.2.2⟩ (fun e he hno => ⟨fun _ => hbad e he hno, fun hc => absurd (by simpa using hc) he⟩) (fun hw => ⟨fun hc => by simp at hc, fun _ => ?_⟩)
  have h := h hw
  obtain ⟨hwl, hws⟩ := hw
  refine Loop.by (fun s : Int × Int => ∃ i : Nat, s.2 = (i : Int) ∧ i ≤ w.length ∧ s.1 = runM m m.2.2.2.1 (w.take i)) (fun s => ((w.length : Int) - s.2).toNat) ⟨0, rfl, by omega, by simp [runM]⟩ ?_
  rintro ⟨q, i'⟩ ⟨i, e1, hi, e2⟩ X hX
  dsimp only at e1 e2
  subst e1 e2
  have hq := run_good g d (fun x hx => hws x (List.mem_of_mem_take (i := i) hx))
  unfold VC22_l1 VC22_k1
  dsimp only
  simp only [Int.toNat_natCast]
  refine ⟨fun hb => ?_, fun hb => ?_⟩
  · simp only [decide_eq_true_eq] at hb
    have hil : i < w.length := by omega
    have hs := hws _ (getD_mem (d := (0 : Int)) hil)
    have hlen := b.1
    have mrow : m.2.2.1.getD (runM m m.2.2.2.1 (w.take i)).toNat [] ∈ m.2.2.1 := getD_mem (by omega)
    have hrl := b.2 _ mrow
    refine ⟨⟨by omega, by omega⟩, ⟨by omega, by omega⟩, ⟨by omega, by omega⟩, ⟨by omega, by omega⟩, hX _ ⟨i + 1, by simp, by omega, ?_⟩ (by dsimp only; omega)⟩
    dsimp only
    rw [List.take_succ_eq_append_getElem hil, ← getD_lt (0 : Int) hil, runM_append]
    simp [runM, nextM]
  · simp only [decide_eq_false_iff_not] at hb
    have : i = w.length := by omega
    subst this
    rw [List.take_length] at hq ⊢
    exact VC44_of um hq.1 h

theorem turnerBefore {t : Tn} {m : Mach} {w : List Int} (hm : Ok MachT m) : VC5 t m w (fun b => b = true) := by
  unfold VC5
  -- the answers are wanted: is anything out of order?
  have rest : ∀ (p : Mach) (e : Int) (x : List Int) (f : Int), ¬ (GoodT t ∧ GoodM m ∧ GoodW t.2.1 w) → (e ≠ 0 ∨ f ≠ 0) → VC15 t (fun (ret30v : Bool) => gcall (α := Int) (!(!ret30v)) (VC21 m) (0 : Int) (fun (ret34v : Int) => gcall (α := Int) (!((!ret30v) || (!decide (ret34v = (0 : Int))))) (VC16 t.2.1 w) (0 : Int) (fun (ret41v : Int) => (((((!ret30v) || (!decide (ret34v = (0 : Int)))) || (!decide (ret41v = (0 : Int)))) = true → ((!decide (e = (0 : Int))) || (!decide (f = (0 : Int)))) = true) ∧ ((((!ret30v) || (!decide (ret34v = (0 : Int)))) || (!decide (ret41v = (0 : Int)))) = false → (((!decide (f = (0 : Int))) = true → (false : Bool) = true) ∧ ((!decide (f = (0 : Int))) = false → (((!decide (e = (0 : Int))) = true → (decide (p.1 = (0 : Int))) = true) ∧ ((!decide (e = (0 : Int))) = false → VC22 p w (fun (ret60v : Int × Bool × Int) => VC22 m x (fun (ret67v : Int × Bool × Int) => ((decide (ret60v.2.2 = (0 : Int))) && (((decide ((12 : Int) < (x.length : Int))) && (!decide (ret67v.2.2 = (0 : Int)))) || ((decide (ret67v.2.2 = (0 : Int))) && (ret60v.2.1 == ret67v.2.1)))) = true))))))))))) := by
    intro p e x f hno hef
    have hK : ((!decide (e = (0 : Int))) || (!decide (f = (0 : Int)))) = true := by
      rcases hef with h | h <;> simp [h]
    refine VC15_of fun b hb => ?_
    refine gcall_both (fun hb1 => VC21_of hm ?_) (fun hb1 => ?_)
    · have hbt : b = true := by simpa using hb1
      subst hbt
      have gt := hb.1 rfl
      refine gcall_both (fun hc => VC16_of (fun e2 he2 _ => ?_) (fun hw => ?_)) (fun hc => ?_)
      · exact ⟨fun _ => hK, fun hd => by simp [he2] at hd⟩
      · have hz : chkM m = 0 := by simpa using hc
        exact absurd ⟨gt, (chkM_zero m).1 hz, hw⟩ hno
      · have hz : ¬ chkM m = 0 := by simpa using hc
        exact ⟨fun _ => hK, fun hd => by simp [hz] at hd⟩
    · have hbt : b = false := by simpa using hb1
      subst hbt
      refine gcall_both (fun hc => by simp at hc) (fun hc => ⟨fun _ => hK, fun hd => by simp at hd⟩)
  by_cases hg : GoodT t ∧ GoodM m ∧ GoodW t.2.1 w
  · obtain ⟨gt, gm, gw⟩ := hg
    have hz := (chkM_zero m).2 gm
    refine VC20_of hm (fun _ e he => ?_) (fun _ _ hk hle p hp => ?_)
    · refine VC14_of (fun e2 he2 hno => absurd ⟨gt, gw⟩ hno) fun _ _ => VC15_of fun b hb => ?_
      have hb := hb.2 gt
      subst hb
      refine gcall_both (fun _ => VC21_of hm ?_) (fun hc => by simp at hc)
      rw [hz]
      refine gcall_both (fun _ => VC16_of (fun e2 he2 hno => absurd gw hno) fun _ => ?_) (fun hc => by simp at hc)
      refine ⟨fun hc => by simp at hc, fun _ => ⟨fun hc => by simp at hc, fun _ => ⟨fun _ => by simp, fun hc => absurd (by simpa using hc) he⟩⟩⟩
    · have gp := both_good gt gm hp hk hle
      have op : Ok MachT p := ok_of_good gp hp.inv.u32
      refine VC14_of (fun e2 he2 hno => absurd ⟨gt, gw⟩ hno) fun _ _ => VC15_of fun b hb => ?_
      have hb := hb.2 gt
      subst hb
      refine gcall_both (fun _ => VC21_of hm ?_) (fun hc => by simp at hc)
      rw [hz]
      refine gcall_both (fun _ => VC16_of (fun e2 he2 hno => absurd gw hno) fun _ => ?_) (fun hc => by simp at hc)
      refine ⟨fun hc => by simp at hc, fun _ => ⟨fun hc => by simp at hc, fun _ => ⟨fun hc => by simp at hc, fun _ => ?_⟩⟩⟩
      have gwp : GoodW p.2.1 w := by rw [hp.k]; exact gw
      refine VC22_of op gp (fun e2 he2 hno => absurd gwp hno) fun _ => ?_
      have hwr := write_good gt w t.2.2.2.2.2 gt.start gw.2
      have hsym : ∀ x ∈ (writeT t t.2.2.2.2.2 w).2, 0 ≤ x ∧ x < m.2.1 := fun x hx => by have := hwr.2.2 x hx; omega
      refine VC22_of hm gm (fun e2 he2 hno => ?_) fun _ => ?_
      · have : 12 < (writeT t t.2.2.2.2.2 w).2.length := Nat.lt_of_not_le fun hle => hno ⟨hle, hsym⟩
        have hd : decide ((12 : Int) < ((writeT t t.2.2.2.2.2 w).2.length : Int)) = true := decide_eq_true (by omega)
        simp [hd, he2]
      · have hr := both_run gt gm hp hk (w := w) gt.start gm.2.2.2.1 gw.2
        rw [← hp.start] at hr
        rw [hr, both_bit gt gm hp hwr.1 (run_good gm gm.2.2.2.1 hsym)]
        simp
  · by_cases hgt : GoodT t ∧ GoodM m
    · have hnw : ¬ GoodW t.2.1 w := fun hw => hg ⟨hgt.1, hgt.2, hw⟩
      refine VC20_of hm (fun _ e he => ?_) (fun _ _ _ _ p _ => ?_)
      · exact VC14_of (fun f hf _ => rest _ e _ f hg (Or.inl he)) (fun _ hw => absurd hw hnw)
      · exact VC14_of (fun f hf _ => rest p 0 _ f hg (Or.inr hf)) (fun _ hw => absurd hw hnw)
    · refine VC20_of hm (fun _ e he => ?_) (fun h1 h2 => absurd ⟨h1, h2⟩ hgt)
      exact VC14_of (fun f hf _ => rest _ e _ f hg (Or.inl he)) (fun _ _ => rest _ e _ 0 hg (Or.inl he))
end Dec
