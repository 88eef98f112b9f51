/-
  'TallyBack' in plain Lean.
-/
import Derived.Test.YtfigkkmiallghaaPump
set_option linter.unusedSimpArgs false
set_option linter.unusedVariables false
namespace Dec
open Go Go.Proofs

theorem getD_set {α : Type} (l : List α) (i j : Nat) (x d : α) (hi : i < l.length) : (l.set i x).getD j d = if j = i then x else l.getD j d := by
  by_cases h : j = i
  · subst h
    rw [getD_lt _ (by simpa using hi)]; simp
  · by_cases hj : j < l.length
    · rw [getD_lt _ (by simpa using hj), getD_lt _ hj, List.getElem_set_ne (by omega)]; simp [h]
    · rw [getD_ge _ (by simp; omega), getD_ge _ (by omega)]; simp [h]

theorem sum_bound {α : Type} (f : α → Int) {B : Int} : ∀ l : List α, (∀ x ∈ l, 0 ≤ f x ∧ f x ≤ B) → 0 ≤ (l.map f).sum ∧ (l.map f).sum ≤ (l.length : Int) * B
  | [], _ => by simp
  | x :: l, h => by
    have h1 := h x (by simp)
    have h2 := sum_bound f l fun y hy => h y (by simp [hy])
    simp only [List.map_cons, List.sum_cons, List.length_cons, Int.natCast_add, Int.add_mul]
    omega

theorem sum_pair {α : Type} (f g : α → Int) {C : Int} : ∀ l : List α, (∀ x ∈ l, f x + g x = C) → (l.map f).sum + (l.map g).sum = (l.length : Int) * C
  | [], _ => by simp
  | x :: l, h => by
    have h1 := h x (by simp)
    have h2 := sum_pair f g l fun y hy => h y (by simp [hy])
    simp only [List.map_cons, List.sum_cons, List.length_cons, Int.natCast_add, Int.add_mul]
    omega

def rowM (m : Mach) (q : Int) : List Int := m.2.2.1.getD q.toNat []

/-- how many words of so many symbols are taken from a state -/
def cnt (m : Mach) : Nat → Int → Int
  | 0, q => if bt m.2.2.2.2 q.toNat then 1 else 0
  | t + 1, q => ((rowM m q).map (cnt m t)).sum

/-- of the first s symbols -/
def rsum (m : Mach) (t : Nat) (q : Int) (s : Nat) : Int := (((rowM m q).take s).map (cnt m t)).sum

theorem rsum_succ (m : Mach) (t : Nat) (q : Int) {s : Nat} (h : s < (rowM m q).length) : rsum m t q (s + 1) = rsum m t q s + cnt m t (nextM m q (s : Int)) := by
  unfold rsum
  rw [List.take_succ_eq_append_getElem h, List.map_append, List.sum_append, ← getD_lt (0 : Int) h]
  simp [nextM, rowM, -List.getD_eq_getElem?_getD]

theorem rsum_all (m : Mach) (t : Nat) (q : Int) {s : Nat} (h : (rowM m q).length ≤ s) : rsum m t q s = cnt m (t + 1) q := by
  unfold rsum
  rw [List.take_of_length_le h]
  rfl

theorem rowM_good {m : Mach} (g : GoodM m) {q : Int} (hq : 0 ≤ q ∧ q < m.1) : ((rowM m q).length : Int) = m.2.1 ∧ ∀ x ∈ rowM m q, 0 ≤ x ∧ x < m.1 := by
  obtain ⟨a, b, c, d, e⟩ := g
  have hm : rowM m q ∈ m.2.2.1 := getD_mem (by have := b.1; omega)
  exact ⟨b.2 _ hm, c _ hm⟩

theorem cnt_bound {m : Mach} (g : GoodM m) : ∀ t {q : Int}, 0 ≤ q ∧ q < m.1 → 0 ≤ cnt m t q ∧ cnt m t q ≤ ((3 ^ t : Nat) : Int)
  | 0, q, _ => by unfold cnt; split <;> simp
  | t + 1, q, hq => by
    obtain ⟨h1, h2⟩ := rowM_good g hq
    have h3 := sum_bound (cnt m t) (rowM m q) fun x hx => cnt_bound g t (h2 x hx)
    have hk := g.1.2.2.2
    refine ⟨h3.1, Int.le_trans h3.2 ?_⟩
    rw [Nat.pow_succ, Int.natCast_mul, Int.mul_comm]
    exact Int.mul_le_mul_of_nonneg_left (by omega) (Int.natCast_nonneg _)

theorem pow3 {t : Nat} (h : t ≤ 12) : ((3 ^ t : Nat) : Int) ≤ 531441 := by
  have : (3 : Nat) ^ t ≤ 3 ^ 12 := Nat.pow_le_pow_right (by decide) h
  have e : (3 : Nat) ^ 12 = 531441 := by decide
  omega

theorem cnt_small {m : Mach} (g : GoodM m) {t : Nat} (h : t ≤ 12) {q : Int} (hq : 0 ≤ q ∧ q < m.1) : 0 ≤ cnt m t q ∧ cnt m t q ≤ 531441 := by
  have := cnt_bound g t hq
  have := pow3 h
  omega

theorem rsum_bound {m : Mach} (g : GoodM m) {t : Nat} (h : t ≤ 12) {q : Int} (hq : 0 ≤ q ∧ q < m.1) (s : Nat) : 0 ≤ rsum m t q s ∧ rsum m t q s ≤ 1594323 := by
  obtain ⟨h1, h2⟩ := rowM_good g hq
  have h3 := sum_bound (cnt m t) ((rowM m q).take s) fun x hx => cnt_small g h (h2 x (List.mem_of_mem_take hx))
  have hk := g.1.2.2.2
  have : ((rowM m q).take s).length ≤ 3 := by rw [List.length_take]; omega
  unfold rsum
  omega

theorem cnt_not {m : Mach} (hm : Ok MachT m) (g : GoodM m) {k : Nat} (hk : m.2.1 = (k : Int)) : ∀ t {q : Int}, 0 ≤ q ∧ q < m.1 → cnt m t q + cnt (notM m) t q = ((k ^ t : Nat) : Int)
  | 0, q, hq => by
    unfold cnt
    rw [not_bit hm g hq]
    cases bt m.2.2.2.2 q.toNat <;> simp
  | t + 1, q, hq => by
    obtain ⟨h1, h2⟩ := rowM_good g hq
    have := sum_pair (cnt m t) (cnt (notM m) t) (rowM m q) fun x hx => cnt_not hm g hk t (h2 x hx)
    have e : rowM (notM m) q = rowM m q := rfl
    unfold cnt
    rw [e, this, h1, hk, Nat.pow_succ, Int.natCast_mul, Int.mul_comm]

def rowC (m : Mach) (t : Nat) : List Int := (List.range m.1.toNat).map fun (q : Nat) => cnt m t (q : Int)
def table (m : Mach) (n : Nat) : List (List Int) := (List.range n).map (rowC m)

theorem rowC_get {m : Mach} {t : Nat} {q : Int} (hq : 0 ≤ q ∧ q < m.1) : (rowC m t).getD q.toNat 0 = cnt m t q := by
  have : q.toNat < m.1.toNat := by omega
  rw [rowC, getD_lt _ (by simpa using this)]
  have e : ((q.toNat : Nat) : Int) = q := by omega
  simp [e]

theorem table_get {m : Mach} {n t : Nat} (h : t < n) : (table m n).getD t [] = rowC m t := by
  rw [table, getD_lt _ (by simpa using h)]; simp

theorem rowC_len (m : Mach) (t : Nat) : (rowC m t).length = m.1.toNat := by simp [rowC]
theorem table_len (m : Mach) (n : Nat) : (table m n).length = n := by simp [table]

theorem VC57_of {m : Mach} (hm : Ok MachT m) (g : GoodM m) {n : Nat} (hn : n ≤ 12) {K : List (List Int) → Prop} (h : K (table m (n + 1))) : VC57 m (n : Int) K := by
  have hu := ok_mach hm
  obtain ⟨⟨a1, a2, a3, a4⟩, b, c, d, e⟩ := id g
  obtain ⟨N, hN⟩ : ∃ N : Nat, m.1 = (N : Int) := ⟨m.1.toNat, by omega⟩
  have hNn : m.1.toNat = N := by omega
  have hlen : m.2.2.1.length = N := by have := b.1; omega
  unfold VC57
  refine ⟨⟨by omega, by omega⟩, ?_⟩
  refine loop_inv N (fun v row => row.length = N ∧ ∀ q, q < N → row.getD q 0 = if q < v then cnt m 0 (q : Int) else 0) ⟨by simp [hNn], fun q hq => by rw [getD_lt _ (by simp [hNn]; omega)]; simp⟩ ?_
  rintro v hv row ⟨hr1, hr2⟩ X hX
  try dsimp only
  unfold VC57_l4
  refine ⟨fun hlt => VC42_of hu (by omega) ?_, fun hge => ?_⟩
  · simp only [decide_eq_true_eq, List.length_replicate, hNn] at hlt
    have hvN : v < N := by omega
    simp only [Int.toNat_natCast]
    refine ⟨fun hb => ⟨⟨by omega, by omega⟩, ⟨by omega, by omega⟩, hX _ hvN ⟨by simpa using hr1, fun q hq => ?_⟩⟩, fun hb => ⟨⟨by omega, by omega⟩, hX _ hvN ⟨hr1, fun q hq => ?_⟩⟩⟩
    · rw [getD_set _ _ _ _ _ (by omega), hr2 q hq]
      by_cases hqv : q = v
      · subst hqv; simp [cnt, hb]
      · have : (q < v + 1) ↔ q < v := by omega
        simp [hqv, this]
    · rw [hr2 q hq]
      by_cases hqv : q = v
      · subst hqv; simp [cnt, hb]
      · have : (q < v + 1) ↔ q < v := by omega
        simp [this]
  simp only [decide_eq_false_iff_not, List.length_replicate, hNn] at hge
  have hvN : v = N := by omega
  have hrow : row = rowC m 0 := by
    refine ext_getD 0 (by rw [rowC_len, hr1, hNn]) fun q hq => ?_
    rw [hr2 q (by omega), if_pos (by omega)]
    have := rowC_get (m := m) (t := 0) (q := (q : Int)) ⟨by omega, by omega⟩
    simpa using this.symm
  subst hrow
  unfold VC57_k1
  refine Loop.by (fun s : List Int × Int × List (List Int) => ∃ t : Nat, t ≤ n ∧ s.1 = rowC m t ∧ s.2.1 = (t : Int) ∧ s.2.2 = table m (t + 1)) (fun s => ((n : Int) - s.2.1).toNat) ⟨0, by omega, rfl, rfl, rfl⟩ ?_
  rintro ⟨row2, c1, out⟩ ⟨t, ht, e1, e2, e3⟩ X hX
  simp only at e1 e2 e3
  subst e1 e2 e3
  try dsimp only
  unfold VC57_l1
  refine ⟨fun hlt => ⟨⟨by omega, by omega⟩, ?_⟩, fun hge => ?_⟩
  · simp only [decide_eq_true_eq] at hlt
    refine loop_inv N (fun v row => row.length = N ∧ ∀ q, q < N → row.getD q 0 = if q < v then cnt m (t + 1) (q : Int) else 0) ⟨by simp [hNn], fun q hq => by rw [getD_lt _ (by simp [hNn]; omega)]; simp⟩ ?_
    rintro v2 hv2 next ⟨hx1, hx2⟩ X2 hX2
    try dsimp only
    unfold VC57_l2
    refine ⟨fun hlt2 => ⟨?_, ?_⟩, fun hge2 => ?_⟩
    · simp only [decide_eq_true_eq, List.length_replicate, hNn] at hlt2
      exact ⟨by omega, by omega⟩
    · simp only [decide_eq_true_eq, List.length_replicate, hNn] at hlt2
      have hv2N : v2 < N := by omega
      have hq2 : (0 : Int) ≤ (v2 : Int) ∧ (v2 : Int) < m.1 := ⟨by omega, by omega⟩
      obtain ⟨hl, hin⟩ := rowM_good g hq2
      have erow : m.2.2.1.getD ((v2 : Int)).toNat ([] : List Int) = rowM m (v2 : Int) := rfl
      refine loop_inv (rowM m (v2 : Int)).length (fun s row => row.length = N ∧ ∀ q, q < N → row.getD q 0 = if q < v2 then cnt m (t + 1) (q : Int) else if q = v2 then rsum m t (v2 : Int) s else 0) ⟨hx1, fun q hq => ?_⟩ ?_
      · rw [hx2 q hq]
        by_cases h1 : q < v2 <;> by_cases h2 : q = v2 <;> simp [h1, h2, rsum]
      rintro s hs next2 ⟨hy1, hy2⟩ X3 hX3
      try dsimp only
      unfold VC57_l3
      rw [erow]
      refine ⟨fun hlt3 => ?_, fun hge3 => ?_⟩
      · simp only [decide_eq_true_eq] at hlt3
        have hsl : s < (rowM m (v2 : Int)).length := by omega
        have hto := hin _ (getD_mem (d := (0 : Int)) hsl)
        simp only [Int.toNat_natCast]
        rw [rowC_get hto]
        have hyv := hy2 v2 hv2N
        simp only [Nat.lt_irrefl, if_false, if_true] at hyv
        have hb1 := rsum_bound g (t := t) (by omega) hq2 s
        have hb2 := cnt_small g (t := t) (by omega) hto
        have hsucc := rsum_succ m t (v2 : Int) hsl
        have hnx : nextM m (v2 : Int) (s : Int) = (rowM m (v2 : Int)).getD s 0 := rfl
        rw [hnx] at hsucc
        rw [hyv, ← hsucc]
        refine ⟨⟨by omega, by omega⟩, ⟨by omega, by omega⟩, ⟨by omega, by rw [rowC_len]; omega⟩, ⟨by omega, by omega⟩, ⟨by omega, by omega⟩, ⟨by omega, by omega⟩, hX3 _ hsl ⟨by simpa using hy1, fun q hq => ?_⟩⟩
        rw [getD_set _ _ _ _ _ (by omega), hy2 q hq]
        by_cases h1 : q = v2
        · subst h1; simp
        · simp [h1]
      · simp only [decide_eq_false_iff_not] at hge3
        have hsl : (rowM m (v2 : Int)).length ≤ s := by omega
        unfold VC57_k4
        refine ⟨⟨by omega, by omega⟩, hX2 _ hv2N ⟨hy1, fun q hq => ?_⟩⟩
        rw [hy2 q hq]
        by_cases h1 : q = v2
        · subst h1
          simp [rsum_all m t (q : Int) hsl]
        · have : (q < v2 + 1) ↔ q < v2 := by omega
          simp [h1, this]
    · simp only [decide_eq_false_iff_not, List.length_replicate, hNn] at hge2
      have hrow : next = rowC m (t + 1) := by
        refine ext_getD 0 (by rw [rowC_len, hx1, hNn]) fun q hq => ?_
        rw [hx2 q (by omega), if_pos (by omega)]
        have := rowC_get (m := m) (t := t + 1) (q := (q : Int)) ⟨by omega, by omega⟩
        simpa using this.symm
      subst hrow
      unfold VC57_k3
      refine ⟨by unfold roomN; rw [table_len]; simp; omega, ⟨by omega, by omega⟩, hX _ ⟨t + 1, by omega, rfl, by simp, ?_⟩ (by simp only; omega)⟩
      simp only
      unfold table
      rw [List.range_succ (n := t + 1), List.map_append]
      rfl
  · simp only [decide_eq_false_iff_not] at hge
    have : t = n := by omega
    subst this
    unfold VC57_k2
    exact h

/-- how many words of n symbols come before those that begin so -/
def pp (m : Mach) : Nat → Int → List Int → Int
  | _, _, [] => 0
  | n, q, s :: u => rsum m (n - 1) q s.toNat + pp m (n - 1) (nextM m q s) u

theorem pp_snoc (m : Mach) : ∀ (u : List Int) (n : Nat) (q s : Int), pp m n q (u ++ [s]) = pp m n q u + rsum m (n - u.length - 1) (runM m q u) s.toNat
  | [], n, q, s => by simp [pp, runM]
  | x :: u, n, q, s => by
    simp only [List.cons_append, pp, pp_snoc m u]
    have : n - 1 - u.length - 1 = n - (x :: u).length - 1 := by simp; omega
    rw [this]
    simp only [runM, List.foldl_cons]
    omega

theorem VC56_of {m : Mach} {n : Int} (hm : Ok MachT m) {K : Int → Prop} (hbad : ∀ e, e ≠ 0 → ¬ (GoodM m ∧ 0 ≤ n ∧ n ≤ 12) → K e) (h : GoodM m → 0 ≤ n → n ≤ 12 → K 0) : VC56 m n K := by
  unfold VC56
  refine VC40_of hm ⟨fun hc => hbad _ (by simpa using hc) fun hg => ?_, fun hc => ⟨fun hb => hbad 1 (by omega) fun hg => ?_, fun hb => ?_⟩⟩
  · rw [(chkM_zero m).2 hg.1] at hc; simp at hc
  · simp at hb; omega
  · simp at hb
    exact h ((chkM_zero m).1 (by simpa using hc)) (by omega) (by omega)

theorem VC33_of {m : Mach} {n : Int} (hm : Ok MachT m) {K : Int × Int → Prop} (hbad : ∀ e, e ≠ 0 → ¬ (GoodM m ∧ 0 ≤ n ∧ n ≤ 12) → K (0, e)) (h : GoodM m → 0 ≤ n → n ≤ 12 → K (cnt m n.toNat m.2.2.2.1, 0)) : VC33 m n K := by
  unfold VC33
  refine VC56_of hm (fun e he hno => ⟨fun _ => hbad e he hno, fun hc => ?_⟩) (fun g h0 h12 => ⟨fun hc => ?_, fun _ => ?_⟩)
  · exfalso; simp at hc; exact he hc
  · simp at hc
  obtain ⟨k, rfl⟩ : ∃ k : Nat, n = (k : Int) := ⟨n.toNat, by omega⟩
  have hd := g.2.2.2.1
  refine VC57_of hm g (by omega) ?_
  simp only [Int.toNat_natCast]
  rw [table_get (by omega), rowC_get hd]
  have hd1 := hd.1
  have hd2 := hd.2
  exact ⟨⟨by omega, by rw [table_len]; omega⟩, ⟨hd1, by rw [rowC_len]; omega⟩, by simpa using h g (by omega) (by omega)⟩

/-- what is at that place -/
structure AtPlace (m : Mach) (n : Nat) (i : Int) (w : List Int) : Prop where
  len : w.length = n
  sym : ∀ s ∈ w, 0 ≤ s ∧ s < m.2.1
  acc : bt m.2.2.2.2 (runM m m.2.2.2.1 w).toNat = true
  plc : pp m n m.2.2.2.1 w = i

theorem VC34_of {m : Mach} {n i : Int} (hm : Ok MachT m) {K : List Int × Int → Prop} (hbad : ∀ e, e ≠ 0 → ¬ (GoodM m ∧ 0 ≤ n ∧ n ≤ 12) → K ([], e))
    (hnone : GoodM m → 0 ≤ n → n ≤ 12 → ¬ (0 ≤ i ∧ i < cnt m n.toNat m.2.2.2.1) → K ([], 5)) (h : GoodM m → 0 ≤ n → n ≤ 12 → (0 ≤ i ∧ i < cnt m n.toNat m.2.2.2.1) → ∀ w, AtPlace m n.toNat i w → K (w, 0)) : VC34 m n i K := by
  unfold VC34
  refine VC56_of hm (fun e he hno => ⟨fun _ => hbad e he hno, fun hc => ?_⟩) (fun g h0 h12 => ⟨fun hc => ?_, fun _ => ?_⟩)
  · exfalso; simp at hc; exact he hc
  · simp at hc
  obtain ⟨k, rfl⟩ : ∃ k : Nat, n = (k : Int) := ⟨n.toNat, by omega⟩
  simp only [Int.toNat_natCast] at hnone h
  have hd := g.2.2.2.1
  have hd1 := hd.1
  have hd2 := hd.2
  refine VC57_of hm g (by omega) ?_
  simp only [Int.toNat_natCast]
  simp only [table_get (show k < k + 1 by omega), rowC_get hd]
  refine ⟨fun _ => ⟨by omega, by rw [table_len]; omega⟩, fun _ => ⟨hd1, by rw [rowC_len]; omega⟩, fun hc => hnone g (by omega) (by omega) (by simp at hc; omega), fun hc => ⟨⟨by omega, by omega⟩, ?_⟩⟩
  have hi : 0 ≤ i ∧ i < cnt m k m.2.2.2.1 := by simp at hc; omega
  refine Loop.by (fun s : Int × Int × Int × List Int => ∃ l : Nat, l ≤ k ∧ s.2.2.1 = (l : Int) - 1 ∧ s.2.2.2.length = k - l ∧ (∀ x ∈ s.2.2.2, 0 ≤ x ∧ x < m.2.1) ∧ s.2.1 = runM m m.2.2.2.1 s.2.2.2 ∧ (0 ≤ s.1 ∧ s.1 < cnt m l s.2.1) ∧ pp m k m.2.2.2.1 s.2.2.2 + s.1 = i)
    (fun s => (s.2.2.1 + 1).toNat) ⟨k, Nat.le_refl _, rfl, by simp, by simp, rfl, hi, by simp [pp]⟩ ?_
  rintro ⟨i2, at_, left, out⟩ ⟨l, hl, e1, hlen, hsym, e2, hi2, hpl⟩ X hX
  simp only at e1 hlen hsym e2 hi2 hpl
  subst e1 e2
  have hat := run_good g hd hsym
  try dsimp only
  unfold VC34_l1
  refine ⟨fun hlt => ⟨⟨by omega, by have := g.2.1.1; omega⟩, ?_⟩, fun hge => ?_⟩
  · simp only [decide_eq_true_eq] at hlt
    obtain ⟨l', rfl⟩ : ∃ l', l = l' + 1 := ⟨l - 1, by omega⟩
    have hleft : (((l' + 1 : Nat) : Int) - 1) = (l' : Int) := by omega
    rw [hleft]
    obtain ⟨hrl, hin⟩ := rowM_good g hat
    have erow : m.2.2.1.getD (runM m m.2.2.2.1 out).toNat ([] : List Int) = rowM m (runM m m.2.2.2.1 out) := rfl
    refine Loop.by (fun s : Int × Int => ∃ v : Nat, v ≤ (rowM m (runM m m.2.2.2.1 out)).length ∧ s.2 = (v : Int) ∧ 0 ≤ s.1 ∧ s.1 = i2 - rsum m l' (runM m m.2.2.2.1 out) v) (fun s => (((rowM m (runM m m.2.2.2.1 out)).length : Int) - s.2).toNat) ⟨0, by omega, rfl, hi2.1, by simp [rsum]⟩ ?_
    rintro ⟨i3, c⟩ ⟨v, hv, e1, h3, e3⟩ X2 hX2
    simp only at e1 h3 e3
    subst e1
    try dsimp only
    unfold VC34_l2
    rw [erow]
    simp only [Int.toNat_natCast]
    refine ⟨fun hlt2 => ?_, fun hge2 => ?_⟩
    · simp only [decide_eq_true_eq] at hlt2
      have hvl : v < (rowM m (runM m m.2.2.2.1 out)).length := by omega
      have hto := hin _ (getD_mem (d := (0 : Int)) hvl)
      simp only [table_get (show l' < k + 1 by omega), rowC_get hto]
      have hk3 := g.1.2.2.2
      have hb1 := rsum_bound g (t := l') (by omega) hat v
      have hb2 := cnt_small g (t := l') (by omega) hto
      have hb3 := cnt_small g (t := l' + 1) (by omega) hat
      have hsucc := rsum_succ m l' (runM m m.2.2.2.1 out) hvl
      have hnx : nextM m (runM m m.2.2.2.1 out) (v : Int) = (rowM m (runM m m.2.2.2.1 out)).getD v 0 := rfl
      rw [hnx] at hsucc
      refine ⟨⟨by omega, by omega⟩, ⟨by omega, by rw [table_len]; omega⟩, ⟨hto.1, by rw [rowC_len]; omega⟩, fun hc => ?_, fun hc => ?_⟩
      · simp only [decide_eq_true_eq] at hc
        refine ⟨by unfold roomN; simp; omega, ?_⟩
        unfold VC34_k2
        have hrun : runM m m.2.2.2.1 (out ++ [(v : Int)]) = (rowM m (runM m m.2.2.2.1 out)).getD v 0 := by rw [runM_append, ← hnx]; rfl
        refine ⟨⟨by omega, by omega⟩, hX _ ⟨l', by omega, rfl, by simp; omega, ?_, hrun.symm, ⟨h3, hc⟩, ?_⟩ (by simp only; omega)⟩
        · intro x hx
          simp only [List.mem_append, List.mem_singleton] at hx
          rcases hx with hx | rfl
          · exact hsym x hx
          · exact ⟨by omega, by omega⟩
        · simp only
          rw [pp_snoc]
          have : k - out.length - 1 = l' := by omega
          rw [this]
          simp only [Int.toNat_natCast]
          omega
      · simp only [decide_eq_false_iff_not] at hc
        exact ⟨⟨by omega, by rw [table_len]; omega⟩, ⟨hto.1, by rw [rowC_len]; omega⟩, ⟨by omega, by omega⟩, ⟨by omega, by omega⟩, hX2 _ ⟨v + 1, by omega, by simp, by simp only; omega, by simp only; omega⟩ (by simp only; omega)⟩
    · simp only [decide_eq_false_iff_not] at hge2
      exfalso
      have := rsum_all m l' (runM m m.2.2.2.1 out) (s := v) (by omega)
      omega
  · simp only [decide_eq_false_iff_not] at hge
    have : l = 0 := by omega
    subst this
    unfold VC34_k1
    have hacc : bt m.2.2.2.2 (runM m m.2.2.2.1 out).toNat = true ∧ i2 = 0 := by
      have := hi2.2
      simp only [cnt] at this
      split at this
      · rename_i hb; exact ⟨hb, by omega⟩
      · omega
    exact h g (by omega) (by omega) hi out ⟨by omega, hsym, hacc.1, by omega⟩

theorem VC35_of {m : Mach} {w : List Int} (hm : Ok MachT m) {K : Int × Int → Prop} (g : GoodM m) (gw : GoodW m.2.1 w) (h : K (pp m w.length m.2.2.2.1 w, 0)) : VC35 m w K := by
  unfold VC35
  refine VC55_of hm (fun e he hno => absurd ⟨g, gw⟩ hno) (fun _ _ => ⟨fun hc => ?_, fun _ => ?_⟩)
  · simp at hc
  have hwl := gw.1
  have hst := stM_good g gw
  refine VC57_of hm g hwl ?_
  refine Loop.by (fun s : Int × Int × Int => ∃ j : Nat, j ≤ w.length ∧ s.2.2 = (j : Int) ∧ s.2.1 = stM m w j ∧ s.1 = pp m w.length m.2.2.2.1 (w.take j) ∧ 0 ≤ s.1 ∧ s.1 ≤ 2000000 * (j : Int)) (fun s => ((w.length : Int) - s.2.2).toNat) ⟨0, by omega, rfl, rfl, rfl, by simp, by simp⟩ ?_
  rintro ⟨n, at_, c⟩ ⟨j, hj, e1, e2, e3, hn0, hn1⟩ X hX
  simp only at e1 e2 e3 hn0 hn1
  subst e1 e2
  try dsimp only
  unfold VC35_l1
  refine ⟨fun hlt => ?_, fun hge => ?_⟩
  · simp only [decide_eq_true_eq] at hlt
    have hjl : j < w.length := by omega
    have hq := hst j
    have hs := gw.2 _ (getD_mem (d := (0 : Int)) hjl)
    obtain ⟨hrl, hin⟩ := rowM_good g hq
    have erow : m.2.2.1.getD (stM m w j).toNat ([] : List Int) = rowM m (stM m w j) := rfl
    simp only [Int.toNat_natCast]
    rw [erow]
    refine ⟨⟨by omega, by omega⟩, ⟨by omega, by have := g.2.1.1; omega⟩, ⟨hs.1, by omega⟩, ?_⟩
    obtain ⟨z, hz⟩ : ∃ z : Nat, w.getD j 0 = (z : Int) := ⟨(w.getD j 0).toNat, by omega⟩
    refine Loop.by (fun s : Int × Int => ∃ v : Nat, v ≤ z ∧ s.2 = (v : Int) ∧ s.1 = n + rsum m (w.length - 1 - j) (stM m w j) v) (fun s => ((z : Int) - s.2).toNat) ⟨0, by omega, rfl, by simp [rsum]⟩ ?_
    rintro ⟨n2, c⟩ ⟨v, hv, e1, e4⟩ X2 hX2
    simp only at e1 e4
    subst e1
    try dsimp only
    unfold VC35_l2
    simp only [Int.toNat_natCast, erow, hz]
    have htl : ((rowM m (stM m w j)).take z).length = z := by rw [List.length_take]; omega
    have hk3 := g.1.2.2.2
    have hb1 := rsum_bound g (t := w.length - 1 - j) (by omega) hq v
    simp only [htl]
    refine ⟨fun hlt2 => ?_, fun hge2 => ?_⟩
    · simp only [decide_eq_true_eq] at hlt2
      have hvl : v < (rowM m (stM m w j)).length := by omega
      have hto := hin _ (getD_mem (d := (0 : Int)) hvl)
      have etake : ((rowM m (stM m w j)).take z).getD v 0 = (rowM m (stM m w j)).getD v 0 := by
        rw [getD_lt _ (by omega), getD_lt _ hvl, List.getElem_take]
      have eidx : ((((w.length : Int) - (1 : Int)) - (j : Int))).toNat = w.length - 1 - j := by omega
      rw [etake, eidx, table_get (by omega), rowC_get hto]
      have hb2 := cnt_small g (t := w.length - 1 - j) (by omega) hto
      have hsucc := rsum_succ m (w.length - 1 - j) (stM m w j) hvl
      have hnx : nextM m (stM m w j) (v : Int) = (rowM m (stM m w j)).getD v 0 := rfl
      rw [hnx] at hsucc
      exact ⟨⟨by omega, by omega⟩, ⟨by omega, by omega⟩, ⟨by omega, by omega⟩, ⟨by omega, by rw [table_len]; omega⟩, ⟨hto.1, by rw [rowC_len]; omega⟩, ⟨by omega, by omega⟩, ⟨by omega, by omega⟩, hX2 _ ⟨v + 1, by omega, by simp, by simp only; omega⟩ (by simp only; omega)⟩
    · simp only [decide_eq_false_iff_not] at hge2
      have : v = z := by omega
      subst this
      unfold VC35_k2
      simp only [Int.toNat_natCast, erow, hz]
      refine ⟨⟨by omega, by have := g.2.1.1; omega⟩, ⟨by omega, by omega⟩, ⟨by omega, by omega⟩, hX _ ⟨j + 1, by omega, by simp, ?_, ?_, by simp only; omega, by simp only; omega⟩ (by simp only; omega)⟩
      · simp only
        rw [stM_succ m hjl, hz]
        rfl
      · simp only
        rw [List.take_succ_eq_append_getElem hjl, ← getD_lt (0 : Int) hjl, pp_snoc, ← e3, hz, e4]
        have : w.length - (w.take j).length - 1 = w.length - 1 - j := by rw [List.length_take]; omega
        rw [this]
        rfl
  · simp only [decide_eq_false_iff_not] at hge
    have : j = w.length := by omega
    subst this
    unfold VC35_k1
    rw [List.take_length] at e3
    rw [e3]
    exact h

theorem tallyBack {m : Mach} {n i : Int} (hm : Ok MachT m) : VC12 m n i (fun b => b = true) := by
  unfold VC12
  refine VC33_of hm (fun e he hno => VC34_of hm (fun e2 he2 _ => VC26_of hm ⟨fun _ => (by simp [he, he2]), fun hc => ?_⟩) (fun g h0 h12 _ => absurd ⟨g, h0, h12⟩ hno) (fun g h0 h12 _ => absurd ⟨g, h0, h12⟩ hno)) (fun g h0 h12 => ?_)
  · exfalso
    simp only [Bool.or_eq_false_iff, Bool.not_eq_false', decide_eq_true_eq, decide_eq_false_iff_not] at hc
    exact hno ⟨(chkM_zero m).1 hc.1.1, by omega, by omega⟩
  obtain ⟨k, rfl⟩ : ∃ k : Nat, n = (k : Int) := ⟨n.toNat, by omega⟩
  simp only [Int.toNat_natCast]
  have hchk : chkM m = 0 := (chkM_zero m).2 g
  have hd := g.2.2.2.1
  have gn := not_good hm g
  have on : Ok MachT (notM m) := ok_of_good gn (u32_andNot _ _)
  have hN : notR m = (notM m, 0) := by unfold notR; rw [if_pos hchk]
  obtain ⟨K0, hK0⟩ : ∃ K0 : Nat, m.2.1 = (K0 : Int) := ⟨m.2.1.toNat, by have := g.1.2.2.1; omega⟩
  have hcn := cnt_not hm g hK0 k hd
  have hb1 := cnt_small g (t := k) (by omega) hd
  have hb2 := cnt_small gn (t := k) (by omega) (q := m.2.2.2.1) hd
  have hpow : ∀ t : Nat, t ≤ 12 → ((K0 ^ t : Nat) : Int) ≤ 531441 := fun t ht => by
    have h1 : K0 ^ t ≤ 3 ^ t := Nat.pow_le_pow_left (by have := g.1.2.2.2; omega) t
    have := pow3 ht
    omega
  have rest : ∀ (r : List Int × Int), (r = ([], 5) ∧ ¬ (0 ≤ i ∧ i < cnt m k m.2.2.2.1)) ∨ (r.2 = 0 ∧ (0 ≤ i ∧ i < cnt m k m.2.2.2.1) ∧ AtPlace m k i r.1) →
      VC26 m (fun (ret34v : Int) => (((((!decide (ret34v = (0 : Int))) || (decide ((k : Int) < (0 : Int)))) || (decide ((12 : Int) < (k : Int)))) = true → ((!decide ((cnt m k m.2.2.2.1, (0 : Int)).2 = (0 : Int))) && (!decide (r.2 = (0 : Int)))) = true) ∧ ((((!decide (ret34v = (0 : Int))) || (decide ((k : Int) < (0 : Int)))) || (decide ((12 : Int) < (k : Int)))) = false →
        VC18 m (fun ret52v => VC33 ret52v.1 (k : Int) (fun (ret58v : Int × Int) => Loop (σ := Int × Int) (fun s X => VC12_l1 m (k : Int) i (fun b => b = true) (cnt m k m.2.2.2.1, (0 : Int)) r ret52v ret58v s.1 s.2 X) ((1 : Int), (0 : Int))))))) := by
    intro r hr
    refine VC26_of hm ⟨fun hc => ?_, fun _ => VC18_of hm ?_⟩
    · exfalso
      rw [hchk] at hc
      simp at hc
      omega
    rw [hN]
    refine VC33_of on (fun e he hno => absurd ⟨gn, h0, h12⟩ hno) fun _ _ _ => ?_
    simp only [Int.toNat_natCast]
    refine loop_state' k (fun t => ((K0 ^ t : Nat) : Int)) (fun _ => True) trivial ?_
    intro t ht _ X hX
    try dsimp only
    unfold VC12_l1
    refine ⟨fun hlt => ?_, fun hge => ?_⟩
    · simp only [decide_eq_true_eq] at hlt
      have e : ((K0 ^ t : Nat) : Int) * m.2.1 = ((K0 ^ (t + 1) : Nat) : Int) := by rw [hK0, Nat.pow_succ, Int.natCast_mul]
      rw [e]
      have := hpow (t + 1) (by omega)
      exact ⟨⟨by omega, by omega⟩, ⟨by omega, by omega⟩, hX (by omega) trivial⟩
    · simp only [decide_eq_false_iff_not] at hge
      have : t = k := by omega
      subst this
      have hsn : (notM m).2.2.2.1 = m.2.2.2.1 := rfl
      unfold VC12_k1
      rw [hsn, ← hcn]
      refine ⟨fun _ => ⟨by simp only; omega, by simp only; omega⟩, fun hc => ?_, fun hc => ?_⟩
      · exfalso
        rcases hr with ⟨rfl, hno⟩ | ⟨hr1, hr2, hr3⟩
        · simp at hc
          omega
        · simp [hr1] at hc
          omega
      · rcases hr with ⟨rfl, hno⟩ | ⟨hr1, hr2, hr3⟩
        · exact ⟨fun _ => (by simp), fun hc => (by simp at hc)⟩
        · refine ⟨fun hc => (by simp [hr1] at hc), fun _ => ?_⟩
          have gw : GoodW m.2.1 r.1 := ⟨by have := hr3.len; omega, hr3.sym⟩
          refine VC35_of hm g gw (VC15_of hm ?_)
          rw [runR_good g gw]
          have h1 := hr3.len
          have h2 := hr3.plc
          have h3 := hr3.acc
          rw [h1, h2, h3]
          simp
  exact VC34_of hm (fun e2 he2 hno => absurd ⟨g, h0, h12⟩ hno) (fun _ _ _ hno => rest ([], 5) (.inl ⟨rfl, by simpa using hno⟩)) (fun _ _ _ hi w hw => rest (w, 0) (.inr ⟨rfl, by simpa using hi, by simpa using hw⟩))
end Dec
