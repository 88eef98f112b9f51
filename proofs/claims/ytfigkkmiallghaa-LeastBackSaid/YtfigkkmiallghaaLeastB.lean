/-
  The least machine in plain Lean: how it is built, and that it takes the same words.
-/
import Derived.Test.YtfigkkmiallghaaLeast
set_option linter.unusedSimpArgs false
set_option linter.unusedVariables false
namespace Dec
open Go Go.Proofs

theorem VC49_of {s : List Int} {v : Int} (hl : s.length ≤ 4611686018427387904) {K : Int → Prop} (h : K (idxOf (fun y => decide (v = y)) s)) : VC49 s v K := by
  have := VCidx_of (d := (0 : Int)) (s := s) (F := fun y K' => K' (decide (v = y))) (K := K) (fun y => decide (v = y)) hl (fun x _ K' h => h) h
  exact this

/-- a state's row, and the classes that are found while it is made: of s symbols -/
def rowStep (m : Mach) (cl : List Int) (x : Int) : Nat → List Int → List Int × List Int
  | 0, found => (found, [])
  | s + 1, found =>
    let r := rowStep m cl x s found
    let c := cl.getD (nextM m x (s : Int)).toNat 0
    let n := idxOf (fun y => decide (c = y)) r.1
    if n < 0 then (r.1 ++ [c], r.2 ++ [(r.1.length : Int)]) else (r.1, r.2 ++ [n])

theorem rowStep_len (m : Mach) (cl : List Int) (x : Int) : ∀ s found, (rowStep m cl x s found).2.length = s
  | 0, found => rfl
  | s + 1, found => by
    have := rowStep_len m cl x s found
    unfold rowStep
    dsimp only
    split <;> simp [this]

theorem rowStep_pre (m : Mach) (cl : List Int) (x : Int) : ∀ s found, ∃ l, (rowStep m cl x s found).1 = found ++ l
  | 0, found => ⟨[], by simp [rowStep]⟩
  | s + 1, found => by
    obtain ⟨l, hl⟩ := rowStep_pre m cl x s found
    unfold rowStep
    dsimp only
    split
    · exact ⟨l ++ [cl.getD (nextM m x (s : Int)).toNat 0], by rw [hl]; simp⟩
    · exact ⟨l, hl⟩

def stepL (m : Mach) (cl : List Int) (i : Nat) (S : Int × List Int × List (List Int)) : Int × List Int × List (List Int) :=
  let r := rowStep m cl (S.2.1.getD i 0) m.2.1.toNat S.2.1
  (if bt m.2.2.2.2 (r.1.getD i 0).toNat then bOr .u32 S.1 (bShl .u32 1 (i : Int)) else S.1, r.1, S.2.2 ++ [r.2])

def stL (m : Mach) (cl : List Int) : Nat → Int × List Int × List (List Int)
  | 0 => (0, [cl.getD m.2.2.2.1.toNat 0], [])
  | i + 1 => if i < (stL m cl i).2.1.length then stepL m cl i (stL m cl i) else stL m cl i

/-- the states that are found: each its class's smallest, no two the same -/
structure FoundL (m : Mach) (l : List Int) : Prop where
  rep : ∀ j, j < l.length → (0 ≤ l.getD j 0 ∧ l.getD j 0 < m.1) ∧ clI m (l.getD j 0).toNat = (l.getD j 0).toNat
  dist : ∀ j k, j < k → k < l.length → l.getD j 0 ≠ l.getD k 0

theorem FoundL.few {m : Mach} {l : List Int} (h : FoundL m l) : l.length ≤ m.1.toNat := by
  refine pigeon m.1.toNat l.length (fun j => (l.getD j 0).toNat) (fun j hj => ?_) fun j k hjk hk e => ?_
  · have := (h.rep j hj).1; show (l.getD j 0).toNat < m.1.toNat; omega
  · have h1 := (h.rep j (by omega)).1
    have h2 := (h.rep k hk).1
    have e' : (l.getD j 0).toNat = (l.getD k 0).toNat := e
    exact h.dist j k hjk hk (by omega)

theorem clI_rep {m : Mach} (x : Nat) : clI m (clI m x) = clI m x := by
  obtain ⟨h1, h2, h3⟩ := clI_spec m x
  obtain ⟨k1, k2, k3⟩ := clI_spec m (clI m x)
  refine Classical.byContradiction fun hn => ?_
  exact h3 (clI m (clI m x)) (by omega) (h2.trans k2)

theorem cl_good {m : Mach} {x : Int} (hx : 0 ≤ x ∧ x < m.1) : (0 ≤ (clM m).getD x.toNat 0 ∧ (clM m).getD x.toNat 0 < m.1) ∧ clI m ((clM m).getD x.toNat 0).toNat = ((clM m).getD x.toNat 0).toNat ∧ EqM m x ((clM m).getD x.toNat 0) := by
  rw [clM_get hx]
  obtain ⟨h1, h2, h3⟩ := clI_spec m x.toNat
  refine ⟨⟨by omega, by omega⟩, by rw [Int.toNat_natCast]; exact clI_rep _, ?_⟩
  have e : ((x.toNat : Nat) : Int) = x := by omega
  rw [e] at h2
  exact h2

theorem idxOf_spec (c : Int) (l : List Int) : (idxOf (fun y => decide (c = y)) l < 0 ∧ ∀ j, j < l.length → l.getD j 0 ≠ c) ∨ ∃ n : Nat, idxOf (fun y => decide (c = y)) l = (n : Int) ∧ n < l.length ∧ l.getD n 0 = c := by
  unfold idxOf
  cases h : l.findIdx? (fun y => decide (c = y)) with
  | none =>
    left
    rw [List.findIdx?_eq_none_iff] at h
    refine ⟨by simp, fun j hj e => ?_⟩
    have := h _ (getD_mem (d := (0 : Int)) hj)
    rw [e] at this
    simp at this
  | some i =>
    right
    rw [List.findIdx?_eq_some_iff_getElem] at h
    obtain ⟨hi, hf, _⟩ := h
    refine ⟨i, rfl, hi, ?_⟩
    rw [getD_lt _ hi]
    simp at hf
    exact hf.symm

theorem found_snoc {m : Mach} {l : List Int} (h : FoundL m l) {c : Int} (hc : (0 ≤ c ∧ c < m.1) ∧ clI m c.toNat = c.toNat) (hno : ∀ j, j < l.length → l.getD j 0 ≠ c) : FoundL m (l ++ [c]) := by
  have hold : ∀ j, j < l.length → (l ++ [c]).getD j 0 = l.getD j 0 := fun j hj => by
    rw [getD_lt _ (by simp; omega), getD_lt _ hj, List.getElem_append_left hj]
  have hnew : (l ++ [c]).getD l.length 0 = c := by rw [getD_lt _ (by simp)]; simp
  refine ⟨fun j hj => ?_, fun j k hjk hk => ?_⟩
  · simp at hj
    by_cases h2 : j < l.length
    · rw [hold j h2]; exact h.rep j h2
    · have : j = l.length := by omega
      subst this
      rw [hnew]; exact hc
  · simp at hk
    by_cases h2 : k < l.length
    · rw [hold j (by omega), hold k h2]; exact h.dist j k hjk h2
    · have : k = l.length := by omega
      subst this
      rw [hold j hjk, hnew]; exact hno j hjk

/-- a row that is made: each entry is the place of its class -/
structure RowOk (m : Mach) (x : Int) (s : Nat) (r : List Int × List Int) : Prop where
  found : FoundL m r.1
  len : r.2.length = s
  at_ : ∀ u : Nat, u < s → (0 ≤ r.2.getD u 0 ∧ r.2.getD u 0 < (r.1.length : Int)) ∧ r.1.getD (r.2.getD u 0).toNat 0 = (clM m).getD (nextM m x (u : Int)).toNat 0

theorem rowStep_ok {m : Mach} (g : GoodM m) {x : Int} (hx : 0 ≤ x ∧ x < m.1) {found : List Int} (hf : FoundL m found) : ∀ s : Nat, (s : Int) ≤ m.2.1 → RowOk m x s (rowStep m (clM m) x s found)
  | 0, _ => ⟨hf, rfl, fun u hu => absurd hu (by omega)⟩
  | s + 1, hs => by
    have ih := rowStep_ok g hx hf s (by omega)
    have hcl := cl_good (m := m) (next_good g hx (s := (s : Int)) ⟨by omega, by omega⟩)
    unfold rowStep
    dsimp only
    generalize hr : rowStep m (clM m) x s found = r at ih
    generalize hc : (clM m).getD (nextM m x (s : Int)).toNat 0 = c at hcl
    rcases idxOf_spec c r.1 with ⟨h1, h2⟩ | ⟨n, h1, h2, h3⟩
    · rw [if_pos h1]
      refine ⟨found_snoc ih.found ⟨hcl.1, hcl.2.1⟩ h2, by simp [ih.len], fun u hu => ?_⟩
      have e2 : (r.2 ++ [(r.1.length : Int)]).getD u 0 = if u < s then r.2.getD u 0 else (r.1.length : Int) := by
        by_cases hus : u < s
        · rw [if_pos hus, getD_lt _ (by simp [ih.len]; omega), getD_lt _ (by rw [ih.len]; exact hus), List.getElem_append_left (by rw [ih.len]; exact hus)]
        · have : u = s := by omega
          subst this
          rw [if_neg hus, getD_lt _ (by simp [ih.len]), List.getElem_append_right (by rw [ih.len]; omega)]
          simp [ih.len]
      dsimp only
      rw [e2]
      by_cases hus : u < s
      · obtain ⟨k1, k2⟩ := ih.at_ u hus
        rw [if_pos hus]
        refine ⟨⟨k1.1, by simp only [List.length_append, List.length_cons, List.length_nil]; omega⟩, ?_⟩
        rw [getD_lt _ (by simp only [List.length_append, List.length_cons, List.length_nil]; omega), List.getElem_append_left (by omega), ← getD_lt (0 : Int) (by omega)]
        exact k2
      · have : u = s := by omega
        subst this
        rw [if_neg hus]
        refine ⟨⟨by omega, by simp only [List.length_append, List.length_cons, List.length_nil]; omega⟩, ?_⟩
        rw [Int.toNat_natCast, getD_lt _ (by simp only [List.length_append, List.length_cons, List.length_nil]; omega)]
        simp [hc, -List.getD_eq_getElem?_getD]
    · rw [h1, if_neg (by omega)]
      refine ⟨ih.found, by simp [ih.len], fun u hu => ?_⟩
      have e2 : (r.2 ++ [(n : Int)]).getD u 0 = if u < s then r.2.getD u 0 else (n : Int) := by
        by_cases hus : u < s
        · rw [if_pos hus, getD_lt _ (by simp [ih.len]; omega), getD_lt _ (by rw [ih.len]; exact hus), List.getElem_append_left (by rw [ih.len]; exact hus)]
        · have : u = s := by omega
          subst this
          rw [if_neg hus, getD_lt _ (by simp [ih.len]), List.getElem_append_right (by rw [ih.len]; omega)]
          simp [ih.len]
      dsimp only
      rw [e2]
      by_cases hus : u < s
      · rw [if_pos hus]; exact ih.at_ u hus
      · have : u = s := by omega
        subst this
        rw [if_neg hus]
        exact ⟨⟨by omega, by omega⟩, by rw [Int.toNat_natCast, h3, hc]⟩

/-- what is known when i states are made -/
structure LInv (m : Mach) (i : Nat) (S : Int × List Int × List (List Int)) : Prop where
  found : FoundL m S.2.1
  first : 0 < S.2.1.length ∧ S.2.1.getD 0 0 = (clM m).getD m.2.2.2.1.toNat 0
  le : i ≤ S.2.1.length
  rows : S.2.2.length = i
  row : ∀ j, j < i → (S.2.2.getD j []).length = m.2.1.toNat ∧ ∀ u : Nat, (u : Int) < m.2.1 → (0 ≤ (S.2.2.getD j []).getD u 0 ∧ (S.2.2.getD j []).getD u 0 < (S.2.1.length : Int)) ∧
    S.2.1.getD ((S.2.2.getD j []).getD u 0).toNat 0 = (clM m).getD (nextM m (S.2.1.getD j 0) (u : Int)).toNat 0
  u32 : U32 S.1
  bit : ∀ j, bt S.1 j = (decide (j < i) && bt m.2.2.2.2 (S.2.1.getD j 0).toNat)

theorem getD_app_left {α : Type} {l l' : List α} {j : Nat} {d : α} (h : j < l.length) : (l ++ l').getD j d = l.getD j d := by
  rw [getD_lt _ (by simp; omega), getD_lt _ h, List.getElem_append_left h]

theorem stepL_inv {m : Mach} (g : GoodM m) {i : Nat} {S : Int × List Int × List (List Int)} (h : LInv m i S) (hi : i < S.2.1.length) : LInv m (i + 1) (stepL m (clM m) i S) := by
  have hx := (h.found.rep i hi).1
  have hk := g.1.2.2.1
  have hro := rowStep_ok g hx h.found m.2.1.toNat (by omega)
  obtain ⟨l, hl⟩ := rowStep_pre m (clM m) (S.2.1.getD i 0) m.2.1.toNat S.2.1
  have hfew := hro.found.few
  have hN := g.1.2.1
  unfold stepL
  dsimp only
  generalize hr : rowStep m (clM m) (S.2.1.getD i 0) m.2.1.toNat S.2.1 = r at hro hl hfew
  have hpre : ∀ j, j < S.2.1.length → r.1.getD j 0 = S.2.1.getD j 0 := fun j hj => by rw [hl]; exact getD_app_left hj
  have hlen : S.2.1.length ≤ r.1.length := by rw [hl]; simp
  refine ⟨hro.found, ⟨by dsimp only; omega, by dsimp only; rw [hpre 0 h.first.1]; exact h.first.2⟩, by dsimp only; omega, by simp [h.rows], fun j hj => ?_, ?_, fun j => ?_⟩
  · dsimp only
    by_cases hji : j < i
    · have e : (S.2.2 ++ [r.2]).getD j [] = S.2.2.getD j [] := getD_app_left (by rw [h.rows]; exact hji)
      rw [e]
      obtain ⟨k1, k2⟩ := h.row j hji
      refine ⟨k1, fun u hu => ?_⟩
      obtain ⟨k3, k4⟩ := k2 u hu
      refine ⟨⟨k3.1, by omega⟩, ?_⟩
      rw [hpre _ (by omega), hpre j (by omega)]
      exact k4
    · have : j = i := by omega
      subst this
      have e : (S.2.2 ++ [r.2]).getD j [] = r.2 := by
        rw [getD_lt _ (by simp [h.rows]), List.getElem_append_right (by rw [h.rows]; omega)]
        simp [h.rows]
      rw [e]
      refine ⟨hro.len, fun u hu => ?_⟩
      obtain ⟨k3, k4⟩ := hro.at_ u (by omega)
      exact ⟨k3, by rw [hpre j hi]; exact k4⟩
  · dsimp only
    split
    · exact u32_or h.u32 (u32_shl1 _)
    · exact h.u32
  · dsimp only
    have hb := h.bit j
    by_cases hji : j = i
    · subst hji
      rw [hpre j hi]
      simp only [Nat.lt_irrefl, decide_false, Bool.false_and] at hb
      split
      · rename_i hc
        rw [bt_or h.u32 (u32_shl1 _), bt_shl1 (by omega), hc]
        simp
      · rename_i hc
        rw [hb]
        have hc' : bt m.2.2.2.2 (S.2.1.getD j 0).toNat = false := by simpa [-List.getD_eq_getElem?_getD] using hc
        rw [hc']; simp
    · have e : decide (j < i + 1) = decide (j < i) := by
        by_cases h2 : j < i
        · have : j < i + 1 := by omega
          simp [h2, this]
        · have : ¬ j < i + 1 := by omega
          simp [h2, this]
      rw [e]
      have e2 : (decide (j < i) && bt m.2.2.2.2 (r.1.getD j 0).toNat) = (decide (j < i) && bt m.2.2.2.2 (S.2.1.getD j 0).toNat) := by
        by_cases h2 : j < i
        · rw [hpre j (by omega)]
        · simp [h2]
      rw [e2, ← hb]
      split
      · rw [bt_or h.u32 (u32_shl1 _), bt_shl1 (by omega)]
        have : ¬ i = j := fun e => hji e.symm
        simp [this]
      · rfl

theorem stL_zero {m : Mach} (g : GoodM m) : LInv m 0 (stL m (clM m) 0) := by
  have hcl := cl_good (m := m) g.2.2.2.1
  refine ⟨⟨fun j hj => ?_, fun j k hjk hk => ?_⟩, ⟨by simp [stL], rfl⟩, Nat.zero_le _, rfl, fun j hj => absurd hj (by omega), u32_zero, fun j => by simp [stL, bt_zero]⟩
  · have : j = 0 := by simp [stL] at hj; exact hj
    subst this
    exact ⟨hcl.1, hcl.2.1⟩
  · simp [stL] at hk
    omega

theorem stL_inv {m : Mach} (g : GoodM m) : ∀ i, LInv m (min i (stL m (clM m) i).2.1.length) (stL m (clM m) i)
  | 0 => by rw [Nat.zero_min]; exact stL_zero g
  | i + 1 => by
    have ih := stL_inv g i
    unfold stL
    by_cases h : i < (stL m (clM m) i).2.1.length
    · rw [if_pos h]
      rw [Nat.min_eq_left (by omega)] at ih
      have h2 := stepL_inv g ih h
      rw [Nat.min_eq_left h2.le]
      exact h2
    · rw [if_neg h]
      have e : min (i + 1) (stL m (clM m) i).2.1.length = min i (stL m (clM m) i).2.1.length := by omega
      rw [e]
      exact ih

theorem stL_stay (m : Mach) (cl : List Int) {i : Nat} (h : (stL m cl i).2.1.length ≤ i) : ∀ j, stL m cl (i + j) = stL m cl i
  | 0 => rfl
  | j + 1 => by
    have ih := stL_stay m cl h j
    rw [← Nat.add_assoc, stL, ih, if_neg (by omega)]

theorem set_row {row r2 : List Int} {s Kn : Nat} {n : Int} (hrl : row.length = Kn) (hs : s < Kn) (hl2 : r2.length = s) (hru : ∀ u, u < s → row.getD u 0 = r2.getD u 0) (u : Nat) (hu : u < s + 1) : (row.set s n).getD u 0 = (r2 ++ [n]).getD u 0 := by
  by_cases hus : u = s
  · subst hus
    rw [getD_lt _ (by rw [List.length_set]; omega), List.getElem_set_self, getD_lt _ (by simp only [List.length_append, List.length_cons, List.length_nil]; omega), List.getElem_append_right (by omega)]
    simp [hl2]
  · rw [getD_lt _ (by rw [List.length_set]; omega), List.getElem_set_ne (by omega), getD_app_left (by omega), ← hru u (by omega), getD_lt _ (by omega)]

theorem rowLen' {m : Mach} (g : GoodM m) {q : Int} (hq : 0 ≤ q ∧ q < m.1) : ((m.2.2.1.getD q.toNat ([] : List Int)).length : Int) = m.2.1 ∧ q.toNat < m.2.2.1.length := by
  have hl : q.toNat < m.2.2.1.length := by have := g.2.1.1; omega
  exact ⟨g.2.1.2 _ (getD_mem hl), hl⟩

noncomputable def leastF (m : Mach) : Mach :=
  (((stL m (clM m) 7).2.1.length : Int), (m.2.1, ((stL m (clM m) 7).2.2, ((0 : Int), (stL m (clM m) 7).1))))

theorem VC25_of {m : Mach} (hm : Ok MachT m) {K : Mach × Int → Prop} (hbad : ∀ e, e ≠ 0 → ¬ GoodM m → K (((0 : Int), ((0 : Int), (([] : (List (List Int))), ((0 : Int), (0 : Int))))), e)) (h : GoodM m → K (leastF m, 0)) : VC25 m K := by
  have hu := ok_mach hm
  unfold VC25
  refine VC40_of hm ⟨fun hc => hbad _ (by simpa using hc) fun hg => ?_, fun hc => ?_⟩
  · rw [(chkM_zero m).2 hg] at hc; simp at hc
  have g := (chkM_zero m).1 (by simpa using hc)
  obtain ⟨⟨a1, a2, a3, a4⟩, b, c, d, e⟩ := id g
  obtain ⟨Kn, hK⟩ : ∃ N : Nat, m.2.1 = (N : Int) := ⟨m.2.1.toNat, by omega⟩
  have hKn : m.2.1.toNat = Kn := by omega
  have hlen := b.1
  have hclen := clM_len m
  refine VC48_of hm g ⟨⟨d.1, by have := d.2; omega⟩, ?_⟩
  refine Loop.by (fun s : Int × Int × List Int × List (List Int) => ∃ i : Nat, s.1 = (i : Int) ∧ s.2 = stL m (clM m) i ∧ LInv m i s.2) (fun s => (8 - s.1).toNat) ⟨0, rfl, rfl, stL_zero g⟩ ?_
  rintro ⟨c, out, found, rows⟩ ⟨i, e1, e2, hI⟩ X hX
  dsimp only at e1 e2 hI
  subst e1
  dsimp only
  have hfew := hI.found.few
  dsimp only at hfew
  unfold VC25_l1
  refine ⟨fun hlt => ⟨⟨by omega, by omega⟩, ?_⟩, fun hge => ?_⟩
  · simp only [decide_eq_true_eq] at hlt
    have hil : i < found.length := by omega
    have hx := (hI.found.rep i hil).1
    dsimp only at hx
    refine loop_inv Kn (fun s t => t.1 = (rowStep m (clM m) (found.getD i 0) s found).1 ∧ t.2.length = Kn ∧ ∀ u, u < s → t.2.getD u 0 = (rowStep m (clM m) (found.getD i 0) s found).2.getD u 0) ⟨rfl, by simp [hKn], fun u hu => absurd hu (by omega)⟩ ?_
    rintro s hs ⟨f2, row⟩ ⟨hf2, hrl, hru⟩ X2 hX2
    dsimp only at hf2 hrl hru
    dsimp only
    unfold VC25_l2
    simp only [List.length_replicate, hKn]
    have hro := rowStep_ok g hx hI.found s (by omega)
    obtain ⟨l, hl⟩ := rowStep_pre m (clM m) (found.getD i 0) s found
    have hfew2 := hro.found.few
    dsimp only at hro hl hfew2
    rw [← hf2] at hl hfew2
    have hgi : f2.getD i 0 = found.getD i 0 := by rw [hl]; exact getD_app_left hil
    have hlen2 : found.length ≤ f2.length := by rw [hl]; simp
    refine ⟨fun hlt2 => ?_, fun hge2 => ?_⟩
    · simp only [decide_eq_true_eq] at hlt2
      simp only [Int.toNat_natCast]
      rw [hgi]
      have hrow := rowLen' g hx
      have hnx := next_good g hx (s := (s : Int)) ⟨by omega, by omega⟩
      have ec : (clM m).getD (((m.2.2.1.getD (found.getD i (0 : Int)).toNat ([] : List Int)).getD s (0 : Int))).toNat 0 = (clM m).getD (nextM m (found.getD i 0) (s : Int)).toNat 0 := rfl
      have en : (m.2.2.1.getD (found.getD i (0 : Int)).toNat ([] : List Int)).getD s (0 : Int) = nextM m (found.getD i 0) (s : Int) := rfl
      rw [en]
      refine ⟨⟨by omega, by omega⟩, ⟨by omega, by omega⟩, ⟨by omega, by omega⟩, ⟨by omega, by omega⟩, VC49_of (by omega) ⟨fun hneg => ?_, fun hpos => ?_⟩⟩
      · simp only [decide_eq_true_eq] at hneg
        rw [hf2] at hneg
        have est : rowStep m (clM m) (found.getD i 0) (s + 1) found = ((rowStep m (clM m) (found.getD i 0) s found).1 ++ [(clM m).getD (nextM m (found.getD i 0) (s : Int)).toNat 0], (rowStep m (clM m) (found.getD i 0) s found).2 ++ [((rowStep m (clM m) (found.getD i 0) s found).1.length : Int)]) := by
          rw [rowStep]; try dsimp only
          rw [if_pos hneg]
        refine ⟨by unfold roomN; simp only [List.length_cons, List.length_nil]; omega, ?_⟩
        unfold VC25_k4
        simp only [Int.toNat_natCast]
        refine ⟨⟨by omega, by omega⟩, ⟨by omega, by omega⟩, hX2 _ (by omega) ⟨?_, by simpa using hrl, fun u hu => ?_⟩⟩
        · try dsimp only
          rw [est, hf2]
        · try dsimp only
          rw [est]
          have hl2 := rowStep_len m (clM m) (found.getD i 0) s found
          rw [← hf2]
          have := set_row (n := (f2.length : Int)) hrl (by omega) hl2 hru u hu
          exact this
      · simp only [decide_eq_false_iff_not] at hpos
        rw [hf2] at hpos
        have est : rowStep m (clM m) (found.getD i 0) (s + 1) found = ((rowStep m (clM m) (found.getD i 0) s found).1, (rowStep m (clM m) (found.getD i 0) s found).2 ++ [idxOf (fun y => decide ((clM m).getD (nextM m (found.getD i 0) (s : Int)).toNat 0 = y)) (rowStep m (clM m) (found.getD i 0) s found).1]) := by
          rw [rowStep]; try dsimp only
          rw [if_neg hpos]
        unfold VC25_k4
        simp only [Int.toNat_natCast]
        refine ⟨⟨by omega, by omega⟩, ⟨by omega, by omega⟩, hX2 _ (by omega) ⟨?_, by simpa using hrl, fun u hu => ?_⟩⟩
        · try dsimp only
          rw [est, hf2]
        · try dsimp only
          rw [est]
          have hl2 := rowStep_len m (clM m) (found.getD i 0) s found
          rw [← hf2]
          have := set_row (n := idxOf (fun y => decide ((clM m).getD (nextM m (found.getD i 0) (s : Int)).toNat 0 = y)) f2) hrl (by omega) (rowStep_len m (clM m) (found.getD i 0) s found) hru u hu
          exact this
    · simp only [decide_eq_false_iff_not] at hge2
      have : s = Kn := by omega
      subst this
      have hrow : row = (rowStep m (clM m) (found.getD i 0) s found).2 := ext_getD 0 (by rw [hrl, hro.len]) fun u hu => hru u (by omega)
      have hst : stL m (clM m) (i + 1) = stepL m (clM m) i (out, found, rows) := by rw [stL, ← e2, if_pos hil]
      have hI' := stepL_inv g hI hil
      have hrl2 := hI.rows
      dsimp only at hrl2
      have hx2 := (hro.found.rep i (by rw [← hf2]; omega)).1
      rw [← hf2] at hx2
      unfold VC25_k2
      simp only [Int.toNat_natCast]
      refine ⟨by unfold roomN; simp only [List.length_cons, List.length_nil]; omega, ⟨by omega, by omega⟩, VC42_of hu hx2.1 ⟨fun hb => ⟨by omega, ?_⟩, fun hb => ?_⟩⟩
      · have est : stepL m (clM m) i (out, found, rows) = (bOr .u32 out (bShl .u32 1 (i : Int)), f2, rows ++ [row]) := by
          unfold stepL; dsimp only; rw [hKn, ← hf2, ← hrow, if_pos hb]
        unfold VC25_k3
        exact ⟨⟨by omega, by omega⟩, hX _ ⟨i + 1, by simp, by dsimp only; rw [hst, est], by dsimp only; rw [← est]; exact hI'⟩ (by dsimp only; omega)⟩
      · have est : stepL m (clM m) i (out, found, rows) = (out, f2, rows ++ [row]) := by
          unfold stepL; dsimp only; rw [hKn, ← hf2, ← hrow, hb]; rfl
        unfold VC25_k3
        exact ⟨⟨by omega, by omega⟩, hX _ ⟨i + 1, by simp, by dsimp only; rw [hst, est], by dsimp only; rw [← est]; exact hI'⟩ (by dsimp only; omega)⟩
  · simp only [decide_eq_false_iff_not] at hge
    have hle := hI.le
    dsimp only at hle
    have hstay := stL_stay m (clM m) (i := i) (by rw [← e2]; dsimp only; omega) (7 - i)
    rw [show i + (7 - i) = 7 by omega, ← e2] at hstay
    unfold VC25_k1
    have := h g
    unfold leastF at this
    rw [hstay] at this
    exact this
end Dec
