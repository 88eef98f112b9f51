/-
  The trees of a sign over a stretch, in order: as lists of steps (plain Lean, no program in sight).
-/
import Derived.Test.YtfpchbpnoggogaaCfg
set_option linter.unusedSimpArgs false
set_option linter.unusedVariables false
namespace Cfg
def cutsL : Nat → Nat → Nat → List (List Nat)
  | 0, _, _ => []
  | 1, _, j => [[j]]
  | n + 2, i, j => ((List.range (j - (i + 1))).map (· + (i + 1))).flatMap fun m => (cutsL (n + 1) m j).map (m :: ·)
theorem cutsL_succ (n i j : Nat) : cutsL (n + 2) i j = ((List.range (j - (i + 1))).map (· + (i + 1))).flatMap fun m => (cutsL (n + 1) m j).map (m :: ·) := rfl
def prodT (S : Int → Nat → Nat → List (List Int)) : List Int → Nat → List Nat → List (List Int)
  | [], _, _ => [[]]
  | _ :: _, _, [] => []
  | s :: l, i, e :: es => (S s i e).flatMap fun a => (prodT S l e es).map (a ++ ·)
def rowT (S : Int → Nat → Nat → List (List Int)) (l : List Int) (i j : Nat) : List (List Int) := (cutsL l.length i j).flatMap fun es => prodT S l i es
def sgnT (K : Int) (R : Rules) (w : List Int) : Nat → Int → Nat → Nat → List (List Int)
  | 0, s, i, j => if s < K then (if j = i + 1 ∧ w[i]? = some s then [[]] else []) else []
  | f + 1, s, i, j =>
    if s < K then (if j = i + 1 ∧ w[i]? = some s then [[]] else [])
    else (List.range R.length).flatMap fun k => if (R.getD k (0, [])).1 = s - K then (rowT (sgnT K R w f) (R.getD k (0, [])).2 i j).map ((k : Int) :: ·) else []
theorem length_flatMap' {α β : Type} (l : List α) (f : α → List β) : (l.flatMap f).length = (l.map fun x => (f x).length).sum := by
  induction l with
  | nil => rfl
  | cons x l ih => simp [List.flatMap_cons, ih]
theorem prodT_len (S : Int → Nat → Nat → List (List Int)) (s : Int) (l : List Int) (i e : Nat) (es : List Nat) : (prodT S (s :: l) i (e :: es)).length = (S s i e).length * (prodT S l e es).length := by
  show ((S s i e).flatMap fun a => (prodT S l e es).map (a ++ ·)).length = _
  rw [length_flatMap']
  simp only [List.length_map]
  induction S s i e with
  | nil => simp
  | cons x t ih => simp only [List.map_cons, List.sum_cons, ih, List.length_cons]; rw [Nat.add_mul, Nat.one_mul, Nat.add_comm]
theorem sum_mul (l : List Nat) (c : Nat) : (l.map (c * ·)).sum = c * l.sum := by
  induction l with
  | nil => simp
  | cons x t ih => simp only [List.map_cons, List.sum_cons, ih, Nat.mul_add]
theorem rowT_len (S : Int → Nat → Nat → List (List Int)) (s t : Int) (l : List Int) (i j : Nat) :
    (rowT S (s :: t :: l) i j).length = (((List.range (j - (i + 1))).map (· + (i + 1))).map fun m => (S s i m).length * (rowT S (t :: l) m j).length).sum := by
  unfold rowT
  rw [length_flatMap']
  show ((cutsL (l.length + 2) i j).map _).sum = (_ : List Nat).sum
  rw [cutsL_succ]
  generalize (List.range (j - (i + 1))).map (· + (i + 1)) = ms
  induction ms with
  | nil => simp
  | cons m ms ih =>
    simp only [List.flatMap_cons, List.map_append, List.sum_append, List.map_cons, List.sum_cons]
    rw [ih]
    congr 1
    rw [length_flatMap', ← sum_mul, List.map_map, List.map_map]
    congr 1
    refine List.map_congr_left fun es _ => ?_
    simp only [Function.comp]
    exact prodT_len S s (t :: l) i m es
theorem rowT_one (S : Int → Nat → Nat → List (List Int)) (s : Int) (i j : Nat) : (rowT S [s] i j).length = (S s i j).length := by
  unfold rowT
  show ((cutsL 1 i j).flatMap fun es => prodT S [s] i es).length = _
  unfold cutsL
  simp only [List.flatMap_cons, List.flatMap_nil, List.append_nil]
  rw [prodT_len]
  simp [prodT]
theorem cutsL_mem : ∀ (n i j : Nat) (es : List Nat), es ∈ cutsL n i j → es.length = n ∧ ∃ z, es.getLast? = some z ∧ z = j
  | 0, _, _, es, h => by simp [cutsL] at h
  | 1, i, j, es, h => by
    simp [cutsL] at h
    subst h
    exact ⟨rfl, j, rfl, rfl⟩
  | n + 2, i, j, es, h => by
    rw [cutsL_succ, List.mem_flatMap] at h
    obtain ⟨m, _, h⟩ := h
    obtain ⟨t, ht, rfl⟩ := List.mem_map.1 h
    obtain ⟨h1, z, h2, h3⟩ := cutsL_mem (n + 1) m j t ht
    refine ⟨by simp [h1], z, ?_, h3⟩
    cases t with
    | nil => simp at h1
    | cons q t => rw [List.getLast?_cons_cons]; exact h2
section
variable {K : Int} {R : Rules} {w : List Int}
theorem sgnT_name {f : Nat} {s : Int} {i j : Nat} (hs : ¬ s < K) : sgnT K R w (f + 1) s i j = (List.range R.length).flatMap fun k => if (R.getD k (0, [])).1 = s - K then (rowT (sgnT K R w f) (R.getD k (0, [])).2 i j).map ((k : Int) :: ·) else [] := by
  rw [sgnT, if_neg hs]
theorem sgnT_sym {f : Nat} {s : Int} {i j : Nat} (hs : s < K) : sgnT K R w f s i j = if j = i + 1 ∧ w[i]? = some s then [[]] else [] := by
  cases f <;> rw [sgnT, if_pos hs]
theorem mem_name {f : Nat} {s : Int} {i j : Nat} (hs : ¬ s < K) {a : List Int} (h : a ∈ sgnT K R w (f + 1) s i j) : ∃ k, k < R.length ∧ (R.getD k (0, [])).1 = s - K ∧ ∃ a', a' ∈ rowT (sgnT K R w f) (R.getD k (0, [])).2 i j ∧ a = (k : Int) :: a' := by
  rw [sgnT_name hs] at h
  obtain ⟨k, hk, h⟩ := List.mem_flatMap.1 h
  by_cases e : (R.getD k (0, [])).1 = s - K
  · rw [if_pos e] at h
    obtain ⟨a', h1, h2⟩ := List.mem_map.1 h
    exact ⟨k, List.mem_range.1 hk, e, a', h1, h2.symm⟩
  · rw [if_neg e] at h
    cases h
theorem flatMap_congr' {α β : Type} {l : List α} {f g : α → List β} (h : ∀ x ∈ l, f x = g x) : l.flatMap f = l.flatMap g := by
  induction l with
  | nil => rfl
  | cons x l ih => rw [List.flatMap_cons, List.flatMap_cons, h x List.mem_cons_self, ih fun y hy => h y (List.mem_cons_of_mem _ hy)]
theorem prodT_in {S S' : Int → Nat → Nat → List (List Int)} : ∀ (l : List Int) (i j : Nat), (∀ s a b, i ≤ a → b ≤ j → S s a b = S' s a b) → ∀ es ∈ cutsL l.length i j, prodT S l i es = prodT S' l i es
  | [], i, j, h, es, he => by simp [cutsL] at he
  | [s], i, j, h, es, he => by
    simp [cutsL] at he
    subst he
    simp only [prodT, h s i j (Nat.le_refl _) (Nat.le_refl _)]
  | s :: t :: l, i, j, h, es, he => by
    rw [show (s :: t :: l).length = l.length + 2 from rfl, cutsL_succ, List.mem_flatMap] at he
    obtain ⟨m, hm, he⟩ := he
    obtain ⟨q, hq, rfl⟩ := List.mem_map.1 he
    obtain ⟨z, hz, rfl⟩ := List.mem_map.1 hm
    have hz' := List.mem_range.1 hz
    have := prodT_in (t :: l) (z + (i + 1)) j (fun s a b h1 h2 => h s a b (by omega) h2) q hq
    show ((S s i (z + (i + 1))).flatMap fun a => (prodT S (t :: l) (z + (i + 1)) q).map (a ++ ·)) = ((S' s i (z + (i + 1))).flatMap fun a => (prodT S' (t :: l) (z + (i + 1)) q).map (a ++ ·))
    rw [h s i (z + (i + 1)) (Nat.le_refl _) (by omega), this]
theorem rowT_two {S S' : Int → Nat → Nat → List (List Int)} {s t : Int} {l : List Int} {i j : Nat} (h : ∀ s a b, i ≤ a → b ≤ j → b - a < j - i → S s a b = S' s a b) : rowT S (s :: t :: l) i j = rowT S' (s :: t :: l) i j := by
  unfold rowT
  refine flatMap_congr' fun es he => ?_
  rw [show (s :: t :: l).length = l.length + 2 from rfl, cutsL_succ, List.mem_flatMap] at he
  obtain ⟨m, hm, he⟩ := he
  obtain ⟨q, hq, rfl⟩ := List.mem_map.1 he
  obtain ⟨z, hz, rfl⟩ := List.mem_map.1 hm
  have hz' := List.mem_range.1 hz
  have := prodT_in (S := S) (S' := S') (t :: l) (z + (i + 1)) j (fun s a b h1 h2 => h s a b (by omega) h2 (by omega)) q hq
  show ((S s i (z + (i + 1))).flatMap fun a => (prodT S (t :: l) (z + (i + 1)) q).map (a ++ ·)) = ((S' s i (z + (i + 1))).flatMap fun a => (prodT S' (t :: l) (z + (i + 1)) q).map (a ++ ·))
  rw [h s i (z + (i + 1)) (Nat.le_refl _) (by omega) (by omega), this]
theorem sgnT_stable (hp : ∀ r ∈ R, r.2 ≠ [] ∧ ∀ s, r.2 = [s] → s < K) : ∀ (f : Nat) (s : Int) (i j : Nat), j - i < f → sgnT K R w (f + 1) s i j = sgnT K R w f s i j
  | 0, _, _, _, h => by omega
  | f + 1, s, i, j, h => by
    by_cases hs : s < K
    · rw [sgnT_sym hs, sgnT_sym hs]
    · rw [sgnT_name hs, sgnT_name hs]
      refine flatMap_congr' fun k hk => ?_
      have hk' := List.mem_range.1 hk
      have hmem : R.getD k (0, []) ∈ R := by
        rw [List.getD_eq_getElem?_getD, List.getElem?_eq_getElem hk']
        exact List.getElem_mem hk'
      obtain ⟨h1, h2⟩ := hp _ hmem
      have : rowT (sgnT K R w (f + 1)) (R.getD k (0, [])).2 i j = rowT (sgnT K R w f) (R.getD k (0, [])).2 i j := by
        cases hr : (R.getD k (0, [])).2 with
        | nil => exact absurd hr h1
        | cons x l =>
          cases l with
          | nil =>
            have hx := h2 x hr
            unfold rowT
            simp [cutsL, prodT, sgnT_sym hx]
          | cons y l => exact rowT_two fun s a b h3 h4 h5 => sgnT_stable hp f s a b (by omega)
      rw [this]
end
end Cfg
