/-
The trees of a sign over a stretch, in order: as lists of steps (plain Lean, no program in sight).
-/
import Derived.Test.YtfchgkifdfgbmaaLibZ
import Derived.Test.YtfchgkifdfgbmaaGramZ
set_option linter.unusedSimpArgs false
set_option linter.unusedVariables false
namespace Cfg
def cutsL : Nat → Nat → Nat → List (List Nat)
 | 0, _, _ => []
 | 1, _, j => [[j]]
 | n + 2, i, j => ((List.range (j - (i + 1))).map (· + (i + 1))).flatMap fun m => (cutsL (n + 1) m j).map (m :: ·)
theorem cutsL_succ (n i j : Nat) : cutsL (n + 2) i j = ((List.range (j - (i + 1))).map (· + (i + 1))).flatMap fun m => (cutsL (n + 1) m j).map (m :: ·) := rfl
def prodT (S : Int → Nat → Nat → List (List Int)) : List Int → Nat → List Nat → List (List Int)
 | [], _, _ => [[]]
 | _ :: _, _, [] => []
 | s :: l, i, e :: es => (S s i e).flatMap fun a => (prodT S l e es).map (a ++ ·)
def rowT (S : Int → Nat → Nat → List (List Int)) (l : List Int) (i j : Nat) : List (List Int) := (cutsL l.length i j).flatMap fun es => prodT S l i es
def sgnT (K : Int) (R : Rules) (w : List Int) : Nat → Int → Nat → Nat → List (List Int)
 | 0, s, i, j => if s < K then (if j = i + 1 ∧ w[i]? = some s then [[]] else []) else []
 | f + 1, s, i, j =>
  if s < K then (if j = i + 1 ∧ w[i]? = some s then [[]] else [])
  else (List.range R.length).flatMap fun k => if (R.getD k (0, [])).1 = s - K then (rowT (sgnT K R w f) (R.getD k (0, [])).2 i j).map ((k : Int) :: ·) else []
theorem length_flatMap' {α β : Type} (l : List α) (f : α → List β) : (l.flatMap f).length = (l.map fun x => (f x).length).sum := by
 induction l with
 | nil => rfl
 | cons x l ih => simp [List.flatMap_cons, ih]
theorem prodT_len (S : Int → Nat → Nat → List (List Int)) (s : Int) (l : List Int) (i e : Nat) (es : List Nat) : (prodT S (s :: l) i (e :: es)).length = (S s i e).length * (prodT S l e es).length := by
 show ((S s i e).flatMap fun a => (prodT S l e es).map (a ++ ·)).length = _
 rw [length_flatMap']
 simp only [List.length_map]
 induction S s i e with
 | nil => simp
 | cons x t ih => simp only [List.map_cons, List.sum_cons, ih, List.length_cons]; rw [Nat.add_mul, Nat.one_mul, Nat.add_comm]
theorem sum_mul (l : List Nat) (c : Nat) : (l.map (c * ·)).sum = c * l.sum := by
 induction l with
 | nil => simp
 | cons x t ih => simp only [List.map_cons, List.sum_cons, ih, Nat.mul_add]
theorem rowT_len (S : Int → Nat → Nat → List (List Int)) (s t : Int) (l : List Int) (i j : Nat) :
  (rowT S (s :: t :: l) i j).length = (((List.range (j - (i + 1))).map (· + (i + 1))).map fun m => (S s i m).length * (rowT S (t :: l) m j).length).sum := by
 unfold rowT
 rw [length_flatMap']
 show ((cutsL (l.length + 2) i j).map _).sum = (_ : List Nat).sum
 rw [cutsL_succ]
 generalize (List.range (j - (i + 1))).map (· + (i + 1)) = ms
 induction ms with
 | nil => simp
 | cons m ms ih =>
  simp only [List.flatMap_cons, List.map_append, List.sum_append, List.map_cons, List.sum_cons]
  rw [ih]
  congr 1
  rw [length_flatMap', ← sum_mul, List.map_map, List.map_map]
  congr 1
  refine List.map_congr_left fun es _ => ?_
  simp only [Function.comp]
  exact prodT_len S s (t :: l) i m es
theorem rowT_one (S : Int → Nat → Nat → List (List Int)) (s : Int) (i j : Nat) : (rowT S [s] i j).length = (S s i j).length := by
 unfold rowT
 show ((cutsL 1 i j).flatMap fun es => prodT S [s] i es).length = _
 unfold cutsL
 simp only [List.flatMap_cons, List.flatMap_nil, List.append_nil]
 rw [prodT_len]
 simp [prodT]
section
variable {K : Int} {R : Rules} {w : List Int}
theorem sgnT_name {f : Nat} {s : Int} {i j : Nat} (hs : ¬ s < K) : sgnT K R w (f + 1) s i j = (List.range R.length).flatMap fun k => if (R.getD k (0, [])).1 = s - K then (rowT (sgnT K R w f) (R.getD k (0, [])).2 i j).map ((k : Int) :: ·) else [] := by
 rw [sgnT, if_neg hs]
theorem sgnT_sym {f : Nat} {s : Int} {i j : Nat} (hs : s < K) : sgnT K R w f s i j = if j = i + 1 ∧ w[i]? = some s then [[]] else [] := by
 cases f <;> rw [sgnT, if_pos hs]
theorem mem_name {f : Nat} {s : Int} {i j : Nat} (hs : ¬ s < K) {a : List Int} (h : a ∈ sgnT K R w (f + 1) s i j) : ∃ k, k < R.length ∧ (R.getD k (0, [])).1 = s - K ∧ ∃ a', a' ∈ rowT (sgnT K R w f) (R.getD k (0, [])).2 i j ∧ a = (k : Int) :: a' := by
 rw [sgnT_name hs] at h
 obtain ⟨k, hk, h⟩ := List.mem_flatMap.1 h
 by_cases e : (R.getD k (0, [])).1 = s - K
 ·rw [if_pos e] at h
  obtain ⟨a', h1, h2⟩ := List.mem_map.1 h
  exact ⟨k, List.mem_range.1 hk, e, a', h1, h2.symm⟩
 ·rw [if_neg e] at h
  cases h
theorem flatMap_congr' {α β : Type} {l : List α} {f g : α → List β} (h : ∀ x ∈ l, f x = g x) : l.flatMap f = l.flatMap g := by
 induction l with
 | nil => rfl
 | cons x l ih => rw [List.flatMap_cons, List.flatMap_cons, h x List.mem_cons_self, ih fun y hy => h y (List.mem_cons_of_mem _ hy)]
theorem prodT_in {S S' : Int → Nat → Nat → List (List Int)} : ∀ (l : List Int) (i j : Nat), (∀ s a b, i ≤ a → b ≤ j → S s a b = S' s a b) → ∀ es ∈ cutsL l.length i j, prodT S l i es = prodT S' l i es
 | [], i, j, h, es, he => by simp [cutsL] at he
 | [s], i, j, h, es, he => by
  simp [cutsL] at he
  subst he
  simp only [prodT, h s i j (Nat.le_refl _) (Nat.le_refl _)]
 | s :: t :: l, i, j, h, es, he => by
  rw [show (s :: t :: l).length = l.length + 2 from rfl, cutsL_succ, List.mem_flatMap] at he
  obtain ⟨m, hm, he⟩ := he
  obtain ⟨q, hq, rfl⟩ := List.mem_map.1 he
  obtain ⟨z, hz, rfl⟩ := List.mem_map.1 hm
  have hz' := List.mem_range.1 hz
  have := prodT_in (t :: l) (z + (i + 1)) j (fun s a b h1 h2 => h s a b (by omega) h2) q hq
  show ((S s i (z + (i + 1))).flatMap fun a => (prodT S (t :: l) (z + (i + 1)) q).map (a ++ ·)) = ((S' s i (z + (i + 1))).flatMap fun a => (prodT S' (t :: l) (z + (i + 1)) q).map (a ++ ·))
  rw [h s i (z + (i + 1)) (Nat.le_refl _) (by omega), this]
theorem rowT_two {S S' : Int → Nat → Nat → List (List Int)} {s t : Int} {l : List Int} {i j : Nat} (h : ∀ s a b, i ≤ a → b ≤ j → b - a < j - i → S s a b = S' s a b) : rowT S (s :: t :: l) i j = rowT S' (s :: t :: l) i j := by
 unfold rowT
 refine flatMap_congr' fun es he => ?_
 rw [show (s :: t :: l).length = l.length + 2 from rfl, cutsL_succ, List.mem_flatMap] at he
 obtain ⟨m, hm, he⟩ := he
 obtain ⟨q, hq, rfl⟩ := List.mem_map.1 he
 obtain ⟨z, hz, rfl⟩ := List.mem_map.1 hm
 have hz' := List.mem_range.1 hz
 have := prodT_in (S := S) (S' := S') (t :: l) (z + (i + 1)) j (fun s a b h1 h2 => h s a b (by omega) h2 (by omega)) q hq
 show ((S s i (z + (i + 1))).flatMap fun a => (prodT S (t :: l) (z + (i + 1)) q).map (a ++ ·)) = ((S' s i (z + (i + 1))).flatMap fun a => (prodT S' (t :: l) (z + (i + 1)) q).map (a ++ ·))
 rw [h s i (z + (i + 1)) (Nat.le_refl _) (by omega) (by omega), this]
theorem sgnT_stable (hp : ∀ r ∈ R, r.2 ≠ [] ∧ ∀ s, r.2 = [s] → s < K) : ∀ (f : Nat) (s : Int) (i j : Nat), j - i < f → sgnT K R w (f + 1) s i j = sgnT K R w f s i j
 | 0, _, _, _, h => by omega
 | f + 1, s, i, j, h => by
  by_cases hs : s < K
  ·rw [sgnT_sym hs, sgnT_sym hs]
  ·rw [sgnT_name hs, sgnT_name hs]
   refine flatMap_congr' fun k hk => ?_
   have hk' := List.mem_range.1 hk
   have hmem : R.getD k (0, []) ∈ R := by
    rw [List.getD_eq_getElem?_getD, List.getElem?_eq_getElem hk']
    exact List.getElem_mem hk'
   obtain ⟨h1, h2⟩ := hp _ hmem
   have : rowT (sgnT K R w (f + 1)) (R.getD k (0, [])).2 i j = rowT (sgnT K R w f) (R.getD k (0, [])).2 i j := by
    cases hr : (R.getD k (0, [])).2 with
    | nil => exact absurd hr h1
    | cons x l =>
     cases l with
     | nil =>
      have hx := h2 x hr
      unfold rowT
      simp [cutsL, prodT, sgnT_sym hx]
     | cons y l => exact rowT_two fun s a b h3 h4 h5 => sgnT_stable hp f s a b (by omega)
   rw [this]
end
end Cfg
namespace Dec
open Go Go.Proofs Cfg
abbrev Kn := List ((Int × (Int × (Int × Int))) × Int)
def CapV (v : Int) (n : Nat) : Prop := v = min (n : Int) 1099511627777
theorem mul_cap {m n : Nat} {a b : Int} (ha : CapV a m) (hb : CapV b n) (h0 : 0 < a) (h1 : 0 < b) : (1099511627777 / b < a → CapV 1099511627777 (m * n)) ∧ (¬ 1099511627777 / b < a → a * b ≤ 1099511627777 ∧ CapV (a * b) (m * n)) := by
 unfold CapV at *
 have hm : 0 < m := by omega
 have hn : 0 < n := by omega
 have ham : a ≤ (m : Int) := by omega
 have hbn : b ≤ (n : Int) := by omega
 have hle : a * b ≤ (m : Int) * (n : Int) := Int.mul_le_mul ham hbn (by omega) (by omega)
 constructor
 ·intro hlt
  have h2 : ¬ a * b ≤ 1099511627777 := fun h => by
   have := (Int.le_ediv_iff_mul_le h1).2 h
   omega
  push_cast
  omega
 ·intro hge
  have h2 : a * b ≤ 1099511627777 := (Int.le_ediv_iff_mul_le h1).1 (by omega)
  refine ⟨h2, ?_⟩
  push_cast
  by_cases ea : (m : Int) ≤ 1099511627777
  ·by_cases eb : (n : Int) ≤ 1099511627777
   ·have e1 : a = m := by omega
    have e2 : b = n := by omega
    rw [← e1, ← e2]; omega
   ·have e2 : b = 1099511627777 := by omega
    have e1 : a = 1 := by subst e2; omega
    have e3 : (m : Int) = 1 := by omega
    rw [e3, e1, e2]; omega
  ·have e1 : a = 1099511627777 := by omega
   have e2 : b = 1 := by subst e1; omega
   have e3 : (n : Int) = 1 := by omega
   rw [e3, e1, e2]; omega
section
variable {g : Gr} {w : List Int}
def Prop1 (g : Gr) : Prop := ∀ r ∈ g.2.2.2, r.2 ≠ [] ∧ ∀ s, r.2 = [s] → s < g.1
abbrev SG (g : Gr) (w : List Int) : Int → Nat → Nat → List (List Int) := sgnT g.1 g.2.2.2 w (w.length + 1)
def cntS (g : Gr) (w : List Int) (s : Int) (i j : Nat) : Nat := (SG g w s i j).length
def cntR (g : Gr) (w : List Int) (l : List Int) (i j : Nat) : Nat := (rowT (SG g w) l i j).length
def sumTo (f : Nat → Nat) (v : Nat) : Nat := ((List.range v).map f).sum
theorem sumTo_succ (f : Nat → Nat) (v : Nat) : sumTo f (v + 1) = sumTo f v + f v := by
 unfold sumTo
 rw [List.range_succ, List.map_append, List.sum_append]
 simp
theorem row_stable (hp : Prop1 g) {r : Rl} (hr : r ∈ g.2.2.2) {i j f : Nat} (h : j - i ≤ f) : rowT (sgnT g.1 g.2.2.2 w f) r.2 i j = rowT (sgnT g.1 g.2.2.2 w (f + 1)) r.2 i j := by
 obtain ⟨h1, h2⟩ := hp r hr
 cases hl : r.2 with
 | nil => exact absurd hl h1
 | cons x l =>
  cases l with
  | nil =>
   have hx := h2 x hl
   unfold rowT
   simp [cutsL, prodT, sgnT_sym hx]
  | cons y l => exact rowT_two fun s a b h3 h4 h5 => (sgnT_stable hp f s a b (by omega)).symm
theorem cnt_name (hp : Prop1 g) {s : Int} {i j : Nat} (hs : ¬ s < g.1) (hj : j ≤ w.length) : cntS g w s i j = sumTo (fun k => if (g.2.2.2.getD k (0, [])).1 = s - g.1 then cntR g w (g.2.2.2.getD k (0, [])).2 i j else 0) g.2.2.2.length := by
 unfold cntS SG
 rw [sgnT_name hs, length_flatMap']
 unfold sumTo
 congr 1
 refine List.map_congr_left fun k hk => ?_
 have hk' := List.mem_range.1 hk
 split
 ·rw [List.length_map, row_stable hp (getD_mem hk') (by omega)]
  rfl
 ·rfl
theorem cnt_one (s : Int) (i j : Nat) : cntR g w [s] i j = cntS g w s i j := rowT_one _ s i j
theorem cnt_two (s t : Int) (l : List Int) (i j : Nat) : cntR g w (s :: t :: l) i j = sumTo (fun q => cntS g w s i (q + (i + 1)) * cntR g w (t :: l) (q + (i + 1)) j) (j - (i + 1)) := by
 unfold cntR
 rw [rowT_len, List.map_map]
 rfl
theorem cnt_sym {s : Int} {i j : Nat} (hs : s < g.1) : cntS g w s i j = if j = i + 1 ∧ w[i]? = some s then 1 else 0 := by
 unfold cntS SG
 rw [sgnT_sym hs]
 split <;> rfl
theorem prod_len {S : Int → Nat → Nat → List (List Int)} (hS : ∀ s i j a, a ∈ S s i j → i < j) : ∀ (l : List Int) (i j : Nat), ∀ es ∈ cutsL l.length i j, ∀ a, a ∈ prodT S l i es → i + l.length ≤ j
 | [], i, j, es, he, a, ha => by simp [cutsL] at he
 | [s], i, j, es, he, a, ha => by
  simp [cutsL] at he
  subst he
  simp only [prodT, List.mem_flatMap] at ha
  obtain ⟨b, hb, _⟩ := ha
  have := hS s i j b hb
  simp only [List.length_cons, List.length_nil]
  omega
 | s :: t :: l, i, j, es, he, a, ha => by
  rw [show (s :: t :: l).length = l.length + 2 from rfl, cutsL_succ, List.mem_flatMap] at he
  obtain ⟨m, hm, he⟩ := he
  obtain ⟨q, hq, rfl⟩ := List.mem_map.1 he
  obtain ⟨z, hz, rfl⟩ := List.mem_map.1 hm
  have ha' : a ∈ (S s i (z + (i + 1))).flatMap fun b => (prodT S (t :: l) (z + (i + 1)) q).map (b ++ ·) := ha
  obtain ⟨b, hb, h2⟩ := List.mem_flatMap.1 ha'
  obtain ⟨c, hc, _⟩ := List.mem_map.1 h2
  have := prod_len hS (t :: l) (z + (i + 1)) j q hq c hc
  simp only [List.length_cons] at this ⊢
  omega
theorem row_len' {S : Int → Nat → Nat → List (List Int)} (hS : ∀ s i j a, a ∈ S s i j → i < j) {l : List Int} {i j : Nat} {a : List Int} (h : a ∈ rowT S l i j) : i + l.length ≤ j := by
 unfold rowT at h
 obtain ⟨es, h1, h2⟩ := List.mem_flatMap.1 h
 exact prod_len hS l i j es h1 a h2
theorem sgn_lt (hp : Prop1 g) : ∀ (f : Nat) (s : Int) (i j : Nat) (a : List Int), a ∈ sgnT g.1 g.2.2.2 w f s i j → i < j
 | f, s, i, j, a, h => by
  by_cases hs : s < g.1
  ·rw [sgnT_sym hs] at h
   split at h
   ·omega
   ·cases h
  ·cases f with
   | zero => rw [sgnT, if_neg hs] at h; cases h
   | succ f =>
    obtain ⟨k, hk, _, a', h3, _⟩ := mem_name hs h
    have h4 := row_len' (sgn_lt hp f) h3
    have h5 := (hp _ (getD_mem (d := ((0 : Int), ([] : List Int))) hk)).1
    have h6 : 0 < (g.2.2.2.getD k (0, [])).2.length := List.length_pos_iff.2 h5
    omega
theorem cnt_short (hp : Prop1 g) {l : List Int} {i j : Nat} (h : j < i + l.length) : cntR g w l i j = 0 := by
 unfold cntR
 rw [List.length_eq_zero_iff, List.eq_nil_iff_forall_not_mem]
 intro a ha
 have := row_len' (sgn_lt hp _) ha
 omega
end
end Dec
namespace Dec
open Go Go.Proofs Cfg
section
variable {g : Gr} {w : List Int}
theorem capV_zero : CapV 0 0 := by unfold CapV; omega
theorem capV_one : CapV 1 1 := by unfold CapV; omega
theorem sym_ok {s : Int} {i j : Nat} (hs : s < g.1) (hi : j = i + 1 → i < w.length) {P : Int → Prop} (h : ∀ v, CapV v (cntS g w s i j) → P v) :
  ((decide ((j : Int) = (i : Int) + 1) && decide (w.getD i 0 = s)) = true → P 1) ∧ ((decide ((j : Int) = (i : Int) + 1) && decide (w.getD i 0 = s)) = false → P 0) := by
 constructor
 ·intro hc
  simp only [Bool.and_eq_true, decide_eq_true_eq] at hc
  refine h 1 ?_
  rw [cnt_sym hs, if_pos ⟨by omega, by rw [getD_opt (d := 0) (hi (by omega)), hc.2]⟩]
  exact capV_one
 ·intro hc
  refine h 0 ?_
  rw [cnt_sym hs, if_neg]
  ·exact capV_zero
  ·rintro ⟨h1, h2⟩
   rw [getD_opt (d := 0) (hi h1)] at h2
   have : ((decide ((j : Int) = (i : Int) + 1) && decide (w.getD i 0 = s)) = true) := by
    simp only [Bool.and_eq_true, decide_eq_true_eq]
    exact ⟨by omega, by simpa using h2⟩
   rw [this] at hc
   cases hc
end
end Dec
namespace Dec
open Go Go.Proofs Cfg
section
variable {g : Gr} {w : List Int}
def badR (k : Int) (r : Rl) : Bool := decide ((r.2.length : Int) = 0) || (decide ((r.2.length : Int) = 1) && decide (k ≤ r.2.getD 0 0))
theorem badR_iff {k : Int} {r : Rl} : badR k r = false ↔ r.2 ≠ [] ∧ ∀ s, r.2 = [s] → s < k := by
 obtain ⟨A, l⟩ := r
 unfold badR
 rcases l with _ | ⟨x, _ | ⟨y, t⟩⟩
 ·simp
 ·simp
 ·simp only [List.length_cons]
  constructor
  ·intro _
   exact ⟨by simp, by intro s h; cases h⟩
  ·intro _
   have h1 : decide (((t.length + 1 + 1 : Nat) : Int) = 0) = false := by simp only [decide_eq_false_iff_not]; omega
   have h2 : decide (((t.length + 1 + 1 : Nat) : Int) = 1) = false := by simp only [decide_eq_false_iff_not]; omega
   rw [h1, h2]; rfl
theorem VC13_of (hg : GoodG g) {K : Bool → Prop} (h : ∀ b : Bool, (b = true ↔ Prop1 g) → K b) : VC13 g K := by
 have hfew := hg.few
 unfold VC13
 refine VC31_of (badR g.1) (by omega) (fun x hx K' hK' => ?_) (h _ ?_)
 ·unfold VC32
  refine ⟨fun _ h1 => ?_, hK'⟩
  simp only [decide_eq_true_eq] at h1
  exact ⟨by omega, by omega⟩
 ·rw [Bool.not_eq_true', List.any_eq_false]
  unfold Prop1
  refine forall_congr' fun r => forall_congr' fun hr => ?_
  rw [Bool.not_eq_true, badR_iff]
theorem VC19_of (hg : GoodG g) {K : Bool → Prop} (h : ∀ b : Bool, (b = true ↔ Prop1 g) → K b) : VC19 g K := by
 have hfew := hg.few
 unfold VC19
 refine loop_count g.2.2.2.length (fun i => ∀ j, j < i → badR g.1 (g.2.2.2.getD j (0, [])) = false) (by intro j hj; omega) ?_
 intro i hi hP X hX
 unfold VC19_l1
 simp only [Int.toNat_natCast]
 refine ⟨fun hb => ?_, fun hb => ?_⟩
 ·simp only [decide_eq_true_eq] at hb
  refine ⟨⟨by omega, by omega⟩, fun _ h1 => ?_, fun hbad => h _ ?_, fun hgood => ⟨by unfold InR; omega, hX (by omega) fun j hj => ?_⟩⟩
  ·simp only [decide_eq_true_eq] at h1
   exact ⟨by omega, by omega⟩
  ·refine ⟨fun h => (by cases h), fun hp => ?_⟩
   have := badR_iff.2 (hp _ (getD_mem (l := g.2.2.2) (i := i) (d := (0, [])) (by omega)))
   rw [show badR g.1 (g.2.2.2.getD i (0, [])) = true from hbad] at this
   cases this
  ·by_cases e : j < i
   ·exact hP j e
   ·have : j = i := by omega
    subst this
    exact hgood
 ·simp only [decide_eq_false_iff_not] at hb
  unfold VC19_k1
  refine h _ ⟨fun _ r hr => ?_, fun _ => rfl⟩
  obtain ⟨a, ha, ea⟩ := List.mem_iff_getElem.1 hr
  rw [← ea, ← getD_lt (0, []) ha]
  exact badR_iff.1 (hP a (by omega))
def All (g : Gr) (w : List Int) : Prop := GoodG g ∧ GoodW g.1 w ∧ Prop1 g
abbrev cntW (g : Gr) (w : List Int) : Nat := cntS g w (g.1 + g.2.2.1) 0 w.length
end
end Dec
namespace Dec
open Go Go.Proofs Cfg
abbrev Kb := List (List Int × Int)
def Cap2 (v : Int) (n : Nat) : Prop := 0 ≤ v ∧ min v 1099511627777 = min (n : Int) 1099511627777
section
variable {g : Gr} {w : List Int}
def KbOk (g : Gr) (w : List Int) (kn : Kb) : Prop := ∀ s i j v, mget kn [s, i, j] = some v → CapV v (cntS g w s i.toNat j.toNat)
theorem kbOk_nil : KbOk g w [] := by intro s i j v h; cases h
theorem kbOk_mset {kn : Kb} (h : KbOk g w kn) {s i j v : Int} (hv : CapV v (cntS g w s i.toNat j.toNat)) : KbOk g w (mset kn [s, i, j] v) := by
 intro s' i' j' v' h'
 rw [mget_mset] at h'
 split at h'
 ·rename_i e
  cases e
  cases h'
  exact hv
 ·exact h s' i' j' v' h'
theorem bsign_loop (hg : GoodG g) (hp : Prop1 g) {s : Int} {i j : Nat} (hs : ¬ s < g.1) (hj : j ≤ w.length) {kn0 : Kb} (h0 : KbOk g w kn0) {B : Int × Int × Kb → (Int × Int × Kb → Prop) → Prop}
  (step : ∀ (n : Int) (v : Nat) (kn : Kb) (X : Int × Int × Kb → Prop), v < g.2.2.2.length → KbOk g w kn → ((g.2.2.2.getD v (0, [])).1 = s - g.1 → (∀ r kn', KbOk g w kn' → CapV r (cntR g w (g.2.2.2.getD v (0, [])).2 i j) → InR (n + r) ∧ X (n + r, (v : Int) + 1, kn'))) → ((g.2.2.2.getD v (0, [])).1 ≠ s - g.1 → X (n, (v : Int) + 1, kn)) → B (n, (v : Int), kn) X)
  (stop : ∀ (n : Int) (kn : Kb) (X : Int × Int × Kb → Prop), KbOk g w kn → Cap2 n (cntS g w s i j) → B (n, (g.2.2.2.length : Int), kn) X) : Loop B (0, 0, kn0) := by
 have hfew := hg.few
 refine Loop.by (fun t => ∃ v : Nat, t.2.1 = (v : Int) ∧ v ≤ g.2.2.2.length ∧ KbOk g w t.2.2 ∧ t.1 ≤ 1099511627777 * (v : Int) ∧ Cap2 t.1 (sumTo (fun k => if (g.2.2.2.getD k (0, [])).1 = s - g.1 then cntR g w (g.2.2.2.getD k (0, [])).2 i j else 0) v)) (fun t => ((g.2.2.2.length : Int) - t.2.1).toNat) ⟨0, rfl, by omega, h0, by simp, by unfold Cap2 sumTo; simp⟩ ?_
 rintro ⟨n, v', kn⟩ ⟨v, e, hv, hk, hle, hn⟩ X hX
 dsimp only at e hk hn hle hX
 subst e
 by_cases hlt : v < g.2.2.2.length
 ·refine step n v kn X hlt hk (fun hname r kn' hk' hr => ?_) (fun hname => hX _ ⟨v + 1, by simp, by omega, hk, by dsimp only; push_cast; omega, ?_⟩ (by dsimp only; omega))
  ·have hr1 : 0 ≤ r ∧ r ≤ 1099511627777 := by unfold CapV at hr; omega
   have hn0 := hn.1
   refine ⟨by unfold InR; omega, hX _ ⟨v + 1, by simp, by omega, hk', by dsimp only; push_cast; omega, ?_⟩ (by dsimp only; omega)⟩
   rw [sumTo_succ, if_pos hname]
   unfold Cap2 CapV at *
   dsimp only
   push_cast
   omega
  ·rw [sumTo_succ, if_neg hname]; exact hn
 ·have e : v = g.2.2.2.length := by omega
  subst e
  exact stop n kn X hk (by rw [cnt_name hp hs hj]; exact hn)
theorem capped {n : Int} {m : Nat} (h : Cap2 n m) {K : Int → Prop} (hK : ∀ v, CapV v m → K v) : ((decide ((1099511627776 : Int) < n)) = true → K 1099511627777) ∧ ((decide ((1099511627776 : Int) < n)) = false → K n) := by
 unfold Cap2 at h
 refine ⟨fun hc => hK _ ?_, fun hc => hK _ ?_⟩
 ·simp only [decide_eq_true_eq] at hc
  unfold CapV; omega
 ·simp only [decide_eq_false_iff_not] at hc
  unfold CapV; omega
theorem VC65_cap {a b : Int} {m n : Nat} (ha : CapV a m) (hb : CapV b n) {K : Int → Prop} (h : ∀ v, CapV v (m * n) → K v) : VC65 a b K := by
 have ha0 : 0 ≤ a := by unfold CapV at ha; omega
 have hb0 : 0 ≤ b := by unfold CapV at hb; omega
 unfold VC65 InR
 refine ⟨fun hz => h _ ?_, fun hz => ⟨⟨by omega, ?_⟩, fun hlt => h _ ?_, fun hge => ?_⟩⟩
 ·simp only [Bool.or_eq_true, decide_eq_true_eq] at hz
  unfold CapV at *
  have : m = 0 ∨ n = 0 := by omega
  rcases this with e | e <;> subst e <;> simp <;> omega
 ·simp only [Bool.or_eq_false_iff, decide_eq_false_iff_not] at hz
  omega
 ·simp only [Bool.or_eq_false_iff, decide_eq_false_iff_not] at hz
  simp only [decide_eq_true_eq] at hlt
  exact (mul_cap ha hb (by omega) (by omega)).1 hlt
 ·simp only [Bool.or_eq_false_iff, decide_eq_false_iff_not] at hz
  simp only [decide_eq_false_iff_not] at hge
  obtain ⟨h1, h2⟩ := (mul_cap ha hb (by omega) (by omega)).2 hge
  have h3 : 0 < a * b := Int.mul_pos (by omega) (by omega)
  exact ⟨⟨by omega, by omega⟩, h _ h2⟩
def lone (k : Int) (b : List Int) : Nat := if b.length = 1 ∧ k ≤ b.getD 0 0 then 1 else 0
theorem bush_sym {s : Int} {i j : Nat} (hs : s < g.1) (hi : j = i + 1 → i < w.length) {P : Int → Prop} (h : ∀ v, CapV v (cntS g w s i j) → P v) :
  ((decide ((j : Int) = (i : Int) + 1) && decide (w.getD i 0 = s)) = true → P 1) ∧ ((decide ((j : Int) = (i : Int) + 1) && decide (w.getD i 0 = s)) = false → P 0) := sym_ok hs hi h
set_option maxHeartbeats 4000000 in
theorem bush_of (hg : GoodG g) (hw : GoodW g.1 w) (hp : Prop1 g) : ∀ (f : Nat) (b : List Int) (i j : Nat) (kn : Kb) (K : Int × Kb → Prop), 2 * (j - i) + lone g.1 b < f → b ≠ [] → b.length ≤ 4 → (∀ s ∈ b, 0 ≤ s ∧ s < g.1 + g.2.1) → i ≤ j → j ≤ w.length → KbOk g w kn →
  (∀ v kn', KbOk g w kn' → CapV v (cntR g w b i j) → K (v, kn')) → VCc43_it g.1 g.2.1 g.2.2.1 g.2.2.2 w f b (i : Int) (j : Int) kn K := by
 intro f
 induction f with
 | zero => intro b i j kn K h; omega
 | succ f ih =>
  intro b i j kn K hf hb0 hb4 hsub hij hj hk hK
  have hk3 := hg.k
  have hn5 := hg.n
  have hfew := hg.few
  have hw12 := hw.1
  have rules : ∀ (s : Int) (i j : Nat) (kn : Kb) (B : Int × Int × Kb → (Int × Int × Kb → Prop) → Prop), ¬ s < g.1 → i ≤ j → j ≤ w.length → 2 * (j - i) < f → KbOk g w kn →
    (∀ n v kn X, v < g.2.2.2.length → ((g.2.2.2.getD v (0, [])).1 = s - g.1 → VCc43_it g.1 g.2.1 g.2.2.1 g.2.2.2 w f (g.2.2.2.getD v (0, [])).2 (i : Int) (j : Int) kn (fun r => InR (n + r.1) ∧ X (n + r.1, (v : Int) + 1, r.2))) → ((g.2.2.2.getD v (0, [])).1 ≠ s - g.1 → X (n, (v : Int) + 1, kn)) → B (n, (v : Int), kn) X) →
    (∀ n kn X, KbOk g w kn → Cap2 n (cntS g w s i j) → B (n, (g.2.2.2.length : Int), kn) X) → Loop B (0, 0, kn) := by
   intro s i j kn B hs hij hj hf hk hstep hstop
   refine bsign_loop hg hp hs hj hk (fun n v kn X hv hk' hhit hmiss => hstep n v kn X hv (fun he => ?_) hmiss) hstop
   have hvm : g.2.2.2.getD v (0, []) ∈ g.2.2.2 := getD_mem hv
   obtain ⟨hne, hl⟩ := hp _ hvm
   refine ih _ i j kn _ ?_ hne (hg.short _ hvm) (hg.right _ hvm) hij hj hk' (fun r kn' hk'' hr => hhit he r kn' hk'' hr)
   have : lone g.1 (g.2.2.2.getD v (0, [])).2 = 0 := by
    unfold lone
    rw [if_neg]
    rintro ⟨h1, h2⟩
    obtain ⟨x, hx⟩ := List.length_eq_one_iff.1 h1
    have := hl x hx
    rw [hx] at h2
    simp at h2
    omega
   omega
  show VCc43 g.1 g.2.1 g.2.2.1 g.2.2.2 w (VCc43_it g.1 g.2.1 g.2.2.1 g.2.2.2 w f) b (i : Int) (j : Int) kn K
  unfold VCc43
  simp only [Int.toNat_natCast]
  refine ⟨by unfold InR; omega, fun hshort => ?_, fun hlong => ⟨fun h0 => ?_, fun _ => ⟨fun hone => ?_, fun hmany => ?_⟩⟩⟩
  ·simp only [decide_eq_true_eq] at hshort
   refine hK 0 kn hk ?_
   rw [cnt_short hp (by omega)]
   exact capV_zero
  ·simp only [decide_eq_true_eq] at h0
   exact absurd (List.length_eq_zero_iff.1 (by omega)) hb0
  ·simp only [decide_eq_true_eq] at hone
   simp only [decide_eq_false_iff_not] at hlong
   obtain ⟨s, rfl⟩ := List.length_eq_one_iff.1 (show b.length = 1 by omega)
   simp only [Int.toNat_zero, List.getD_cons_zero]
   have hsr := hsub s List.mem_cons_self
   refine ⟨⟨by omega, by simp⟩, fun hsym => ?_, fun hname => ?_⟩
   ·simp only [decide_eq_true_eq] at hsym
    refine ⟨by unfold InR; omega, fun he => ?_, ?_⟩
    ·simp only [decide_eq_true_eq] at he
     exact ⟨by omega, by omega⟩
    ·exact bush_sym (P := fun v => VCc43_k1 K v kn) hsym (by omega) (fun v hv => hK v kn hk (by rw [cnt_one]; exact hv))
   ·simp only [decide_eq_false_iff_not] at hname
    have hl1 : lone g.1 [s] = 1 := by unfold lone; rw [if_pos ⟨rfl, by simp; omega⟩]
    rw [hl1] at hf
    refine ⟨fun hsame => ?_, fun hne => ⟨fun hsome => ?_, fun hnone => ?_⟩⟩
    ·simp only [decide_eq_true_eq] at hsame
     simp only [List.length_singleton] at hlong
     omega
    ·obtain ⟨v, hv⟩ := Option.isSome_iff_exists.1 hsome
     rw [hv]
     have := hk _ _ _ _ hv
     rw [Int.toNat_natCast, Int.toNat_natCast] at this
     exact hK v kn hk (by rw [cnt_one]; exact this)
    ·have hnn : mget kn [s, (i : Int), (j : Int)] = none := by
      cases h : mget kn [s, (i : Int), (j : Int)] with
      | none => rfl
      | some v => rw [h] at hnone; cases hnone
     rw [hnn]
     refine rules s i j kn _ hname hij hj (by omega) hk ?_ ?_
     ·intro n v kn X hv hhit hmiss
      dsimp only
      unfold VCc43_l1 VCc43_k4
      simp only [Int.toNat_natCast, Int.toNat_zero, List.getD_cons_zero]
      refine ⟨fun hb => ⟨⟨by omega, by omega⟩, by unfold InR; omega, fun he => ?_, fun hne => ?_⟩, fun hb => ?_⟩
      ·simp only [decide_eq_true_eq] at he
       have hvR : InR ((v : Int) + 1) := by unfold InR; omega
       have := hhit he
       simp only [hvR, true_and]
       exact this
      ·simp only [decide_eq_false_iff_not] at hne
       exact ⟨by unfold InR; omega, hmiss hne⟩
      ·simp only [decide_eq_false_iff_not] at hb
       omega
     ·intro n kn X hk' hn
      dsimp only
      unfold VCc43_l1
      refine ⟨fun hb => ?_, fun _ => ?_⟩
      ·simp only [decide_eq_true_eq] at hb
       omega
      ·unfold VCc43_k2 VCc43_k3 VCc43_k1
       simp only [Int.toNat_zero, List.getD_cons_zero]
       exact capped hn (K := fun v => K (v, mset kn [s, (i : Int), (j : Int)] v)) (fun v hv => hK v _ (kbOk_mset hk' (by rw [Int.toNat_natCast, Int.toNat_natCast]; exact hv)) (by rw [cnt_one]; exact hv))
  ·simp only [decide_eq_false_iff_not] at hmany hlong
   have hl0 : lone g.1 b = 0 := by unfold lone; rw [if_neg]; omega
   refine ⟨by unfold InR; omega, ?_⟩
   obtain ⟨s, b', rfl⟩ := List.exists_cons_of_ne_nil hb0
   cases b' with
   | nil => simp at hmany
   | cons t l =>
   have hsr := hsub s List.mem_cons_self
   simp only [List.length_cons] at hlong hb4
   refine Loop.by (fun q => ∃ e : Nat, q.2.1 = (e : Int) ∧ i + 1 ≤ e ∧ e ≤ j ∧ KbOk g w q.2.2 ∧ CapV q.1 (sumTo (fun q => cntS g w s i (q + (i + 1)) * cntR g w (t :: l) (q + (i + 1)) j) (e - (i + 1)))) (fun q => ((j : Int) - q.2.1).toNat) ⟨i + 1, by simp, by omega, by omega, hk, by rw [Nat.sub_self]; exact capV_zero⟩ ?_
   rintro ⟨n, e', kn1⟩ ⟨e, he, hie, hej, hk1, hn⟩ X hX
   dsimp only at he hk1 hn hX
   subst he
   dsimp only
   unfold VCc43_l2
   simp only [Int.toNat_natCast, Int.toNat_zero, List.getD_cons_zero, Int.toNat_one, List.drop_succ_cons, List.drop_zero]
   refine ⟨fun hb => ⟨⟨by omega, by simp only [List.length_cons]; omega⟩, ?_⟩, fun hb => ?_⟩
   ·simp only [decide_eq_true_eq] at hb
    have hsum : sumTo (fun q => cntS g w s i (q + (i + 1)) * cntR g w (t :: l) (q + (i + 1)) j) (e + 1 - (i + 1)) = sumTo (fun q => cntS g w s i (q + (i + 1)) * cntR g w (t :: l) (q + (i + 1)) j) (e - (i + 1)) + cntS g w s i e * cntR g w (t :: l) e j := by
     rw [show e + 1 - (i + 1) = (e - (i + 1)) + 1 by omega, sumTo_succ, show e - (i + 1) + (i + 1) = e by omega]
    refine ih (t :: l) e j kn1 _ (by
     have : lone g.1 (t :: l) ≤ 1 := by unfold lone; split <;> omega
     omega) (by simp) (by simp only [List.length_cons]; omega) (fun x hx => hsub x (List.mem_cons_of_mem _ hx)) hej hj hk1 (fun r kn2 hk2 hr => ?_)
    dsimp only
    have hk6 : ∀ (v : Int) (kn3 : Kb), KbOk g w kn3 → Cap2 v (sumTo (fun q => cntS g w s i (q + (i + 1)) * cntR g w (t :: l) (q + (i + 1)) j) (e - (i + 1)) + cntS g w s i e * cntR g w (t :: l) e j) → VCc43_k6 (e : Int) X v kn3 := by
     intro v kn3 hk3' hv
     unfold VCc43_k6 VCc43_k7
     refine capped hv (K := fun v => InR ((e : Int) + 1) ∧ X (v, (e : Int) + 1, kn3)) (fun v' hv' => ⟨by unfold InR; omega, hX _ ⟨e + 1, by simp, by omega, by omega, hk3', ?_⟩ (by dsimp only; omega)⟩)
     dsimp only
     rw [hsum]
     exact hv'
    have hk8 : ∀ (v : Int) (kn3 : Kb), KbOk g w kn3 → CapV v (cntS g w s i e) → VCc43_k8 n (e : Int) X (r, kn2) v kn3 := by
     intro v kn3 hk3' hv
     unfold VCc43_k8
     refine VC65_cap hv hr fun x hx => ⟨?_, hk6 _ kn3 hk3' ?_⟩
     ·unfold CapV at hx hn
      unfold InR
      omega
     ·unfold CapV at hx hn
      unfold Cap2
      push_cast
      push_cast at hx
      omega
    refine ⟨fun hpos => ⟨⟨by omega, by simp only [List.length_cons]; omega⟩, fun hsym => ?_, fun hname => ?_⟩, fun hz => ?_⟩
    ·simp only [decide_eq_true_eq] at hsym
     refine ⟨by unfold InR; omega, fun he => ?_, ?_⟩
     ·simp only [decide_eq_true_eq] at he
      exact ⟨by omega, by omega⟩
     ·exact bush_sym (P := fun v => VCc43_k8 n (e : Int) X (r, kn2) v kn2) hsym (by omega) (fun v hv => hk8 v kn2 hk2 hv)
    ·simp only [decide_eq_false_iff_not] at hname
     refine ⟨fun hsame => ?_, fun hne => ⟨fun hsome => ?_, fun hnone => ?_⟩⟩
     ·simp only [decide_eq_true_eq] at hsame
      omega
     ·obtain ⟨v, hv⟩ := Option.isSome_iff_exists.1 hsome
      rw [hv]
      have := hk2 _ _ _ _ hv
      rw [Int.toNat_natCast, Int.toNat_natCast] at this
      exact hk8 v kn2 hk2 this
     ·have hnn : mget kn2 [s, (i : Int), (e : Int)] = none := by
       cases h : mget kn2 [s, (i : Int), (e : Int)] with
       | none => rfl
       | some v => rw [h] at hnone; cases hnone
      rw [hnn]
      refine rules s i e kn2 _ hname (by omega) (by omega) (by omega) hk2 ?_ ?_
      ·intro n2 v kn X3 hv hhit hmiss
       dsimp only
       unfold VCc43_l3 VCc43_k11
       simp only [Int.toNat_natCast, Int.toNat_zero, List.getD_cons_zero]
       refine ⟨fun hb => ⟨⟨by omega, by omega⟩, by unfold InR; omega, fun he => ?_, fun hne => ?_⟩, fun hb => ?_⟩
       ·simp only [decide_eq_true_eq] at he
        have hvR : InR ((v : Int) + 1) := by unfold InR; omega
        have := hhit he
        simp only [hvR, true_and]
        exact this
       ·simp only [decide_eq_false_iff_not] at hne
        exact ⟨by unfold InR; omega, hmiss hne⟩
       ·simp only [decide_eq_false_iff_not] at hb
        omega
      ·intro n2 kn X3 hk' hn2
       dsimp only
       unfold VCc43_l3
       refine ⟨fun hb => ?_, fun _ => ?_⟩
       ·simp only [decide_eq_true_eq] at hb
        omega
       ·unfold VCc43_k9 VCc43_k10
        simp only [Int.toNat_zero, List.getD_cons_zero]
        exact capped hn2 (K := fun v => VCc43_k8 n (e : Int) X (r, kn2) v (mset kn [s, (i : Int), (e : Int)] v)) (fun v hv => hk8 v _ (kbOk_mset hk' (by rw [Int.toNat_natCast, Int.toNat_natCast]; exact hv)) hv)
    ·simp only [decide_eq_false_iff_not] at hz
     have h0 : cntR g w (t :: l) e j = 0 := by unfold CapV at hr; omega
     refine hk6 n kn2 hk2 ?_
     rw [h0, Nat.mul_zero, Nat.add_zero]
     unfold CapV at hn
     unfold Cap2
     omega
   ·simp only [decide_eq_false_iff_not] at hb
    have ej : e = j := by omega
    subst ej
    unfold VCc43_k5
    exact hK n _ hk1 (by rw [cnt_two]; exact hn)
theorem VC7_of {K : Int × Bool → Prop} (hno : ¬ All g w → K (0, false)) (hyes : All g w → ∀ v, CapV v (cntW g w) → K (v, true)) : VC7 g w K := by
 unfold VC7
 refine VC18_of fun b hb => ?_
 cases b with
 | false =>
  refine gcall_both (fun h => (by cases h)) (fun _ => ⟨fun _ => hno fun h => ?_, fun h => (by cases h)⟩)
  have := hb.2 ⟨h.1, h.2.1⟩
  cases this
 | true =>
  obtain ⟨hg, hw⟩ := hb.1 rfl
  refine gcall_both (fun _ => VC19_of hg fun r hr => ?_) (fun h => (by cases h))
  cases r with
  | false =>
   refine ⟨fun _ => hno fun h => ?_, fun h => (by cases h)⟩
   have := hr.2 h.2.2
   cases this
  | true =>
   have hp := hr.1 rfl
   have hk := hg.k
   have hn := hg.n
   have hst := hg.start
   have hfew := hg.few
   have hw12 := hw.1
   have hs : ¬ g.1 + g.2.2.1 < g.1 := by omega
   refine ⟨fun h => (by cases h), fun _ => ⟨by unfold InR; omega, fun hc => ?_, fun _ => ⟨fun h0 => ?_, fun _ => ⟨fun hsome => (by cases hsome), fun _ => ?_⟩⟩⟩⟩
   ·simp only [decide_eq_true_eq] at hc
    omega
   ·simp only [decide_eq_true_eq] at h0
    have e0 : cntW g w = 0 := by
     show cntS g w (g.1 + g.2.2.1) 0 w.length = 0
     rw [← cnt_one]
     exact cnt_short hp (by simp only [List.length_singleton]; omega)
    unfold VC7_k1
    refine hyes ⟨hg, hw, hp⟩ 0 ?_
    rw [e0]
    exact capV_zero
   ·refine bsign_loop hg (w := w) hp (s := g.1 + g.2.2.1) (i := 0) (j := w.length) hs (Nat.le_refl _) kbOk_nil ?_ ?_
    ·intro n v kn X hv hk' hhit hmiss
     dsimp only
     unfold VC7_l1 VC7_k4
     simp only [Int.toNat_natCast]
     refine ⟨fun hb => ⟨⟨by omega, by omega⟩, by unfold InR; omega, fun he => ?_, fun hne => ?_⟩, fun hb => ?_⟩
     ·simp only [decide_eq_true_eq] at he
      have hvm : g.2.2.2.getD v (0, []) ∈ g.2.2.2 := getD_mem hv
      have hne := (hp _ hvm).1
      refine ⟨2 * w.length + 2, bush_of hg hw hp _ _ 0 w.length kn _ (by
       have : lone g.1 (g.2.2.2.getD v (0, [])).2 ≤ 1 := by unfold lone; split <;> omega
       omega) hne (hg.short _ hvm) (hg.right _ hvm) (by omega) (by omega) hk' (fun r kn' hk'' hr' => ?_)⟩
      have := hhit he r kn' hk'' hr'
      exact ⟨this.1, by unfold InR; omega, this.2⟩
     ·simp only [decide_eq_false_iff_not] at hne
      exact ⟨by unfold InR; omega, hmiss hne⟩
     ·simp only [decide_eq_false_iff_not] at hb
      omega
    ·intro n kn X hk' hn'
     dsimp only
     unfold VC7_l1
     refine ⟨fun hb => ?_, fun _ => ?_⟩
     ·simp only [decide_eq_true_eq] at hb
      omega
     ·unfold VC7_k2 VC7_k3 VC7_k1
      exact capped hn' (K := fun v => K (v, true)) (fun v hv => hyes ⟨hg, hw, hp⟩ v hv)
end
end Dec
namespace Dec
open Go Go.Proofs Cfg
end Dec
