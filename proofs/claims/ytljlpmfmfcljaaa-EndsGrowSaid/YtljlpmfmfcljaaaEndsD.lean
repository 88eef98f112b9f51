/-
How many different words stand in a word: counted along its suffix array; a byte more adds the ends that did not stand in it. 'EndsGrow' in plain Lean.
-/
import Derived.Test.YtljlpmfmfcljaaaEndsA
import Derived.Test.YtljlpmfmfcljaaaGenFa
set_option linter.unusedSimpArgs false
set_option linter.unusedVariables false
namespace Dec
open Go Go.Proofs
theorem between : ∀ {u p s q : List Int}, cmpI p s < 0 → cmpI s q < 0 → u <+: p → u <+: q → u <+: s
  | [], _, _, _, _, _, _, _ => List.nil_prefix
  | a :: u, [], _, _, _, _, h, _ => by simp at h
  | a :: u, _ :: _, _, [], _, _, _, h => by simp at h
  | a :: u, b :: p, [], _, h1, _, _, _ => by simp [cmpI] at h1
  | a :: u, b :: p, c :: s, d :: q, h1, h2, h3, h4 => by
    rw [List.cons_prefix_cons] at h3 h4
    obtain ⟨rfl, h3⟩ := h3
    obtain ⟨rfl, h4⟩ := h4
    simp only [cmpI] at h1 h2
    by_cases x : a < c
    · have y : ¬ c < a := by omega
      simp [x, y] at h2
    · by_cases y : c < a
      · simp [x, y] at h1
      · simp only [x, y, if_false] at h1 h2
        have : a = c := by omega
        subst this
        rw [List.cons_prefix_cons]
        exact ⟨rfl, between h1 h2 h3 h4⟩
theorem lcp_prefix : ∀ {u p s : List Int}, u <+: p → u <+: s → u.length ≤ lcp p s
  | [], _, _, _, _ => by simp
  | a :: u, [], _, h, _ => by simp at h
  | a :: u, _ :: _, [], _, h => by simp at h
  | a :: u, b :: p, c :: s, h1, h2 => by
    rw [List.cons_prefix_cons] at h1 h2
    obtain ⟨rfl, h1⟩ := h1
    obtain ⟨rfl, h2⟩ := h2
    simp only [lcp, if_true, List.length_cons]
    have := lcp_prefix h1 h2
    omega
theorem prefix_lcp : ∀ {u p s : List Int}, u <+: s → u.length ≤ lcp p s → u <+: p
  | [], _, _, _, _ => List.nil_prefix
  | a :: u, [], _, _, h => by simp [lcp] at h
  | a :: u, _ :: _, [], h, _ => by simp at h
  | a :: u, b :: p, c :: s, h1, h2 => by
    rw [List.cons_prefix_cons] at h1
    obtain ⟨rfl, h1⟩ := h1
    simp only [lcp] at h2
    by_cases x : b = a
    · subst x
      simp only [if_true, List.length_cons] at h2
      rw [List.cons_prefix_cons]
      exact ⟨rfl, prefix_lcp h1 (by omega)⟩
    · simp [x] at h2
def newp (p s : List Int) : List (List Int) := (List.range (s.length - lcp p s)).map fun j => s.take (lcp p s + j + 1)
def prefs : List Int → List (List Int) → List (List Int)
  | _, [] => []
  | p, s :: r => newp p s ++ prefs s r
theorem newp_mem {p s u : List Int} : u ∈ newp p s ↔ u <+: s ∧ lcp p s < u.length := by
  unfold newp
  rw [List.mem_map]
  constructor
  · rintro ⟨j, hj, rfl⟩
    rw [List.mem_range] at hj
    refine ⟨List.take_prefix _ _, ?_⟩
    rw [List.length_take]
    omega
  · rintro ⟨h1, h2⟩
    have h3 := h1.length_le
    refine ⟨u.length - lcp p s - 1, List.mem_range.2 (by omega), ?_⟩
    rw [show lcp p s + (u.length - lcp p s - 1) + 1 = u.length by omega]
    exact (List.prefix_iff_eq_take.1 h1).symm
theorem newp_length (p s : List Int) : (newp p s).length = s.length - lcp p s := by simp [newp]
theorem newp_nodup (p s : List Int) : (newp p s).Nodup := by
  unfold newp
  rw [List.nodup_iff_pairwise_ne, List.pairwise_map]
  have h := List.nodup_iff_pairwise_ne.1 (List.nodup_range (n := s.length - lcp p s))
  refine List.Pairwise.imp_of_mem ?_ h
  intro a b ha hb hne e
  rw [List.mem_range] at ha hb
  have := congrArg List.length e
  simp only [List.length_take] at this
  omega
theorem prefs_sub {u : List Int} : ∀ {p : List Int} {S : List (List Int)}, u ∈ prefs p S → u ≠ [] ∧ ∃ s ∈ S, u <+: s
  | _, [], h => by simp [prefs] at h
  | p, s :: r, h => by
    simp only [prefs, List.mem_append] at h
    rcases h with h | h
    · obtain ⟨h1, h2⟩ := newp_mem.1 h
      exact ⟨fun e => by subst e; simp at h2, s, by simp, h1⟩
    · obtain ⟨h1, t, h2, h3⟩ := prefs_sub h
      exact ⟨h1, t, by simp [h2], h3⟩
theorem prefs_all {u s : List Int} : ∀ {p : List Int} {S : List (List Int)}, s ∈ S → u <+: s → u ∈ prefs p S ∨ u <+: p
  | _, [], h, _ => by simp at h
  | p, t :: r, h, hu => by
    have base : u <+: t → u ∈ prefs p (t :: r) ∨ u <+: p := fun ht => by
      by_cases x : u.length ≤ lcp p t
      · exact .inr (prefix_lcp ht x)
      · exact .inl (by simp only [prefs, List.mem_append]; exact .inl (newp_mem.2 ⟨ht, by omega⟩))
    rcases List.mem_cons.1 h with rfl | h
    · exact base hu
    · rcases prefs_all (p := t) h hu with k | k
      · exact .inl (by simp only [prefs, List.mem_append]; exact .inr k)
      · exact base k
theorem prefs_apart {u : List Int} : ∀ {p : List Int} {S : List (List Int)}, (p :: S).Pairwise (fun x y => cmpI x y < 0) → u ∈ prefs p S → ¬ u <+: p
  | _, [], _, h => by simp [prefs] at h
  | p, s :: r, hs, h => by
    simp only [prefs, List.mem_append] at h
    intro hp
    rcases h with h | h
    · obtain ⟨h1, h2⟩ := newp_mem.1 h
      have := lcp_prefix hp h1
      omega
    · have hs' := List.pairwise_cons.1 hs
      have hs2 := List.pairwise_cons.1 hs'.2
      obtain ⟨_, t, h2, h3⟩ := prefs_sub h
      exact prefs_apart hs'.2 h (between (hs'.1 s (by simp)) (hs2.1 t h2) hp h3)
theorem prefs_nodup : ∀ {p : List Int} {S : List (List Int)}, (p :: S).Pairwise (fun x y => cmpI x y < 0) → (prefs p S).Nodup
  | _, [], _ => by simp [prefs]
  | p, s :: r, hs => by
    have hs' := List.pairwise_cons.1 hs
    simp only [prefs]
    rw [List.nodup_append]
    refine ⟨newp_nodup p s, prefs_nodup hs'.2, fun u hu v hv e => ?_⟩
    subst e
    exact prefs_apart hs'.2 hv (newp_mem.1 hu).1
theorem prefs_length (w : List Int) : ∀ (l : List Int) (p : List Int), ((prefs p (l.map (suf w))).length : Int) = ((l.map fun x => ((suf w x).length : Int)).sum) - (match l with | [] => 0 | x :: _ => (lcp p (suf w x) : Int)) - (lcps w l).sum
  | [], p => by simp [prefs, lcps]
  | [x], p => by
    have := (lcp_le p (suf w x)).2
    simp only [List.map_cons, List.map_nil, prefs, List.length_append, newp_length, List.length_nil, List.sum_cons, List.sum_nil, lcps]
    simp only [List.length_singleton, Nat.sub_self, List.range_zero, List.map_nil, List.sum_nil]
    omega
  | x :: y :: r, p => by
    have ih := prefs_length w (y :: r) (suf w x)
    have := (lcp_le p (suf w x)).2
    have e1 : lcps w (x :: y :: r) = (lcp (suf w x) (suf w y) : Int) :: lcps w (y :: r) := by
      unfold lcps
      simp only [List.length_cons, Nat.add_sub_cancel]
      rw [List.range_succ_eq_map, List.map_cons, List.map_map]
      rfl
    rw [e1]
    simp only [List.map_cons, prefs, List.length_append, newp_length, List.sum_cons] at ih ⊢
    omega
theorem sum_poss (m : Nat) : ∀ k : Nat, k ≤ m → 2 * ((List.range k).map fun (i : Nat) => ((m - i : Nat) : Int)).sum = (k : Int) * (2 * (m : Int) - k + 1)
  | 0, _ => by simp
  | k + 1, h => by
    have ih := sum_poss m k (by omega)
    rw [List.range_succ, List.map_append, List.sum_append, Int.mul_add, ih]
    have : ((m - k : Nat) : Int) = (m : Int) - k := by omega
    simp only [List.map_cons, List.map_nil, List.sum_cons, List.sum_nil, this]
    rw [show ((k + 1 : Nat) : Int) = (k : Int) + 1 from by omega]
    rw [show (2 * (m : Int) - ((k : Int) + 1) + 1) = 2 * (m : Int) - k by omega, Int.mul_add, Int.add_mul, Int.mul_one]
    omega
theorem perm_sum {l m : List Int} (h : l.Perm m) : l.sum = m.sum := by
  induction h with
  | nil => rfl
  | cons x _ ih => simp [ih]
  | swap x y l => simp only [List.sum_cons]; omega
  | trans _ _ a b => exact a.trans b
def facs (w l : List Int) : List (List Int) := prefs [] (l.map (suf w))
theorem IsSuf.chain {w l : List Int} (h : IsSuf w l) : ([] :: l.map (suf w)).Pairwise (fun x y => cmpI x y < 0) := by
  rw [List.pairwise_cons, List.pairwise_map]
  refine ⟨fun s hs => ?_, h.rise⟩
  obtain ⟨x, hx, rfl⟩ := List.mem_map.1 hs
  have hm := h.mem hx
  have hl : (suf w x).length ≠ 0 := by rw [List.length_drop]; omega
  cases e : suf w x with
  | nil => rw [e] at hl; simp at hl
  | cons a r => simp [cmpI]
theorem facs_nodup {w l : List Int} (h : IsSuf w l) : (facs w l).Nodup := prefs_nodup h.chain
theorem facs_mem {w l : List Int} (h : IsSuf w l) {u : List Int} : u ∈ facs w l ↔ u ≠ [] ∧ ∃ i, i < w.length ∧ u <+: w.drop i := by
  constructor
  · intro hu
    obtain ⟨h1, s, hs, h2⟩ := prefs_sub hu
    obtain ⟨x, hx, rfl⟩ := List.mem_map.1 hs
    have := h.mem hx
    exact ⟨h1, x.toNat, by omega, h2⟩
  · rintro ⟨h1, i, hi, h2⟩
    have hx : (i : Int) ∈ l := (h.perm.mem_iff).2 (poss_mem.2 (by omega))
    rcases prefs_all (p := []) (List.mem_map_of_mem (f := suf w) hx) (show u <+: w.drop ((i : Int)).toNat from by rw [Int.toNat_natCast]; exact h2) with k | k
    · exact k
    · exact absurd (by simpa using k) h1
theorem facs_length {w l : List Int} (h : IsSuf w l) : ((facs w l).length : Int) = (w.length : Int) * ((w.length : Int) + 1) / 2 - (lcps w l).sum := by
  have h1 := prefs_length w l []
  have h2 : ((l.map fun x => ((suf w x).length : Int)).sum) = (w.length : Int) * ((w.length : Int) + 1) / 2 := by
    rw [perm_sum (h.perm.map _)]
    have h3 := sum_poss w.length w.length (Nat.le_refl _)
    have h4 : ((poss w.length).map fun x => ((suf w x).length : Int)) = (List.range w.length).map fun (i : Nat) => ((w.length - i : Nat) : Int) := by
      unfold poss
      rw [List.map_map]
      apply List.map_congr_left
      intro a _
      simp
    rw [h4]
    rw [show 2 * (w.length : Int) - (w.length : Int) + 1 = (w.length : Int) + 1 by omega] at h3
    omega
  have h5 : (match l with | [] => (0 : Int) | x :: _ => (lcp [] (suf w x) : Int)) = 0 := by
    cases l with
    | nil => rfl
    | cons x r => simp [lcp]
  unfold facs
  rw [h1, h2, h5]
  omega
theorem same_length {α : Type} {a b : List α} (ha : a.Nodup) (hb : b.Nodup) (h : ∀ x, x ∈ a ↔ x ∈ b) : a.length = b.length :=
  ((List.perm_ext_iff_of_nodup ha hb).2 h).length_eq
def stands (w x : List Int) (k : Nat) : Prop := ∃ i, i ≤ w.length ∧ x.drop (x.length - k) <+: w.drop i
theorem prefix_drop {u s : List Int} (h : u <+: s) (d : Nat) : u.drop d <+: s.drop d := by
  obtain ⟨t, rfl⟩ := h
  by_cases x : d ≤ u.length
  · exact ⟨t, by rw [List.drop_append_of_le_length x]⟩
  · rw [List.drop_of_length_le (by omega)]; exact List.nil_prefix
theorem grow_count {w x l m : List Int} {b : Int} {old : Nat} (hx : x = w ++ [b]) (hl : IsSuf w l) (hm : IsSuf x m) (ho : old = 0 ∨ stands w x old) (hle : old ≤ x.length) (hno : ∀ j, old < j → j ≤ x.length → ¬ stands w x j) :
    ((facs x m).length : Int) - (facs w l).length = (x.length : Int) - old := by
  let B := facs w l ++ (List.range (x.length - old)).map fun j => x.drop j
  have hxl : x.length = w.length + 1 := by rw [hx]; simp
  have hB : B.Nodup := by
    show (facs w l ++ _).Nodup
    rw [List.nodup_append]
    refine ⟨facs_nodup hl, ?_, ?_⟩
    · rw [List.nodup_iff_pairwise_ne, List.pairwise_map]
      refine List.Pairwise.imp_of_mem ?_ (List.nodup_iff_pairwise_ne.1 (List.nodup_range (n := x.length - old)))
      intro a c ha hc hne e
      rw [List.mem_range] at ha hc
      have := congrArg List.length e
      simp only [List.length_drop] at this
      omega
    · intro u hu v hv e
      subst e
      obtain ⟨j, hj, rfl⟩ := List.mem_map.1 hv
      rw [List.mem_range] at hj
      obtain ⟨_, i, hi, h2⟩ := (facs_mem hl).1 hu
      refine hno (x.length - j) (by omega) (by omega) ⟨i, by omega, ?_⟩
      rw [show x.length - (x.length - j) = j by omega]
      exact h2
  have hmem : ∀ u, u ∈ facs x m ↔ u ∈ B := by
    intro u
    show _ ↔ u ∈ facs w l ++ _
    rw [facs_mem hm, List.mem_append, facs_mem hl]
    constructor
    · rintro ⟨h1, i, hi, h2⟩
      have hul := h2.length_le
      rw [List.length_drop] at hul
      by_cases e : u.length = x.length - i
      · have hu : u = x.drop i := h2.eq_of_length (by rw [List.length_drop]; exact e)
        by_cases k : i < x.length - old
        · exact .inr (List.mem_map.2 ⟨i, List.mem_range.2 k, hu.symm⟩)
        · left
          refine ⟨h1, ?_⟩
          rcases ho with ho | ⟨j, hj, h3⟩
          · omega
          · have h4 := prefix_drop h3 (i - (x.length - old))
            rw [List.drop_drop, List.drop_drop, show x.length - old + (i - (x.length - old)) = i by omega, ← hu] at h4
            have h5 := h4.length_le
            rw [List.length_drop] at h5
            have h6 : u.length ≠ 0 := fun e => h1 (List.length_eq_zero_iff.1 e)
            exact ⟨_, by omega, h4⟩
      · left
        have h6 : u.length ≠ 0 := fun e => h1 (List.length_eq_zero_iff.1 e)
        refine ⟨h1, i, by omega, ?_⟩
        rw [hx, List.drop_append_of_le_length (by omega)] at h2
        exact List.prefix_of_prefix_length_le h2 (List.prefix_append _ _) (by rw [List.length_drop]; omega)
    · rintro (⟨h1, i, hi, h2⟩ | h)
      · refine ⟨h1, i, by omega, ?_⟩
        rw [hx, List.drop_append_of_le_length (by omega)]
        exact h2.trans (List.prefix_append _ _)
      · obtain ⟨j, hj, rfl⟩ := List.mem_map.1 h
        rw [List.mem_range] at hj
        refine ⟨fun e => ?_, j, by omega, List.prefix_refl _⟩
        have := congrArg List.length e
        simp only [List.length_drop, List.length_nil] at this
        omega
  have := same_length (facs_nodup hm) hB hmem
  have e : B.length = (facs w l).length + (x.length - old) := by simp [B]
  omega
end Dec
set_option maxRecDepth 10000
namespace Dec
open Go Go.Proofs
theorem tri_le {n : Nat} (h : n ≤ 60) : 0 ≤ (n : Int) * ((n : Int) + 1) ∧ (n : Int) * ((n : Int) + 1) ≤ 3660 := by
  have h1 : n * (n + 1) ≤ 60 * 61 := Nat.mul_le_mul h (by omega)
  have h2 : (n : Int) * ((n : Int) + 1) = ((n * (n + 1) : Nat) : Int) := by simp
  omega
theorem lcps_mem {w l : List Int} (hw : w.length ≤ 60) {x : Int} (hx : x ∈ lcps w l) : 0 ≤ x ∧ x ≤ 60 := by
  unfold lcps at hx
  obtain ⟨i, _, rfl⟩ := List.mem_map.1 hx
  have := (lcp_le (suf w (l.getD i 0)) (suf w (l.getD (i + 1) 0))).1
  rw [List.length_drop] at this
  omega
theorem VC17_of (w : List Int) (K : Int × Int → Prop) (hbad : 60 < w.length → K (0, 1)) (h : w.length ≤ 60 → ∀ l, IsSuf w l → K (((facs w l).length : Int), 0)) : VC17 w K := by
  unfold VC17
  refine VC27_of w _ (fun hb => ⟨fun _ => hbad hb, fun hh => by simp at hh⟩) (fun hb => ⟨fun hh => by simp at hh, fun _ => ?_⟩)
  have ht := tri_le hb
  refine ⟨by unfold InR; omega, by unfold InR; omega, ⟨ht.1, by omega⟩, ?_⟩
  refine VC29_of w _ hb fun l hl => VC28_of w l _ hb (by rw [hl.length]; exact hb) (fun x hx => hl.mem hx) ?_
  have hf := h hb l hl
  rw [facs_length hl] at hf
  obtain ⟨c, hc⟩ : ∃ c, lcps w l = c := ⟨_, rfl⟩
  have hm : ∀ x ∈ c, 0 ≤ x ∧ x ≤ 60 := fun x hx => lcps_mem hb (hc ▸ hx)
  have hlen : c.length ≤ 60 := by rw [← hc]; simp [lcps]; have := hl.length; omega
  rw [hc] at hf ⊢
  obtain ⟨N, hN⟩ : ∃ N, (w.length : Int) * ((w.length : Int) + 1) / 2 = N := ⟨_, rfl⟩
  rw [hN] at hf ⊢
  have e0 : ((N, (0 : Int)) : Int × Int) = ((fun i => N - (c.take i).sum) 0, 0) := by simp
  rw [e0]
  refine loop_state' c.length (fun i => N - (c.take i).sum) (fun i => 0 ≤ (c.take i).sum ∧ (c.take i).sum ≤ 60 * (i : Int)) (by simp) ?_
  intro i hi hP X hX
  unfold VC17_l1
  simp only [Int.toNat_natCast, decide_eq_true_eq, decide_eq_false_iff_not, inIdx, InR]
  refine ⟨fun hlt => ?_, fun hge => ?_⟩
  · have hx := hm _ (getD_mem (l := c) (i := i) (d := 0) (by omega))
    have hs : (c.take (i + 1)).sum = (c.take i).sum + c.getD i 0 := by
      rw [List.take_add_one, List.sum_append, getD_opt (d := 0) (by omega)]
      simp [-List.getD_eq_getElem?_getD]
    refine ⟨by omega, by omega, by omega, ?_⟩
    have := hX (by omega) (by rw [hs]; omega)
    rw [hs] at this
    rw [show N - (c.take i).sum - c.getD i 0 = N - ((c.take i).sum + c.getD i 0) by omega]
    exact this
  · unfold VC17_k1
    have : i = c.length := by omega
    subst this
    rw [List.take_length]
    exact hf
theorem VC30_of {s u : List Int} {K : Bool → Prop} (h : K (decide (u <+: s))) : VC30 s u K := by
  unfold VC30
  refine ⟨fun hh => by simp only [decide_eq_true_eq] at hh; omega, ?_⟩
  by_cases hl : u.length ≤ s.length
  · have e : decide ((u.length : Int) ≤ (s.length : Int)) = true := decide_eq_true (by omega)
    rw [e]
    show VC49 _ _ _
    unfold VC49
    simp only [Int.toNat_natCast, Bool.true_and]
    have : decide (s.take u.length = u) = decide (u <+: s) := by
      rw [decide_eq_decide, List.prefix_iff_eq_take]
      exact ⟨fun h => h.symm, fun h => h.symm⟩
    rw [this]; exact h
  · have e : decide ((u.length : Int) ≤ (s.length : Int)) = false := decide_eq_false (by omega)
    rw [e]
    show K (false && false)
    have : decide (u <+: s) = false := decide_eq_false fun hh => hl hh.length_le
    rw [this] at h
    exact h
theorem VC27_ok (l : List (List Int)) (K : Int → Prop) (hl : l.length ≤ 1000) (hm : ∀ x ∈ l, x.length ≤ 60) (h : K 0) : VC27 l K := by
  unfold VC27
  refine loop_count l.length (fun _ => True) trivial ?_
  intro i hi _ X hX
  unfold VC27_l1
  simp only [Int.toNat_natCast, decide_eq_true_eq, decide_eq_false_iff_not, inIdx, InR]
  refine ⟨fun hlt => ⟨by omega, fun hh => ?_, fun hh => ⟨by omega, hX (by omega) trivial⟩⟩, fun hge => h⟩
  have := hm _ (getD_mem (l := l) (i := i) (d := []) (by omega))
  omega
theorem VC19_of (w u : List Int) (K : Int × Int → Prop) (hw : w.length ≤ 60) (hu : u.length ≤ 60) (h : ∀ n : Int, (0 < n ↔ ∃ i, i ≤ w.length ∧ u <+: w.drop i) → K (n, 0)) : VC19 w u K := by
  unfold VC19
  refine VC27_ok _ _ (by simp) (fun x hx => ?_) ⟨fun hh => by simp at hh, fun _ => ?_⟩
  · simp only [List.mem_cons, List.not_mem_nil, or_false] at hx
    rcases hx with rfl | rfl <;> assumption
  · refine Loop.by (fun s => ∃ i : Nat, i ≤ w.length + 1 ∧ s.2 = (i : Int) ∧ 0 ≤ s.1 ∧ s.1 ≤ (i : Int) ∧ (0 < s.1 ↔ ∃ j, j < i ∧ u <+: w.drop j)) (fun s => ((w.length : Int) + 1 - s.2).toNat) ⟨0, by omega, rfl, by omega, by simp, by simp⟩ ?_
    rintro ⟨n, v⟩ ⟨i, hi, h1, h2, h3, h4⟩ X hX
    dsimp only at h1 h2 h3 h4 ⊢
    subst h1
    unfold VC19_l1
    simp only [Int.toNat_natCast, decide_eq_true_eq, decide_eq_false_iff_not, inIdx, InR]
    refine ⟨by omega, fun hlt => ⟨by omega, VC30_of ?_⟩, fun hge => ?_⟩
    · simp only [decide_eq_true_eq, decide_eq_false_iff_not]
      unfold VC19_k2
      simp only [InR]
      refine ⟨fun hp => ⟨by omega, by omega, hX _ ⟨i + 1, by omega, by simp, by simp only; omega, by simp only; omega, ?_⟩ (by simp only; omega)⟩, fun hp => ⟨by omega, hX _ ⟨i + 1, by omega, by simp, by simp only; omega, by simp only; omega, ?_⟩ (by simp only; omega)⟩⟩
      · simp only
        exact ⟨fun _ => ⟨i, by omega, hp⟩, fun _ => by omega⟩
      · simp only
        rw [h4]
        constructor
        · rintro ⟨j, hj, hh⟩; exact ⟨j, by omega, hh⟩
        · rintro ⟨j, hj, hh⟩
          by_cases e : j = i
          · subst e; exact absurd hh hp
          · exact ⟨j, by omega, hh⟩
    · unfold VC19_k1
      refine h n ?_
      rw [h4]
      constructor
      · rintro ⟨j, hj, hh⟩; exact ⟨j, by omega, hh⟩
      · rintro ⟨j, hj, hh⟩
        refine ⟨j, ?_, hh⟩
        have h5 := hh.length_le
        rw [List.length_drop] at h5
        omega
theorem law13 (w : List Int) (b : Int) (hw : w.length ≤ 140737488351232) : VC7 w b (fun b => b = true) := by
  unfold VC7
  have hx : ([] : List Int) ++ w ++ [b] = w ++ [b] := rfl
  rw [hx]
  have hxl : (w ++ [b]).length = w.length + 1 := by simp
  refine ⟨by (first | unfold roomW | unfold roomN); simp; omega, by (first | unfold roomW | unfold roomN); simp; omega, ?_⟩
  by_cases hl : w.length + 1 ≤ 60
  · refine VC17_of w _ (fun hb => by omega) (fun hb l hsl => ?_)
    refine VC17_of (w ++ [b]) _ (fun hb => by omega) (fun hb m hsm => ?_)
    refine VC18_of (w ++ [b]) _ ?_
    rw [decide_eq_false (by omega)]
    refine ⟨fun h => by simp at h, fun _ => ?_⟩
    obtain ⟨x, hxe⟩ : ∃ x, w ++ [b] = x := ⟨_, rfl⟩
    rw [hxe] at hxl hsm ⊢
    refine Loop.by (fun s => ∃ old k : Nat, s = ((old : Int), (k : Int)) ∧ 1 ≤ k ∧ k ≤ x.length + 1 ∧ old < k ∧ (old = 0 ∨ stands w x old) ∧ ∀ j, old < j → j < k → ¬ stands w x j) (fun s => ((x.length : Int) + 1 - s.2).toNat) ⟨0, 1, rfl, by omega, by omega, by omega, .inl rfl, fun j h1 h2 => by omega⟩ ?_
    rintro s ⟨old, k, rfl, h1, h2, h3, h4, h5⟩ X hX
    dsimp only
    unfold VC7_l1
    rw [hx, hxe]
    simp only [decide_eq_true_eq, decide_eq_false_iff_not, InR]
    refine ⟨fun hlt => ⟨by omega, by omega, ?_⟩, fun hge => ?_⟩
    · have e1 : ((x.length : Int) - (k : Int)).toNat = x.length - k := by omega
      rw [e1]
      refine VC19_of w _ _ (by omega) (by rw [List.length_drop]; omega) fun n hn => ?_
      have hst : 0 < n ↔ stands w x k := hn
      simp only [Bool.not_eq_true', decide_eq_false_iff_not, Bool.not_eq_false', decide_eq_true_eq]
      refine ⟨fun hh => absurd trivial hh, fun _ => ⟨fun hpos => ?_, fun hneg => ?_⟩⟩
      · unfold VC7_k2
        exact ⟨by unfold InR; omega, hX _ ⟨k, k + 1, by simp, by omega, by omega, by omega, .inr (hst.1 hpos), fun j h6 h7 => by omega⟩ (by simp only; omega)⟩
      · unfold VC7_k2
        refine ⟨by unfold InR; omega, hX _ ⟨old, k + 1, by simp, by omega, by omega, by omega, h4, fun j h6 h7 => ?_⟩ (by simp only; omega)⟩
        by_cases e : j = k
        · subst e; exact fun hh => hneg (hst.2 hh)
        · exact h5 j h6 (by omega)
    · unfold VC7_k1
      rw [hx, hxe]
      have hc := grow_count hxe.symm hsl hsm h4 (by omega) (fun j h6 h7 => h5 j h6 (by omega))
      simp only [decide_true, Bool.and_self, Bool.true_and, InR, decide_eq_true_eq]
      refine ⟨fun _ => by omega, fun _ => by omega, hc⟩
  · have key : ∀ r : Int × Int, VC17 (w ++ [b]) (fun ret27v => VC18 [w ++ [b]] (fun ret32v => ((ret32v = true → (!decide (ret27v.2 = (0 : Int))) = true) ∧ (ret32v = false → Loop (σ := Int × Int) (fun s X => VC7_l1 w b (fun b => b = true) r ret27v s.1 s.2 X) ((0 : Int), (1 : Int)))))) := by
      intro r
      refine VC17_of (w ++ [b]) _ (fun hb => ?_) (fun hb => by omega)
      refine VC18_of (w ++ [b]) _ ?_
      rw [decide_eq_true hb]
      exact ⟨fun _ => rfl, fun h => by simp at h⟩
    exact VC17_of w _ (fun hb => key _) (fun hb l hsl => key _)
end Dec
