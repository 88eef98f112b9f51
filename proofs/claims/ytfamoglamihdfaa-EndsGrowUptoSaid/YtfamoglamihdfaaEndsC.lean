/-
  How many different words stand in a word: counted along its suffix array; a byte more adds the ends that did not stand in it.
-/
import Derived.Test.YtfamoglamihdfaaEndsA
set_option linter.unusedSimpArgs false
set_option linter.unusedVariables false
namespace Dec
open Go Go.Proofs

/-- what lies between has the same beginning -/
theorem between : ∀ {u p s q : List Int}, cmpI p s < 0 → cmpI s q < 0 → u <+: p → u <+: q → u <+: s
  | [], _, _, _, _, _, _, _ => List.nil_prefix
  | a :: u, [], _, _, _, _, h, _ => by simp at h
  | a :: u, _ :: _, _, [], _, _, _, h => by simp at h
  | a :: u, b :: p, [], _, h1, _, _, _ => by simp [cmpI] at h1
  | a :: u, b :: p, c :: s, d :: q, h1, h2, h3, h4 => by
    rw [List.cons_prefix_cons] at h3 h4
    obtain ⟨rfl, h3⟩ := h3
    obtain ⟨rfl, h4⟩ := h4
    simp only [cmpI] at h1 h2
    by_cases x : a < c
    · have y : ¬ c < a := by omega
      simp [x, y] at h2
    · by_cases y : c < a
      · simp [x, y] at h1
      · simp only [x, y, if_false] at h1 h2
        have : a = c := by omega
        subst this
        rw [List.cons_prefix_cons]
        exact ⟨rfl, between h1 h2 h3 h4⟩

theorem lcp_prefix : ∀ {u p s : List Int}, u <+: p → u <+: s → u.length ≤ lcp p s
  | [], _, _, _, _ => by simp
  | a :: u, [], _, h, _ => by simp at h
  | a :: u, _ :: _, [], _, h => by simp at h
  | a :: u, b :: p, c :: s, h1, h2 => by
    rw [List.cons_prefix_cons] at h1 h2
    obtain ⟨rfl, h1⟩ := h1
    obtain ⟨rfl, h2⟩ := h2
    simp only [lcp, if_true, List.length_cons]
    have := lcp_prefix h1 h2
    omega

theorem prefix_lcp : ∀ {u p s : List Int}, u <+: s → u.length ≤ lcp p s → u <+: p
  | [], _, _, _, _ => List.nil_prefix
  | a :: u, [], _, _, h => by simp [lcp] at h
  | a :: u, _ :: _, [], h, _ => by simp at h
  | a :: u, b :: p, c :: s, h1, h2 => by
    rw [List.cons_prefix_cons] at h1
    obtain ⟨rfl, h1⟩ := h1
    simp only [lcp] at h2
    by_cases x : b = a
    · subst x
      simp only [if_true, List.length_cons] at h2
      rw [List.cons_prefix_cons]
      exact ⟨rfl, prefix_lcp h1 (by omega)⟩
    · simp [x] at h2

/-- the beginnings of s that are longer than what it has in common with p -/
def newp (p s : List Int) : List (List Int) := (List.range (s.length - lcp p s)).map fun j => s.take (lcp p s + j + 1)

def prefs : List Int → List (List Int) → List (List Int)
  | _, [] => []
  | p, s :: r => newp p s ++ prefs s r

theorem newp_mem {p s u : List Int} : u ∈ newp p s ↔ u <+: s ∧ lcp p s < u.length := by
  unfold newp
  rw [List.mem_map]
  constructor
  · rintro ⟨j, hj, rfl⟩
    rw [List.mem_range] at hj
    refine ⟨List.take_prefix _ _, ?_⟩
    rw [List.length_take]
    omega
  · rintro ⟨h1, h2⟩
    have h3 := h1.length_le
    refine ⟨u.length - lcp p s - 1, List.mem_range.2 (by omega), ?_⟩
    rw [show lcp p s + (u.length - lcp p s - 1) + 1 = u.length by omega]
    exact (List.prefix_iff_eq_take.1 h1).symm

theorem newp_length (p s : List Int) : (newp p s).length = s.length - lcp p s := by simp [newp]

theorem newp_nodup (p s : List Int) : (newp p s).Nodup := by
  unfold newp
  rw [List.nodup_iff_pairwise_ne, List.pairwise_map]
  have h := List.nodup_iff_pairwise_ne.1 (List.nodup_range (n := s.length - lcp p s))
  refine List.Pairwise.imp_of_mem ?_ h
  intro a b ha hb hne e
  rw [List.mem_range] at ha hb
  have := congrArg List.length e
  simp only [List.length_take] at this
  omega

theorem prefs_sub {u : List Int} : ∀ {p : List Int} {S : List (List Int)}, u ∈ prefs p S → u ≠ [] ∧ ∃ s ∈ S, u <+: s
  | _, [], h => by simp [prefs] at h
  | p, s :: r, h => by
    simp only [prefs, List.mem_append] at h
    rcases h with h | h
    · obtain ⟨h1, h2⟩ := newp_mem.1 h
      exact ⟨fun e => by subst e; simp at h2, s, by simp, h1⟩
    · obtain ⟨h1, t, h2, h3⟩ := prefs_sub h
      exact ⟨h1, t, by simp [h2], h3⟩

theorem prefs_all {u s : List Int} : ∀ {p : List Int} {S : List (List Int)}, s ∈ S → u <+: s → u ∈ prefs p S ∨ u <+: p
  | _, [], h, _ => by simp at h
  | p, t :: r, h, hu => by
    have base : u <+: t → u ∈ prefs p (t :: r) ∨ u <+: p := fun ht => by
      by_cases x : u.length ≤ lcp p t
      · exact .inr (prefix_lcp ht x)
      · exact .inl (by simp only [prefs, List.mem_append]; exact .inl (newp_mem.2 ⟨ht, by omega⟩))
    rcases List.mem_cons.1 h with rfl | h
    · exact base hu
    · rcases prefs_all (p := t) h hu with k | k
      · exact .inl (by simp only [prefs, List.mem_append]; exact .inr k)
      · exact base k

theorem prefs_apart {u : List Int} : ∀ {p : List Int} {S : List (List Int)}, (p :: S).Pairwise (fun x y => cmpI x y < 0) → u ∈ prefs p S → ¬ u <+: p
  | _, [], _, h => by simp [prefs] at h
  | p, s :: r, hs, h => by
    simp only [prefs, List.mem_append] at h
    intro hp
    rcases h with h | h
    · obtain ⟨h1, h2⟩ := newp_mem.1 h
      have := lcp_prefix hp h1
      omega
    · have hs' := List.pairwise_cons.1 hs
      have hs2 := List.pairwise_cons.1 hs'.2
      obtain ⟨_, t, h2, h3⟩ := prefs_sub h
      exact prefs_apart hs'.2 h (between (hs'.1 s (by simp)) (hs2.1 t h2) hp h3)

theorem prefs_nodup : ∀ {p : List Int} {S : List (List Int)}, (p :: S).Pairwise (fun x y => cmpI x y < 0) → (prefs p S).Nodup
  | _, [], _ => by simp [prefs]
  | p, s :: r, hs => by
    have hs' := List.pairwise_cons.1 hs
    simp only [prefs]
    rw [List.nodup_append]
    refine ⟨newp_nodup p s, prefs_nodup hs'.2, fun u hu v hv e => ?_⟩
    subst e
    exact prefs_apart hs'.2 hv (newp_mem.1 hu).1

theorem prefs_length (w : List Int) : ∀ (l : List Int) (p : List Int), ((prefs p (l.map (suf w))).length : Int) = ((l.map fun x => ((suf w x).length : Int)).sum) - (match l with | [] => 0 | x :: _ => (lcp p (suf w x) : Int)) - (lcps w l).sum
  | [], p => by simp [prefs, lcps]
  | [x], p => by
    have := (lcp_le p (suf w x)).2
    simp only [List.map_cons, List.map_nil, prefs, List.length_append, newp_length, List.length_nil, List.sum_cons, List.sum_nil, lcps]
    simp only [List.length_singleton, Nat.sub_self, List.range_zero, List.map_nil, List.sum_nil]
    omega
  | x :: y :: r, p => by
    have ih := prefs_length w (y :: r) (suf w x)
    have := (lcp_le p (suf w x)).2
    have e1 : lcps w (x :: y :: r) = (lcp (suf w x) (suf w y) : Int) :: lcps w (y :: r) := by
      unfold lcps
      simp only [List.length_cons, Nat.add_sub_cancel]
      rw [List.range_succ_eq_map, List.map_cons, List.map_map]
      rfl
    rw [e1]
    simp only [List.map_cons, prefs, List.length_append, newp_length, List.sum_cons] at ih ⊢
    omega

theorem sum_poss (m : Nat) : ∀ k : Nat, k ≤ m → 2 * ((List.range k).map fun (i : Nat) => ((m - i : Nat) : Int)).sum = (k : Int) * (2 * (m : Int) - k + 1)
  | 0, _ => by simp
  | k + 1, h => by
    have ih := sum_poss m k (by omega)
    rw [List.range_succ, List.map_append, List.sum_append, Int.mul_add, ih]
    have : ((m - k : Nat) : Int) = (m : Int) - k := by omega
    simp only [List.map_cons, List.map_nil, List.sum_cons, List.sum_nil, this]
    rw [show ((k + 1 : Nat) : Int) = (k : Int) + 1 from by omega]
    rw [show (2 * (m : Int) - ((k : Int) + 1) + 1) = 2 * (m : Int) - k by omega, Int.mul_add, Int.add_mul, Int.mul_one]
    omega

theorem perm_sum {l m : List Int} (h : l.Perm m) : l.sum = m.sum := by
  induction h with
  | nil => rfl
  | cons x _ ih => simp [ih]
  | swap x y l => simp only [List.sum_cons]; omega
  | trans _ _ a b => exact a.trans b

/-- the words that stand in w, each once -/
def facs (w l : List Int) : List (List Int) := prefs [] (l.map (suf w))

theorem IsSuf.chain {w l : List Int} (h : IsSuf w l) : ([] :: l.map (suf w)).Pairwise (fun x y => cmpI x y < 0) := by
  rw [List.pairwise_cons, List.pairwise_map]
  refine ⟨fun s hs => ?_, h.rise⟩
  obtain ⟨x, hx, rfl⟩ := List.mem_map.1 hs
  have hm := h.mem hx
  have hl : (suf w x).length ≠ 0 := by rw [List.length_drop]; omega
  cases e : suf w x with
  | nil => rw [e] at hl; simp at hl
  | cons a r => simp [cmpI]

theorem facs_nodup {w l : List Int} (h : IsSuf w l) : (facs w l).Nodup := prefs_nodup h.chain

theorem facs_mem {w l : List Int} (h : IsSuf w l) {u : List Int} : u ∈ facs w l ↔ u ≠ [] ∧ ∃ i, i < w.length ∧ u <+: w.drop i := by
  constructor
  · intro hu
    obtain ⟨h1, s, hs, h2⟩ := prefs_sub hu
    obtain ⟨x, hx, rfl⟩ := List.mem_map.1 hs
    have := h.mem hx
    exact ⟨h1, x.toNat, by omega, h2⟩
  · rintro ⟨h1, i, hi, h2⟩
    have hx : (i : Int) ∈ l := (h.perm.mem_iff).2 (poss_mem.2 (by omega))
    rcases prefs_all (p := []) (List.mem_map_of_mem (f := suf w) hx) (show u <+: w.drop ((i : Int)).toNat from by rw [Int.toNat_natCast]; exact h2) with k | k
    · exact k
    · exact absurd (by simpa using k) h1

theorem facs_length {w l : List Int} (h : IsSuf w l) : ((facs w l).length : Int) = (w.length : Int) * ((w.length : Int) + 1) / 2 - (lcps w l).sum := by
  have h1 := prefs_length w l []
  have h2 : ((l.map fun x => ((suf w x).length : Int)).sum) = (w.length : Int) * ((w.length : Int) + 1) / 2 := by
    rw [perm_sum (h.perm.map _)]
    have h3 := sum_poss w.length w.length (Nat.le_refl _)
    have h4 : ((poss w.length).map fun x => ((suf w x).length : Int)) = (List.range w.length).map fun (i : Nat) => ((w.length - i : Nat) : Int) := by
      unfold poss
      rw [List.map_map]
      apply List.map_congr_left
      intro a _
      simp
    rw [h4]
    rw [show 2 * (w.length : Int) - (w.length : Int) + 1 = (w.length : Int) + 1 by omega] at h3
    omega
  have h5 : (match l with | [] => (0 : Int) | x :: _ => (lcp [] (suf w x) : Int)) = 0 := by
    cases l with
    | nil => rfl
    | cons x r => simp [lcp]
  unfold facs
  rw [h1, h2, h5]
  omega

theorem same_length {α : Type} {a b : List α} (ha : a.Nodup) (hb : b.Nodup) (h : ∀ x, x ∈ a ↔ x ∈ b) : a.length = b.length :=
  ((List.perm_ext_iff_of_nodup ha hb).2 h).length_eq

/-- does the end of x of length k stand in w? -/
def stands (w x : List Int) (k : Nat) : Prop := ∃ i, i ≤ w.length ∧ x.drop (x.length - k) <+: w.drop i

theorem prefix_drop {u s : List Int} (h : u <+: s) (d : Nat) : u.drop d <+: s.drop d := by
  obtain ⟨t, rfl⟩ := h
  by_cases x : d ≤ u.length
  · exact ⟨t, by rw [List.drop_append_of_le_length x]⟩
  · rw [List.drop_of_length_le (by omega)]; exact List.nil_prefix

theorem grow_count {w x l m : List Int} {b : Int} {old : Nat} (hx : x = w ++ [b]) (hl : IsSuf w l) (hm : IsSuf x m) (ho : old = 0 ∨ stands w x old) (hle : old ≤ x.length) (hno : ∀ j, old < j → j ≤ x.length → ¬ stands w x j) :
    ((facs x m).length : Int) - (facs w l).length = (x.length : Int) - old := by
  let B := facs w l ++ (List.range (x.length - old)).map fun j => x.drop j
  have hxl : x.length = w.length + 1 := by rw [hx]; simp
  have hB : B.Nodup := by
    show (facs w l ++ _).Nodup
    rw [List.nodup_append]
    refine ⟨facs_nodup hl, ?_, ?_⟩
    · rw [List.nodup_iff_pairwise_ne, List.pairwise_map]
      refine List.Pairwise.imp_of_mem ?_ (List.nodup_iff_pairwise_ne.1 (List.nodup_range (n := x.length - old)))
      intro a c ha hc hne e
      rw [List.mem_range] at ha hc
      have := congrArg List.length e
      simp only [List.length_drop] at this
      omega
    · intro u hu v hv e
      subst e
      obtain ⟨j, hj, rfl⟩ := List.mem_map.1 hv
      rw [List.mem_range] at hj
      obtain ⟨_, i, hi, h2⟩ := (facs_mem hl).1 hu
      refine hno (x.length - j) (by omega) (by omega) ⟨i, by omega, ?_⟩
      rw [show x.length - (x.length - j) = j by omega]
      exact h2
  have hmem : ∀ u, u ∈ facs x m ↔ u ∈ B := by
    intro u
    show _ ↔ u ∈ facs w l ++ _
    rw [facs_mem hm, List.mem_append, facs_mem hl]
    constructor
    · rintro ⟨h1, i, hi, h2⟩
      have hul := h2.length_le
      rw [List.length_drop] at hul
      by_cases e : u.length = x.length - i
      · have hu : u = x.drop i := h2.eq_of_length (by rw [List.length_drop]; exact e)
        by_cases k : i < x.length - old
        · exact .inr (List.mem_map.2 ⟨i, List.mem_range.2 k, hu.symm⟩)
        · left
          refine ⟨h1, ?_⟩
          rcases ho with ho | ⟨j, hj, h3⟩
          · omega
          · have h4 := prefix_drop h3 (i - (x.length - old))
            rw [List.drop_drop, List.drop_drop, show x.length - old + (i - (x.length - old)) = i by omega, ← hu] at h4
            have h5 := h4.length_le
            rw [List.length_drop] at h5
            have h6 : u.length ≠ 0 := fun e => h1 (List.length_eq_zero_iff.1 e)
            exact ⟨_, by omega, h4⟩
      · left
        have h6 : u.length ≠ 0 := fun e => h1 (List.length_eq_zero_iff.1 e)
        refine ⟨h1, i, by omega, ?_⟩
        rw [hx, List.drop_append_of_le_length (by omega)] at h2
        exact List.prefix_of_prefix_length_le h2 (List.prefix_append _ _) (by rw [List.length_drop]; omega)
    · rintro (⟨h1, i, hi, h2⟩ | h)
      · refine ⟨h1, i, by omega, ?_⟩
        rw [hx, List.drop_append_of_le_length (by omega)]
        exact h2.trans (List.prefix_append _ _)
      · obtain ⟨j, hj, rfl⟩ := List.mem_map.1 h
        rw [List.mem_range] at hj
        refine ⟨fun e => ?_, j, by omega, List.prefix_refl _⟩
        have := congrArg List.length e
        simp only [List.length_drop, List.length_nil] at this
        omega
  have := same_length (facs_nodup hm) hB hmem
  have e : B.length = (facs w l).length + (x.length - old) := by simp [B]
  omega
end Dec
