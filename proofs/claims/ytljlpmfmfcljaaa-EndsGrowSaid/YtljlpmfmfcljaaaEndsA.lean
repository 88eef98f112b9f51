/-
Suffix arrays in plain Lean: the order of words, common beginnings, what ends.order and ends.common give.
-/
import Derived.Test.YtljlpmfmfcljaaaGenFa
import Derived.Test.YtljlpmfmfcljaaaLib
set_option linter.unusedSimpArgs false
set_option linter.unusedVariables false
namespace Dec
open Go Go.Proofs
theorem cmpI_self : ∀ l : List Int, cmpI l l = 0
  | [] => rfl
  | a :: l => by simp [cmpI, cmpI_self l]
theorem cmpI_swap : ∀ l m : List Int, cmpI m l = - cmpI l m
  | [], [] => rfl
  | [], _ :: _ => rfl
  | _ :: _, [] => rfl
  | a :: l, b :: m => by
    have ih := cmpI_swap l m
    simp only [cmpI]
    by_cases h1 : a < b
    · have : ¬ b < a := by omega
      simp [h1, this]
    · by_cases h2 : b < a
      · simp [h1, h2]
      · simp [h1, h2, ih]
theorem cmpI_eq : ∀ {l m : List Int}, cmpI l m = 0 → l = m
  | [], [], _ => rfl
  | [], _ :: _, h => by simp [cmpI] at h
  | _ :: _, [], h => by simp [cmpI] at h
  | a :: l, b :: m, h => by
    simp only [cmpI] at h
    by_cases h1 : a < b
    · simp [h1] at h
    · by_cases h2 : b < a
      · simp [h1, h2] at h
      · simp only [h1, h2, if_false] at h
        rw [cmpI_eq h, show a = b by omega]
theorem cmpI_trans : ∀ {l m k : List Int}, cmpI l m < 0 → cmpI m k < 0 → cmpI l k < 0
  | [], m, [], h1, h2 => by
    cases m with
    | nil => exact h1
    | cons b m => simp [cmpI] at h2
  | [], _, _ :: _, _, _ => by simp [cmpI]
  | _ :: _, [], _, h1, _ => by simp [cmpI] at h1
  | _ :: _, _ :: _, [], _, h2 => by simp [cmpI] at h2
  | a :: l, b :: m, c :: k, h1, h2 => by
    simp only [cmpI] at h1 h2 ⊢
    by_cases a1 : a < b
    · have c1 : b < c ∨ b = c := by
        by_cases x : b < c
        · exact .inl x
        · by_cases y : c < b
          · simp [x, y] at h2
          · exact .inr (by omega)
      have : a < c := by omega
      simp [this]
    · by_cases a2 : b < a
      · simp [a1, a2] at h1
      · have e : a = b := by omega
        subst e
        simp only [a1, if_false] at h1
        by_cases x : a < c
        · simp [x]
        · by_cases y : c < a
          · simp [x, y] at h2
          · simp only [x, y, if_false] at h2 ⊢
            exact cmpI_trans h1 h2
theorem cmpI_ntrans {l m k : List Int} (h1 : ¬ cmpI l m < 0) (h2 : ¬ cmpI m k < 0) : ¬ cmpI l k < 0 := by
  intro h
  by_cases a : cmpI l m = 0
  · rw [cmpI_eq a] at h; exact h2 h
  · by_cases b : cmpI m k = 0
    · rw [← cmpI_eq b] at h; exact h1 h
    · have e1 := cmpI_swap l m
      have e2 := cmpI_swap m k
      have := cmpI_trans (l := k) (m := m) (k := l) (by omega) (by omega)
      have e3 := cmpI_swap l k
      omega
def lcp : List Int → List Int → Nat
  | a :: l, b :: m => if a = b then lcp l m + 1 else 0
  | _, _ => 0
theorem lcp_le : ∀ l m : List Int, lcp l m ≤ l.length ∧ lcp l m ≤ m.length
  | [], m => by simp [lcp]
  | _ :: _, [] => by simp [lcp]
  | a :: l, b :: m => by
    have := lcp_le l m
    simp only [lcp]
    split <;> simp <;> omega
theorem lcp_step {a b : List Int} {n : Nat} (ha : n < a.length) (hb : n < b.length) :
    lcp (a.drop n) (b.drop n) = if a.getD n 0 = b.getD n 0 then lcp (a.drop (n + 1)) (b.drop (n + 1)) + 1 else 0 := by
  rw [List.drop_eq_getElem_cons ha, List.drop_eq_getElem_cons hb, getD_lt 0 ha, getD_lt 0 hb]
  rfl
theorem lcp_end {a b : List Int} {n : Nat} (h : a.length ≤ n ∨ b.length ≤ n) : lcp (a.drop n) (b.drop n) = 0 := by
  rcases h with h | h
  · rw [List.drop_of_length_le h]; rfl
  · rw [List.drop_of_length_le h]; cases a.drop n <;> rfl
abbrev suf (w : List Int) (x : Int) : List Int := w.drop x.toNat
def poss (n : Nat) : List Int := (List.range n).map fun (i : Nat) => (i : Int)
theorem poss_mem {n : Nat} {x : Int} : x ∈ poss n ↔ 0 ≤ x ∧ x < n := by
  unfold poss
  rw [List.mem_map]
  constructor
  · rintro ⟨i, hi, rfl⟩
    rw [List.mem_range] at hi
    omega
  · intro h
    exact ⟨x.toNat, List.mem_range.2 (by omega), by omega⟩
structure IsSuf (w l : List Int) : Prop where
  perm : l.Perm (poss w.length)
  rise : l.Pairwise fun x y => cmpI (suf w x) (suf w y) < 0
theorem suf_inj {w : List Int} {x y : Int} (hx : 0 ≤ x ∧ x < w.length) (hy : 0 ≤ y ∧ y < w.length) (h : suf w x = suf w y) : x = y := by
  have := congrArg List.length h
  simp only [List.length_drop] at this
  omega
theorem poss_nodup (n : Nat) : (poss n).Nodup := by
  unfold poss
  rw [List.nodup_iff_pairwise_ne, List.pairwise_map]
  have h := List.nodup_iff_pairwise_ne.1 (List.nodup_range (n := n))
  exact h.imp fun {a b} hh e => hh (by omega)
theorem IsSuf.of_srt {w l : List Int} (h : Srt (fun x y => cmpI (suf w x) (suf w y)) (poss w.length) l) : IsSuf w l := by
  refine ⟨h.perm, ?_⟩
  have hn : l.Pairwise (· ≠ ·) := List.nodup_iff_pairwise_ne.1 ((h.perm.nodup_iff).2 (poss_nodup _))
  have hm : ∀ x ∈ l, 0 ≤ x ∧ x < w.length := fun x hx => poss_mem.1 ((h.perm.mem_iff).1 hx)
  have hs := h.sorted.and hn
  refine List.Pairwise.imp_of_mem ?_ hs
  rintro x y hx hy ⟨h1, h2⟩
  have e1 := cmpI_swap (suf w x) (suf w y)
  by_cases h3 : cmpI (suf w x) (suf w y) = 0
  · exact absurd (suf_inj (hm x hx) (hm y hy) (cmpI_eq h3)) h2
  · omega
theorem IsSuf.mem {w l : List Int} (h : IsSuf w l) {x : Int} (hx : x ∈ l) : 0 ≤ x ∧ x < w.length := poss_mem.1 ((h.perm.mem_iff).1 hx)
theorem IsSuf.length {w l : List Int} (h : IsSuf w l) : l.length = w.length := by rw [h.perm.length_eq]; simp [poss]
theorem VC47_of {w : List Int} {a b : Int} {K : Int → Prop} (ha : 0 ≤ a ∧ a ≤ w.length) (hb : 0 ≤ b ∧ b ≤ w.length) (h : K (cmpI (suf w a) (suf w b))) : VC47 a b w K := by
  unfold VC47 VC48
  exact ⟨ha, hb, h⟩
theorem set_poss {n i : Nat} (hi : i < n) : ((poss i ++ List.replicate (n - i) (0 : Int)).set i (i : Int)) = poss (i + 1) ++ List.replicate (n - (i + 1)) (0 : Int) := by
  obtain ⟨k, rfl⟩ : ∃ k, n = i + 1 + k := ⟨n - (i + 1), by omega⟩
  rw [show i + 1 + k - i = k + 1 by omega, show i + 1 + k - (i + 1) = k by omega, List.replicate_succ]
  have hl : (poss i).length = i := by simp [poss]
  rw [List.set_append_right _ _ (by omega), hl, Nat.sub_self, List.set_cons_zero]
  have : poss (i + 1) = poss i ++ [(i : Int)] := by simp [poss, List.range_succ]
  rw [this, List.append_assoc]
  rfl
theorem VC29_of (w : List Int) (K : List Int → Prop) (hl : w.length ≤ 60) (h : ∀ l, IsSuf w l → K l) : VC29 w K := by
  unfold VC29
  refine ⟨by unfold room; omega, ?_⟩
  have hst : (List.replicate ((w.length : Int)).toNat (0 : Int)) = (fun i => poss i ++ List.replicate (w.length - i) (0 : Int)) 0 := by simp [poss]
  rw [hst]
  refine loop_state w.length (fun i => poss i ++ List.replicate (w.length - i) (0 : Int)) (fun _ => True) trivial ?_
  intro i hi _ X hX
  have hlen : (poss i ++ List.replicate (w.length - i) (0 : Int)).length = w.length := by simp [poss]; omega
  unfold VC29_l1
  simp only [Int.toNat_natCast, List.length_replicate, decide_eq_true_eq, decide_eq_false_iff_not, hlen, inIdx, InR]
  refine ⟨fun hlt => ⟨by omega, by omega, ?_⟩, fun hge => ?_⟩
  · have := hX (by omega) trivial
    rw [set_poss (by omega)]
    exact this
  · have e : i = w.length := by omega
    subst e
    simp only [Nat.sub_self, List.replicate_zero, List.append_nil]
    unfold VC29_k1 SortVC
    refine ⟨fun x y => cmpI (suf w x) (suf w y), ⟨fun x _ => by rw [cmpI_self]; omega, fun x _ y _ z _ => cmpI_trans, fun x _ y _ z _ => cmpI_ntrans⟩, by (first | unfold roomW | unfold roomN); simp [poss]; omega, fun x hx y hy => ?_, fun l' hl' => h l' (IsSuf.of_srt hl')⟩
    have h1 := poss_mem.1 hx
    have h2 := poss_mem.1 hy
    exact VC47_of ⟨h1.1, by omega⟩ ⟨h2.1, by omega⟩ rfl
def lcps (w l : List Int) : List Int := (List.range (l.length - 1)).map fun i => (lcp (suf w (l.getD i 0)) (suf w (l.getD (i + 1) 0)) : Int)
theorem VC28_of (w l : List Int) (K : List Int → Prop) (hw : w.length ≤ 60) (hl : l.length ≤ 60) (hm : ∀ x ∈ l, 0 ≤ x ∧ x < w.length) (h : K (lcps w l)) : VC28 w l K := by
  unfold VC28
  let f := fun i => (lcp (suf w (l.getD i 0)) (suf w (l.getD (i + 1) 0)) : Int)
  refine Loop.by (fun s => ∃ i : Nat, (i = 0 ∨ i + 1 ≤ l.length) ∧ s = ((i : Int) + 1, (List.range i).map f)) (fun s => ((l.length : Int) - s.1).toNat) ⟨0, .inl rfl, rfl⟩ ?_
  rintro s ⟨i, hi, rfl⟩ X hX
  unfold VC28_l1
  simp only [decide_eq_true_eq, decide_eq_false_iff_not, inIdx, InR]
  refine ⟨fun hlt => ?_, fun hge => ?_⟩
  · have e1 : ((i : Int) + 1 - 1).toNat = i := by omega
    have e2 : ((i : Int) + 1).toNat = i + 1 := by omega
    have m1 := hm _ (getD_mem (l := l) (i := i) (d := 0) (by omega))
    have m2 := hm _ (getD_mem (l := l) (i := i + 1) (d := 0) (by omega))
    rw [e1, e2]
    refine ⟨by omega, by omega, ⟨m1.1, by omega⟩, by omega, ⟨m2.1, by omega⟩, ?_⟩
    obtain ⟨a, ha⟩ : ∃ a, w.drop (l.getD i 0).toNat = a := ⟨_, rfl⟩
    obtain ⟨b, hb⟩ : ∃ b, w.drop (l.getD (i + 1) 0).toNat = b := ⟨_, rfl⟩
    have hal : a.length ≤ 60 := by rw [← ha, List.length_drop]; omega
    refine Loop.by (fun s => ∃ n : Nat, s = (n : Int) ∧ n ≤ a.length ∧ n ≤ b.length ∧ lcp a b = n + lcp (a.drop n) (b.drop n)) (fun s => ((a.length : Int) - s).toNat) ⟨0, rfl, by omega, by omega, by simp⟩ ?_
    rintro s ⟨n, rfl, h1, h2, h3⟩ X2 hX2
    unfold VC28_l2
    rw [e1, e2, ha, hb]
    simp only [Int.toNat_natCast, Bool.and_eq_true, decide_eq_true_eq, Bool.and_eq_false_iff, decide_eq_false_iff_not, inIdx, InR]
    refine ⟨fun hlt => by omega, fun hlt => by omega, fun hh => ⟨by omega, hX2 _ ⟨n + 1, by omega, by omega, by omega, ?_⟩ (by omega)⟩, fun hge => ?_⟩
    · rw [h3, lcp_step (by omega) (by omega), if_pos hh.2]; omega
    · have e0 : lcp (a.drop n) (b.drop n) = 0 := by
        by_cases x : n < a.length
        · by_cases y : n < b.length
          · rw [lcp_step x y, if_neg]
            rcases hge with (g | g) | g
            · omega
            · omega
            · exact g
          · exact lcp_end (by omega)
        · exact lcp_end (by omega)
      unfold VC28_k2
      refine ⟨by (first | unfold roomW | unfold roomN); simp; omega, by simp only [InR]; omega, hX _ ⟨i + 1, .inr (by omega), ?_⟩ (by simp only; omega)⟩
      have : f i = (n : Int) := by
        show (lcp (w.drop (l.getD i 0).toNat) (w.drop (l.getD (i + 1) 0).toNat) : Int) = n
        rw [ha, hb, h3, e0]; omega
      simp [List.range_succ, this]
  · unfold VC28_k1
    have : i = l.length - 1 := by omega
    subst this
    exact h
theorem VC27_of (w : List Int) (K : Int → Prop) (hbad : 60 < w.length → K 1) (h : w.length ≤ 60 → K 0) : VC27 [w] K := by
  unfold VC27
  refine loop_count 1 (fun i => i = 0 ∨ w.length ≤ 60) (.inl rfl) ?_
  intro i hi hP X hX
  unfold VC27_l1
  simp only [decide_eq_true_eq, decide_eq_false_iff_not, inIdx, InR, List.length_cons, List.length_nil]
  refine ⟨fun hlt => ?_, fun hge => ?_⟩
  · have : i = 0 := by omega
    subst this
    simp only [Int.toNat_natCast, List.getD_cons_zero]
    exact ⟨by omega, fun hh => hbad (by omega), fun hh => ⟨by omega, hX (by omega) (.inr (by omega))⟩⟩
  · unfold VC27_k1
    exact h (by omega)
theorem VC18_of (w : List Int) (K : Bool → Prop) (h : K (decide (60 < w.length))) : VC18 [w] K := by
  unfold VC18
  refine loop_count 1 (fun i => i = 0 ∨ w.length ≤ 60) (.inl rfl) ?_
  intro i hi hP X hX
  unfold VC18_l1
  simp only [decide_eq_true_eq, decide_eq_false_iff_not, inIdx, InR, List.length_cons, List.length_nil]
  refine ⟨fun hlt => ?_, fun hge => ?_⟩
  · have : i = 0 := by omega
    subst this
    simp only [Int.toNat_natCast, List.getD_cons_zero]
    refine ⟨by omega, fun hh => ?_, fun hh => ⟨by omega, hX (by omega) (.inr (by omega))⟩⟩
    rw [decide_eq_true (by omega : 60 < w.length)] at h; exact h
  · unfold VC18_k1
    rw [decide_eq_false (by omega : ¬ 60 < w.length)] at h; exact h
