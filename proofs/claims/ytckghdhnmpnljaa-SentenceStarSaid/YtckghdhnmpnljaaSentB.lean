/-
'SentenceStar' and 'SentenceBack' in plain Lean.
-/
import Derived.Test.YtckghdhnmpnljaaSentA
set_option linter.unusedSimpArgs false
set_option linter.unusedVariables false
namespace Dec
open Go Go.Proofs Rex
theorem good_pre {k : Int} {l e : List Nd} (h1 : 1 ≤ l.length) (h : Rex.Good k (l ++ e)) : Rex.Good k l := by
  have hl := h.len
  rw [List.length_append] at hl
  refine ⟨h.sym, by omega, fun t ht => ?_⟩
  have := h.ok t (by rw [List.length_append]; omega)
  rw [nd_app ht] at this
  exact this
theorem nd_at {l e : List Nd} {i : Nat} : nd (l ++ e) (l.length + i) = nd e i := by
  simp only [nd, List.getD]
  rw [List.getElem?_append_right (by omega), Nat.add_sub_cancel_left]
theorem nd_last {l : List Nd} {n : Nd} : nd (l ++ [n]) l.length = n := by
  have := nd_at (l := l) (e := [n]) (i := 0)
  rw [Nat.add_zero] at this
  rw [this]; rfl
theorem good_snoc {k : Int} {l : List Nd} {n : Nd} (h : Rex.Good k l) (hn : OkN k l.length n) (hl : l.length + 1 ≤ 9) : Rex.Good k (l ++ [n]) := by
  refine ⟨h.sym, by rw [List.length_append, List.length_singleton]; omega, fun t ht => ?_⟩
  rw [List.length_append, List.length_singleton] at ht
  by_cases e : t < l.length
  · rw [nd_app e]; exact h.ok t e
  · have : t = l.length := by omega
    subst this
    rw [nd_last]; exact hn
theorem sentenceStar (k : Int) (l : List Nd) (w : List Int) (hb : l.length * 24 ≤ 140737488351232) : VC6 k l w (fun b => b = true) := by
  unfold VC6
  simp only [List.nil_append]
  generalize hS : (l ++ [((6 : Int), (((l.length : Int) - (1 : Int)), (0 : Int)))]) = S
  have hSl : S.length = l.length + 1 := by rw [← hS]; simp
  generalize hA : (S ++ [((4 : Int), (((l.length : Int) - (1 : Int)), (l.length : Int))), ((2 : Int), ((0 : Int), (0 : Int))), ((5 : Int), (((l.length : Int) + (1 : Int)), ((l.length : Int) + (2 : Int))))]) = A
  have hAl : A.length = l.length + 4 := by rw [← hA, List.length_append, hSl]; rfl
  generalize hT : (S ++ [((6 : Int), ((l.length : Int), (0 : Int)))]) = T
  have hTl : T.length = l.length + 2 := by rw [← hT, List.length_append, hSl]; rfl
  -- a good longer one has a good beginning
  have sl : Rex.Good k S → Rex.Good k l := by
    intro h
    have hl1 : 1 ≤ l.length := by
      have := h.ok l.length (by omega)
      rw [← hS, nd_last] at this
      unfold OkN at this
      dsimp only at this
      omega
    rw [← hS] at h
    exact good_pre hl1 h
  have sA : Rex.Good k A → Rex.Good k S := by
    intro h; rw [← hA] at h; exact good_pre (by omega) h
  have sT : Rex.Good k T → Rex.Good k S := by
    intro h; rw [← hT] at h; exact good_pre (by omega) h
  refine ⟨by simp only [roomW, List.length_nil]; omega, ⟨by omega, by omega⟩, by simp only [roomW, List.length_cons, List.length_nil]; omega, by simp only [roomW, List.length_nil]; omega, ⟨by omega, by omega⟩, ⟨by omega, by omega⟩, ⟨by omega, by omega⟩, by simp only [roomW, List.length_cons, List.length_nil]; omega, by simp only [roomW, List.length_nil]; omega, by simp only [roomW, List.length_cons, List.length_nil]; omega, ?_⟩
  by_cases hg : Rex.Good k l ∧ GoodW k w
  · obtain ⟨g, gw⟩ := hg
    have gl := g.len
    by_cases h5 : l.length ≤ 5
    · have hok6 : OkN k l.length ((6 : Int), (((l.length : Int) - (1 : Int)), (0 : Int))) := by
        unfold OkN; dsimp only; omega
      have gS : Rex.Good k S := by rw [← hS]; exact good_snoc g hok6 (by omega)
      have gT : Rex.Good k T := by
        rw [← hT]
        refine good_snoc gS ?_ (by omega)
        unfold OkN; dsimp only; omega
      have hA' : A = ((S ++ [((4 : Int), (((l.length : Int) - (1 : Int)), (l.length : Int)))]) ++ [((2 : Int), ((0 : Int), (0 : Int)))]) ++ [((5 : Int), (((l.length : Int) + (1 : Int)), ((l.length : Int) + (2 : Int))))] := by rw [← hA]; simp
      have gA : Rex.Good k A := by
        rw [hA']
        refine good_snoc (good_snoc (good_snoc gS ?_ (by omega)) ?_ ?_) ?_ ?_
        · unfold OkN; dsimp only; omega
        · unfold OkN; dsimp only; omega
        · simp only [List.length_append, List.length_singleton]; omega
        · unfold OkN; dsimp only; simp only [List.length_append, List.length_singleton]; refine Or.inr (Or.inr (Or.inr (Or.inl ⟨Or.inr trivial, ?_⟩))); omega
        · simp only [List.length_append, List.length_singleton]; omega
      refine VC23_of (fun e he hno => absurd ⟨gS, gw⟩ hno) fun _ _ a ha => VC23_of (fun e he hno => absurd ⟨gA, gw⟩ hno) fun _ _ b hb2 => VC23_of (fun e he hno => absurd ⟨gT, gw⟩ hno) fun _ _ c hc => ?_
      refine VC24_of fun d hd => ?_
      have hd := hd.2 ⟨g, gw⟩
      subst hd
      refine ⟨fun e => by simp at e, fun _ => ⟨⟨by omega, by omega⟩, fun e => ?_, fun _ => ?_⟩⟩
      · simp only [decide_eq_true_eq] at e; omega
      refine VC23_of (fun e he hno => absurd ⟨g, gw⟩ hno) fun _ _ o ho => ?_
      -- what each matches
      have n1 : nd S l.length = ((6 : Int), (((l.length : Int) - (1 : Int)), (0 : Int))) := by rw [← hS]; exact nd_last
      have n2 : nd A (l.length + 1) = ((4 : Int), (((l.length : Int) - (1 : Int)), (l.length : Int))) := by
        have := nd_at (l := S) (e := [((4 : Int), (((l.length : Int) - (1 : Int)), (l.length : Int))), ((2 : Int), ((0 : Int), (0 : Int))), ((5 : Int), (((l.length : Int) + (1 : Int)), ((l.length : Int) + (2 : Int))))]) (i := 0)
        rw [hA, hSl] at this
        exact this
      have n3 : nd A (l.length + 2) = ((2 : Int), ((0 : Int), (0 : Int))) := by
        have := nd_at (l := S) (e := [((4 : Int), (((l.length : Int) - (1 : Int)), (l.length : Int))), ((2 : Int), ((0 : Int), (0 : Int))), ((5 : Int), (((l.length : Int) + (1 : Int)), ((l.length : Int) + (2 : Int))))]) (i := 1)
        rw [hA, hSl] at this
        exact this
      have n4 : nd A (l.length + 3) = ((5 : Int), (((l.length : Int) + (1 : Int)), ((l.length : Int) + (2 : Int)))) := by
        have := nd_at (l := S) (e := [((4 : Int), (((l.length : Int) - (1 : Int)), (l.length : Int))), ((2 : Int), ((0 : Int), (0 : Int))), ((5 : Int), (((l.length : Int) + (1 : Int)), ((l.length : Int) + (2 : Int))))]) (i := 2)
        rw [hA, hSl] at this
        exact this
      have n5 : nd T (l.length + 1) = ((6 : Int), ((l.length : Int), (0 : Int))) := by
        have := nd_last (l := S) (n := ((6 : Int), ((l.length : Int), (0 : Int))))
        rw [hT, hSl] at this
        exact this
      have eS : ∀ i j, Mat S w (l.length - 1) i j ↔ Mat l w (l.length - 1) i j := fun i j => by rw [← hS]; exact mat_app g.ok (by omega)
      have eA : ∀ t i j, t < S.length → (Mat A w t i j ↔ Mat S w t i j) := fun t i j ht => by rw [← hA]; exact mat_app gS.ok ht
      have eT : ∀ i j, Mat T w l.length i j ↔ Mat S w l.length i j := fun i j => by rw [← hT]; exact mat_app gS.ok (by omega)
      have k1 : (nd S l.length).1 = 6 := by rw [n1]
      have a1 : (nd S l.length).2.1.toNat = l.length - 1 := by rw [n1]; dsimp only; omega
      rw [hSl, Nat.add_sub_cancel] at ha
      rw [show A.length - 1 = l.length + 3 by omega] at hb2
      rw [show T.length - 1 = l.length + 1 by omega] at hc
      have star0 : ∀ j, j ≤ w.length → Mat S w l.length j j := fun j hj => .star0 _ j k1 hj
      have e0 : ∀ i j, Mat A w (l.length + 2) i j ↔ i = j ∧ j ≤ w.length := fun i j => by rw [mat_iff (t := l.length + 2), n3]; simp
      have e1 : ∀ i j, Mat A w (l.length + 1) i j ↔ ∃ m, Mat l w (l.length - 1) i m ∧ Mat S w l.length m j := fun i j => by
        rw [mat_iff (t := l.length + 1), n2]
        dsimp only
        rw [show (((l.length : Int) - (1 : Int))).toNat = l.length - 1 by omega, Int.toNat_natCast]
        have : ∀ m, (Mat A w (l.length - 1) i m ↔ Mat l w (l.length - 1) i m) ∧ (Mat A w l.length m j ↔ Mat S w l.length m j) := fun m => ⟨by rw [eA _ _ _ (by omega), eS], eA _ _ _ (by omega)⟩
        constructor
        · rintro (h | h | ⟨_, m, h1, h2⟩ | h | h)
          · exact absurd h.1 (by decide)
          · exact absurd h.1 (by decide)
          · exact ⟨m, (this m).1.1 h1, (this m).2.1 h2⟩
          · exact absurd h.1 (by decide)
          · exact absurd h.1 (by decide)
        · rintro ⟨m, h1, h2⟩
          exact Or.inr (Or.inr (Or.inl ⟨rfl, m, (this m).1.2 h1, (this m).2.2 h2⟩))
      have e2 : ∀ i j, Mat A w (l.length + 3) i j ↔ (Mat A w (l.length + 1) i j ∨ Mat A w (l.length + 2) i j) := fun i j => by
        rw [mat_iff (t := l.length + 3), n4]
        dsimp only
        rw [show (((l.length : Int) + (1 : Int))).toNat = l.length + 1 by omega, show (((l.length : Int) + (2 : Int))).toNat = l.length + 2 by omega]
        constructor
        · rintro (h | h | h | h | h)
          · exact absurd h.1 (by decide)
          · exact absurd h.1 (by decide)
          · exact absurd h.1 (by decide)
          · exact h.2
          · exact absurd h.1 (by decide)
        · intro h
          exact Or.inr (Or.inr (Or.inr (Or.inl ⟨rfl, h⟩)))
      have ab : a = b := by
        rw [Bool.eq_iff_iff, ha, hb2, e2, e1, e0]
        constructor
        · intro h
          rcases star_unfold k1 h with h1 | ⟨m, h1, h2⟩
          · exact Or.inr h1
          · rw [a1, eS] at h1
            exact Or.inl ⟨m, h1, h2⟩
        · rintro (⟨m, h1, h2⟩ | ⟨h1, h2⟩)
          · exact star_left k1 (by rw [a1, eS]; exact h1) h2
          · rw [← h1]; exact star0 0 (Nat.zero_le _)
      have k5 : (nd T (l.length + 1)).1 = 6 := by rw [n5]
      have a5 : (nd T (l.length + 1)).2.1.toNat = l.length := by rw [n5]; dsimp only; omega
      have steps : ∀ n i j, i ≤ w.length → Rex.St (fun m n => Mat T w l.length m n) n i j → Mat S w l.length i j := by
        intro n
        induction n with
        | zero => intro i j hi h; have : i = j := h; subst this; exact star0 i hi
        | succ n ih =>
          intro i j hi h
          rcases h with h | ⟨m, h1, h2⟩
          · exact ih i j hi h
          · exact star_trans k1 (ih i m hi h1) ((eT m j).1 h2)
      have ac : a = c := by
        rw [Bool.eq_iff_iff, ha, hc]
        constructor
        · intro h
          refine .star1 _ 0 0 w.length k5 (.star0 _ 0 k5 (Nat.zero_le _)) ?_
          rw [a5, eT]; exact h
        · intro h
          have := star_steps k5 h
          rw [a5] at this
          exact steps _ 0 w.length (Nat.zero_le _) this
      have oa : o = true → a = true := by
        rw [ho, ha]
        intro h
        refine .star1 _ 0 0 w.length k1 (star0 0 (Nat.zero_le _)) ?_
        rw [a1, eS]; exact h
      have na : w.length = 0 → a = true := by
        intro h
        rw [ha, h]
        exact star0 0 (Nat.zero_le _)
      subst ab ac
      by_cases hw0 : w.length = 0
      · have := na hw0
        subst this
        simp
      · have : decide ((0 : Int) < (w.length : Int)) = true := decide_eq_true (by omega)
        rw [this]
        cases o with
        | false => simp
        | true => have := oa rfl; subst this; simp
    · refine VC23_of (fun e1 he1 _ => ?_) (fun _ _ a ha => ?_)
      all_goals
        refine VC23_of (fun e he _ => ?_) (fun h _ => absurd h.len.2 (by omega))
        refine VC23_of (fun e3 he3 _ => ?_) (fun _ _ c hc => ?_)
        all_goals
          refine VC24_of fun d hd => ?_
          have hd := hd.2 ⟨g, gw⟩
          subst hd
          exact ⟨fun e => by simp at e, fun _ => ⟨⟨by omega, by omega⟩, fun _ => by simp [he], fun hc => by simp only [decide_eq_false_iff_not] at hc; omega⟩⟩
  · refine VC23_of (fun e1 he1 _ => ?_) (fun h hw => absurd ⟨sl h, hw⟩ hg)
    refine VC23_of (fun e2 he2 _ => ?_) (fun h hw => absurd ⟨sl (sA h), hw⟩ hg)
    refine VC23_of (fun e3 he3 _ => ?_) (fun h hw => absurd ⟨sl (sT h), hw⟩ hg)
    refine VC24_of fun d hd => ?_
    have : d = false := by
      cases d with
      | false => rfl
      | true => exact absurd (hd.1 rfl) hg
    subst this
    exact ⟨fun _ => by simp [he1, he2, he3], fun e => by simp at e⟩
/-! ### the reversal -/
end Dec
