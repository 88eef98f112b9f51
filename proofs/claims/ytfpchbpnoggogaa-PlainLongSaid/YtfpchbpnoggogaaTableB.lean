/-
  'TableMore' and 'TableJoins' in plain Lean.
-/
import Derived.Test.YtfpchbpnoggogaaTableA
set_option linter.unusedSimpArgs false
set_option linter.unusedVariables false
namespace Dec
open Go Go.Proofs Cfg

theorem VC20_of {g : Gr} {w : List Int} {K : Int × Int → Prop} (hbad : ∀ e, e ≠ 0 → ¬ (GoodG g ∧ GoodW g.1 w) → K (0, e)) (h : GoodG g → GoodW g.1 w → ∀ o, U32 o → (∀ A : Nat, bt o A = true ↔ Der g.1 g.2.2.2 w (A : Int) 0 w.length) → K (o, 0)) : VC20 g w K := by
  unfold VC20
  refine VC44_of (fun e he hn => ⟨fun _ => hbad e he hn, fun hc => absurd (by simpa using hc) he⟩) (fun hg hw => ⟨fun hc => by simp at hc, fun _ => ?_⟩)
  refine VC45_of hg hw.1 fun sv ht hs => ?_
  exact h hg hw _ (ht.word 0 w.length) fun A => hs 0 w.length A (Nat.zero_le _) (Nat.le_refl _)

theorem VC23_of {g : Gr} {w : List Int} (hg : GoodG g) (hw : GoodW g.1 w) {K : Bool × Int → Prop} (h : ∀ b : Bool, (b = true ↔ Der g.1 g.2.2.2 w g.2.2.1 0 w.length) → K (b, 0)) : VC23 g w K := by
  unfold VC23
  refine VC20_of (fun e he hn => absurd ⟨hg, hw⟩ hn) fun _ _ o uo ho => ?_
  have hst := hg.start
  refine VC47_of uo hst.1 (h _ ?_)
  rw [decide_eq_true rfl, Bool.and_true, ho, show ((g.2.2.1.toNat : Nat) : Int) = g.2.2.1 by omega]

theorem gcall_false {α : Type} {X : (α → Prop) → Prop} {d : α} {k : α → Prop} : gcall false X d k = k d := rfl

theorem VC22_of {a b : List Int} (hl : b.length ≤ 1000) {K : Bool → Prop} (h : K (decide (a = b))) : VC22 a b K := by
  unfold VC22
  by_cases hlen : a.length = b.length
  · refine ⟨fun e => by simp [hlen] at e, fun _ => ?_⟩
    refine loop_count a.length (fun i => ∀ j, j < i → a.getD j 0 = b.getD j 0) (by intro j hj; omega) ?_
    intro i hi hP X hX
    unfold VC22_l1 VC22_k1
    refine ⟨fun hb => ?_, fun hb => ?_⟩
    · simp only [decide_eq_true_eq] at hb
      simp only [Int.toNat_natCast]
      refine ⟨⟨by omega, by omega⟩, ⟨by omega, by omega⟩, fun hc => ?_, fun hc => ⟨⟨by omega, by omega⟩, hX (by omega) fun j hj => ?_⟩⟩
      · simp only [Bool.not_eq_true', decide_eq_false_iff_not] at hc
        rw [decide_eq_false (fun e => hc (by rw [e]))] at h
        exact h
      · simp only [Bool.not_eq_false', decide_eq_true_eq] at hc
        by_cases e : j < i
        · exact hP j e
        · have : j = i := by omega
          subst this; exact hc
    · simp only [decide_eq_false_iff_not] at hb
      have : a = b := ext_getD 0 hlen fun j hj => hP j (by omega)
      rw [decide_eq_true this] at h
      exact h
  · rw [decide_eq_false (fun e => hlen (by rw [e]))] at h
    exact ⟨fun _ => h, fun e => by simp at e; omega⟩

theorem word_row {K : Int} {R : Rules} {w : List Int} (hw : ∀ s ∈ w, 0 ≤ s ∧ s < K) : Row K R w w 0 w.length := by
  have := Row.word (K := K) (R := R) (w := w) w 0 (fun k x hk => by
    rw [Nat.zero_add]
    refine ⟨hk, ?_⟩
    exact (hw x (List.mem_of_getElem? hk)).2) (by omega)
  rw [Nat.zero_add] at this
  exact this

theorem tableMore (g : Gr) (r : Rl) (w : List Int) : VC5 g r w (fun b => b = true) := by
  unfold VC5
  by_cases hgw : GoodG g ∧ GoodW g.1 w
  · obtain ⟨hg, hw⟩ := hgw
    refine VC20_of (fun e he hn => absurd ⟨hg, hw⟩ hn) fun _ _ a ua ha => VC21_of fun b hb => ?_
    have hb := hb.2 ⟨hg, hw⟩
    subst hb
    refine ⟨fun e => by simp at e, fun _ => VC23_of hg hw fun is his => ?_⟩
    have hfew := hg.few
    refine ⟨by simp only [roomN, List.length_nil]; omega, by simp only [roomN, List.length_append, List.length_nil, List.length_singleton]; omega, ?_⟩
    rw [List.nil_append]
    have hst := hg.start
    have hn := hg.n
    have e1 : (decide ((0 : Int) ≤ g.2.2.1) && decide (g.2.2.1 < 32)) = true := by
      rw [decide_eq_true (by omega), decide_eq_true (by omega)]; rfl
    have e2 : is = bt a g.2.2.1.toNat := by
      rw [Bool.eq_iff_iff, his, ha, show ((g.2.2.1.toNat : Nat) : Int) = g.2.2.1 by omega]
    by_cases hh : GoodG (g.1, (g.2.1, (g.2.2.1, g.2.2.2 ++ [r])))
    · refine VC20_of (fun e he hno => absurd ⟨hh, hw⟩ hno) fun _ _ c uc hc => ?_
      simp only [gcall]
      rw [if_pos (by simp)]
      refine VC19_of ua ?_
      rw [e1, Bool.true_and, ← e2]
      refine ⟨fun e => by simp at e, fun _ => VC18_of (fun e he hno => absurd hh hno) fun _ => ⟨fun e => by simp at e, fun _ => ?_⟩⟩
      dsimp only at hc ⊢
      have hsub : bAndNot .u32 a c = 0 := (andNot_zero ua uc).2 fun i hi => (hc i).2 (((ha i).1 hi).more fun x h => List.mem_append_left _ h)
      rw [hsub]
      refine ⟨fun e => by simp at e, fun _ => VC22_of (by have := hw.1; omega) ?_⟩
      by_cases hr : r.2 = w
      · rw [decide_eq_true hr]
        simp only [Bool.not_true, Bool.not_false, if_true]
        have hleft := hh.left r (by simp)
        dsimp only at hleft
        refine VC19_of uc ?_
        rw [Bool.false_or, decide_eq_true hleft.1, decide_eq_true (show r.1 < 32 by omega), Bool.true_and, Bool.true_and, hc, show ((r.1.toNat : Nat) : Int) = r.1 by omega]
        refine ⟨r.2, by simp, ?_⟩
        rw [hr]
        exact word_row hw.2
      · rw [decide_eq_false hr]
        simp
    · refine VC20_of (fun e he _ => ?_) (fun h _ => absurd h hh)
      simp only [gcall]
      rw [if_pos (by simp)]
      refine VC19_of ua ?_
      rw [e1, Bool.true_and, ← e2]
      refine ⟨fun e => by simp at e, fun _ => VC18_of (fun e2 he2 _ => ⟨fun _ => by simp [he], fun e3 => ?_⟩) (fun h => absurd h hh)⟩
      simp at e3
      exact absurd e3 he2
  · refine VC20_of (fun e he _ => VC21_of fun b hb => ⟨fun _ => by simp [he], fun hc => ?_⟩) (fun hg hw => absurd ⟨hg, hw⟩ hgw)
    have : b = true := by simpa using hc
    exact absurd (hb.1 this) hgw

theorem tableJoins (g : Gr) (u v : List Int) : VC4 g u v (fun b => b = true) := by
  unfold VC4
  by_cases hu : GoodG g ∧ GoodW g.1 u
  · obtain ⟨hg, hwu⟩ := hu
    refine VC20_of (fun e he hn => absurd ⟨hg, hwu⟩ hn) fun _ _ a ua ha => ?_
    by_cases hwv : GoodW g.1 v
    · refine VC20_of (fun e he hn => absurd ⟨hg, hwv⟩ hn) fun _ _ b ub hb => VC21_of fun b1 hb1 => ?_
      have hb1 := hb1.2 ⟨hg, hwu⟩
      subst hb1
      simp only [gcall]
      rw [if_pos (by simp)]
      refine VC21_of fun b2 hb2 => ?_
      have hb2 := hb2.2 ⟨hg, hwv⟩
      subst hb2
      have hlu := hwu.1
      have hlv := hwv.1
      refine ⟨fun e => by simp at e, fun _ => ⟨by simp only [roomN, List.length_nil]; omega, by simp only [roomN, List.length_append, List.length_nil]; omega, ?_⟩⟩
      rw [List.nil_append]
      by_cases hlen : 12 < (u ++ v).length
      · refine VC20_of (fun e he _ => ?_) (fun _ hw => absurd hw.1 (by omega))
        refine ⟨fun e => by simp at e, fun _ => ⟨fun _ => by simp [he], fun hc => ?_⟩⟩
        simp only [decide_eq_false_iff_not] at hc
        omega
      · have hw : GoodW g.1 (u ++ v) := ⟨by omega, fun s hs => by
          rcases List.mem_append.1 hs with h | h
          · exact hwu.2 s h
          · exact hwv.2 s h⟩
        refine VC20_of (fun e he hn => absurd ⟨hg, hw⟩ hn) fun _ _ c uc hc => ?_
        refine ⟨fun e => by simp at e, fun _ => ⟨fun e => ?_, fun _ => ⟨fun e => by simp at e, fun _ => ?_⟩⟩⟩
        · simp only [decide_eq_true_eq] at e
          omega
        have hk := hg.k
        have hn := hg.n
        have hfew := hg.few
        refine loop_count g.2.2.2.length (fun _ => True) trivial ?_
        intro i hi _ X hX
        unfold VC4_l1 VC4_k1
        refine ⟨fun hlt => ?_, fun _ => rfl⟩
        simp only [decide_eq_true_eq] at hlt
        have hmem : g.2.2.2.getD i (0, []) ∈ g.2.2.2 := getD_mem (by omega)
        have hleft := hg.left _ hmem
        have hright := hg.right _ hmem
        obtain ⟨r, hr⟩ : ∃ r, g.2.2.2.getD i (0, []) = r := ⟨_, rfl⟩
        rw [hr] at hmem hleft hright
        simp only [Int.toNat_natCast, hr, List.nil_append]
        have hci : (decide ((0 : Int) ≤ r.1) && decide (r.1 < 32)) = true := by
          rw [decide_eq_true hleft.1, decide_eq_true (by omega)]; rfl
        have hcr : (r.1.toNat : Int) = r.1 := by omega
        have n0 : (0 : Int).toNat = 0 := rfl
        have n1 : (1 : Int).toNat = 1 := rfl
        -- the second test, which comes at last
        have last : VC22 r.2 (u ++ v) (fun (ret129v : Bool) => gcall (α := Bool) ret129v (VC19 c r.1) false (fun (ret134v : Bool) => (((ret129v && (!ret134v)) = true → (false : Bool) = true) ∧ ((ret129v && (!ret134v)) = false → (InR ((i : Int) + (1 : Int)) ∧ X ((i : Int) + (1 : Int))))))) := by
          refine VC22_of (by omega) ?_
          by_cases hw2 : r.2 = u ++ v
          · rw [decide_eq_true hw2]
            refine gcall_both (fun _ => VC19_of uc ?_) (fun e => by cases e)
            have : bt c r.1.toNat = true := by
              rw [hc, hcr]
              refine ⟨r.2, hmem, ?_⟩
              rw [hw2]
              exact word_row hw.2
            rw [hci, this]
            exact ⟨fun e => by simp at e, fun _ => ⟨⟨by omega, by omega⟩, hX (by omega) trivial⟩⟩
          · rw [decide_eq_false hw2]
            simp only [gcall]
            simp
            exact ⟨⟨by omega, by omega⟩, hX (by omega) trivial⟩
        by_cases h2 : r.2.length = 2
        · obtain ⟨x, y, exy⟩ : ∃ x y, r.2 = [x, y] := by
            match hr2 : r.2, h2 with
            | [x, y], _ => exact ⟨x, y, rfl⟩
          have hx := hright x (by rw [exy]; simp)
          have hy := hright y (by rw [exy]; simp)
          have gx : r.2.getD 0 0 = x := by rw [exy]; rfl
          have gy : r.2.getD 1 0 = y := by rw [exy]; rfl
          have d2 : decide ((r.2.length : Int) = 2) = true := decide_eq_true (by omega)
          simp only [n0, n1, gx, gy, d2, Bool.true_and]
          refine ⟨⟨by omega, by omega⟩, fun _ => ⟨by omega, by omega⟩, fun _ => ⟨by omega, by omega⟩, fun _ => ⟨by omega, by omega⟩, fun _ => ⟨by omega, by omega⟩, ?_⟩
          by_cases hxy : g.1 ≤ x ∧ g.1 ≤ y
          · have dxy : (decide (g.1 ≤ x) && decide (g.1 ≤ y)) = true := by rw [decide_eq_true hxy.1, decide_eq_true hxy.2]; rfl
            simp only [dxy, Bool.true_and]
            refine gcall_both (fun _ => VC19_of ua ?_) (fun e => by cases e)
            have hxi : (decide ((0 : Int) ≤ x - g.1) && decide (x - g.1 < 32)) = true := by
              rw [decide_eq_true (by omega), decide_eq_true (by omega)]; rfl
            have hyi : (decide ((0 : Int) ≤ y - g.1) && decide (y - g.1 < 32)) = true := by
              rw [decide_eq_true (by omega), decide_eq_true (by omega)]; rfl
            rw [hxi, Bool.true_and]
            refine ⟨fun _ => ⟨by omega, by omega⟩, fun _ => ⟨by omega, by omega⟩, ?_⟩
            refine gcall_both (fun ha1 => VC19_of ub ?_) (fun ha1 => ?_)
            · rw [hyi, Bool.true_and, ha1]
              simp only [Bool.true_and]
              refine gcall_both (fun hb1 => VC19_of uc ?_) (fun hb1 => ?_)
              · rw [hci, Bool.true_and, hb1]
                have : bt c r.1.toNat = true := by
                  rw [hc, hcr]
                  refine ⟨r.2, hmem, ?_⟩
                  rw [exy]
                  rw [ha, show (((x - g.1).toNat : Nat) : Int) = x - g.1 by omega] at ha1
                  rw [hb, show (((y - g.1).toNat : Nat) : Int) = y - g.1 by omega] at hb1
                  obtain ⟨p, hp1, hp2⟩ := ha1
                  obtain ⟨q, hq1, hq2⟩ := hb1
                  have h3 := hp2.left (v := v)
                  have h4 := hq2.right (u := u)
                  rw [Nat.add_zero, ← List.length_append] at h4
                  exact Row.two (by omega) (by omega) ⟨p, hp1, h3⟩ ⟨q, hq1, h4⟩
                rw [this]
                exact ⟨fun e => by simp at e, fun _ => last⟩
              · rw [hb1]
                exact ⟨fun e => by simp at e, fun _ => last⟩
            · rw [ha1]
              simp only [Bool.false_and, gcall_false]
              exact ⟨fun e => by simp at e, fun _ => last⟩
          · have dxy : (decide (g.1 ≤ x) && decide (g.1 ≤ y)) = false := by
              rw [Bool.and_eq_false_iff, decide_eq_false_iff_not, decide_eq_false_iff_not]
              omega
            simp only [dxy, Bool.false_and, gcall_false]
            exact ⟨fun e => by simp at e, fun e => by simp at e, ⟨fun e => by simp at e, fun _ => last⟩⟩
        · have d2 : decide ((r.2.length : Int) = 2) = false := decide_eq_false (by omega)
          simp only [d2, Bool.false_and, gcall_false]
          exact ⟨⟨by omega, by omega⟩, fun e => by simp at e, fun e => by simp at e, fun e => by simp at e, fun e => by simp at e, fun e => by simp at e, fun e => by simp at e, fun e => by simp at e, fun _ => last⟩
    · refine VC20_of (fun e he _ => VC21_of fun b1 hb1 => ?_) (fun _ h => absurd h hwv)
      refine gcall_both (fun _ => VC21_of fun b2 hb2 => ?_) (fun e1 => ?_)
      · have : b2 = false := by
          cases b2 with
          | false => rfl
          | true => exact absurd (hb2.1 rfl).2 hwv
        subst this
        exact ⟨fun _ => by simp [he], fun e => by simp at e⟩
      · exact ⟨fun _ => by simp [he], fun e => by simp at e⟩
  · refine VC20_of (fun e he _ => ?_) (fun h1 h2 => absurd ⟨h1, h2⟩ hu)
    refine VC20_of (fun e2 he2 _ => ?_) (fun _ _ o uo ho => ?_)
    all_goals
      refine VC21_of fun b1 hb1 => ?_
      have : b1 = false := by
        cases b1 with
        | false => rfl
        | true => exact absurd (hb1.1 rfl) hu
      subst this
      simp only [Bool.not_false, Bool.not_true, gcall_false]
      exact ⟨fun _ => by simp [he], fun e => by simp at e⟩
end Dec
