/-
  ahead.Parse, and the plain law AheadOne.
-/
import Derived.Test.YtfpchbpnoggogaaLook
set_option linter.unusedSimpArgs false
set_option linter.unusedVariables false
namespace Dec
open Go Go.Proofs Cfg
section
variable {g : Gr} {w : List Int}

def symAt (g : Gr) (w : List Int) (a : Nat) : Int := if a < w.length then w.getD a 0 else g.1

noncomputable def topM (g : Gr) (w : List Int) (a : Nat) (rs : List Int) : Nat :=
  match rs with
  | [] => 0
  | t :: _ => if t < g.1 then 0 else rk g.1 g.2.2.2 (t - g.1) (symAt g w a) + 1

theorem topM_le (a : Nat) (rs : List Int) : topM g w a rs ≤ 7 := by
  cases rs with
  | nil => simp [topM]
  | cons t r =>
    simp only [topM]
    split
    · omega
    · have := rk_le (K := g.1) (R := g.2.2.2) (t - g.1) (symAt g w a)
      omega

noncomputable def pm (g : Gr) (w : List Int) (a : Nat) (rs : List Int) : Nat := 10 * (w.length - a) + topM g w a rs

/-- where Parse stands -/
structure PInv (g : Gr) (w : List Int) (a : Nat) (st out : List Int) : Prop where
  le : a ≤ w.length
  signs : ∀ s ∈ st, 0 ≤ s ∧ s < g.1 + g.2.1
  same : Row g.1 g.2.2.2 w st.reverse a w.length ↔ Row g.1 g.2.2.2 w [g.1 + g.2.2.1] 0 w.length
  size : st.length + 4 * pm g w a st.reverse ≤ 1000
  outs : out.length + pm g w a st.reverse ≤ 1000

theorem gcall_off {α : Type} {b : Bool} {X : (α → Prop) → Prop} {d : α} {k : α → Prop} (hb : b = false) (h : k d) : gcall b X d k := by
  rw [hb]; exact h

theorem gcall_on {α : Type} {b : Bool} {X : (α → Prop) → Prop} {d : α} {k : α → Prop} (hb : b = true) (h : X k) : gcall b X d k := by
  rw [hb]; exact h

set_option maxHeartbeats 1000000 in
theorem parse_loop (hg : GoodG g) (hw : GoodW g.1 w) (hp : Prop1 g.1 g.2.2.2) (hc : ClG g) {sv : Int} (hs : NullOk g sv) {first follow : LI} (h1 : RowsOk g.2.1.toNat first) (h2 : RowsOk g.2.1.toNat follow) (hf : Prop1 g.1 g.2.2.2 → FirstOk g first) {K : LI × Int → Prop}
    (hok : Row g.1 g.2.2.2 w [g.1 + g.2.2.1] 0 w.length → ∀ out, K (out, 0)) (hno : ¬ Row g.1 g.2.2.2 w [g.1 + g.2.2.1] 0 w.length → K ([], 5)) :
    Loop (σ := Int × LI × LI) (fun s X => VC29_l1 g w K (g.1, g.2.1, g.2.2.1, g.2.2.2, sv, first, follow) s.1 s.2.1 s.2.2 X) ((0 : Int), [(g.1 + g.2.2.1)], ([] : List Int)) := by
  have hK := hg.k
  have hN := hg.n
  have hst := hg.start
  have hfew := hg.few
  have hw12 := hw.1
  have hR5 : ∀ r ∈ g.2.2.2, 0 ≤ r.1 ∧ r.1 < 5 := fun r hr => by have := hg.left r hr; omega
  refine Loop.by (fun t => ∃ a : Nat, t.1 = (a : Int) ∧ PInv g w a t.2.1 t.2.2) (fun t => pm g w t.1.toNat t.2.1.reverse) ⟨0, rfl, by omega, ?_, Iff.rfl, ?_, ?_⟩ ?_
  · intro s hs
    rw [List.mem_singleton] at hs
    subst hs; omega
  · have := topM_le (g := g) (w := w) 0 [g.1 + g.2.2.1]
    dsimp only
    simp only [List.reverse_cons, List.reverse_nil, List.nil_append, pm, List.length_cons, List.length_nil]
    omega
  · have := topM_le (g := g) (w := w) 0 [g.1 + g.2.2.1]
    dsimp only
    simp only [List.reverse_cons, List.reverse_nil, List.nil_append, pm, List.length_nil]
    omega
  rintro ⟨a', st, out⟩ ⟨a, e, hi⟩ X hX
  dsimp only at e hi hX
  subst e
  rw [Int.toNat_natCast] at hX
  dsimp only
  have hle := hi.le
  unfold VC29_l1
  simp only [Int.toNat_natCast]
  refine ⟨fun hb => ?_, fun hb => ?_⟩
  · simp only [decide_eq_true_eq] at hb
    obtain ⟨init, t, rfl⟩ : ∃ init t, st = init ++ [t] := by
      rcases List.eq_nil_or_concat st with e | ⟨i, t, e⟩
      · subst e; simp at hb
      · exact ⟨i, t, by rw [e, List.concat_eq_append]⟩
    have hlen : (init ++ [t]).length = init.length + 1 := by simp
    have hlenI : (((init ++ [t]).length : Int) - 1) = (init.length : Int) := by rw [hlen]; omega
    have hget : (init ++ [t]).getD init.length 0 = t := by simp [List.getD_eq_getElem?_getD]
    have htake : (init ++ [t]).take init.length = init := by simp
    have hrev : (init ++ [t]).reverse = t :: init.reverse := by simp
    have hsize := hi.size
    have houts := hi.outs
    have hsame := hi.same
    have htr := hi.signs t (by simp)
    have hsin : ∀ s ∈ init, 0 ≤ s ∧ s < g.1 + g.2.1 := fun s hs => hi.signs s (by simp [hs])
    rw [hrev] at hsize houts hsame
    rw [hrev] at hX
    rw [hlen] at hsize
    have hk4 : VC29_k4 g K (g.1, g.2.1, g.2.2.1, g.2.2.2, sv, first, follow) (a : Int) (init ++ [t]) out X (symAt g w a) := by
      unfold VC29_k4
      rw [hlenI]
      simp only [Int.toNat_natCast, hget, htake]
      refine ⟨fun hsym => ⟨fun hne => ?_, fun he => ?_⟩, fun hname => ?_⟩
      · simp only [decide_eq_true_eq] at hsym
        have hne' : t ≠ symAt g w a := by
          intro e
          rw [show decide (t = symAt g w a) = true from decide_eq_true e] at hne
          cases hne
        refine hno fun hr => hne' ?_
        obtain ⟨m, h3, h4⟩ := row_cons.1 (hsame.2 hr)
        obtain ⟨h5, h6⟩ := (row_sym hsym).1 h3
        have hal : a < w.length := by
          refine Nat.lt_of_not_le fun hle => ?_
          rw [List.getElem?_eq_none hle] at h6
          cases h6
        unfold symAt
        rw [if_pos hal]
        rw [getD_opt (d := 0) hal] at h6
        exact (Option.some.inj h6).symm
      · simp only [decide_eq_true_eq] at hsym
        have he' : t = symAt g w a := by
          by_cases e : t = symAt g w a
          · exact e
          · rw [show decide (t = symAt g w a) = false from decide_eq_false e] at he
            cases he
        have hal : a < w.length := by
          refine Nat.lt_of_not_le fun hle => ?_
          unfold symAt at he'
          rw [if_neg (by omega)] at he'
          omega
        have hm : pm g w (a + 1) init.reverse < pm g w a (t :: init.reverse) := by
          have h3 := topM_le (g := g) (w := w) (a + 1) init.reverse
          unfold pm
          omega
        unfold VC29_k3
        refine ⟨by unfold InR; omega, hX _ ⟨a + 1, by simp, by omega, hsin, ?_, by dsimp only; omega, by dsimp only; omega⟩ ?_⟩
        · dsimp only
          rw [← hsame, row_cons (s := t)]
          constructor
          · intro h; exact ⟨a + 1, (row_sym hsym).2 ⟨rfl, by
              rw [getD_opt (d := 0) hal, he']; unfold symAt; rw [if_pos hal]⟩, h⟩
          · rintro ⟨m, h3, h4⟩
            have := ((row_sym hsym).1 h3).1
            rw [← this]; exact h4
        · dsimp only
          rw [show ((a : Int) + 1).toNat = a + 1 by omega]
          exact hm
      · simp only [decide_eq_false_iff_not] at hname
        have hsA : 0 ≤ symAt g w a := by
          unfold symAt
          split
          · rename_i h3
            exact (hw.2 _ (getD_mem h3)).1
          · omega
        -- a rule is chosen
        have hk5 : ∀ v : Nat, v < g.2.2.2.length → (g.2.2.2.getD v (0, [])).1 = t - g.1 → Look g.1 g.2.2.2 (g.2.2.2.getD v (0, [])) (symAt g w a) → VC29_k5 g K (a : Int) (init ++ [t]) out X (v : Int) := by
          intro v hv hvn hvl
          have hmem : g.2.2.2.getD v (0, []) ∈ g.2.2.2 := getD_mem hv
          have hright := hg.right _ hmem
          have hshort := hg.short _ hmem
          have htop : topM g w a (t :: init.reverse) = rk g.1 g.2.2.2 (t - g.1) (symAt g w a) + 1 := by
            simp only [topM]; rw [if_neg hname]
          unfold VC29_k5
          rw [hlenI]
          simp only [Int.toNat_natCast, htake]
          refine ⟨fun h => ?_, fun _ => ⟨?_, ⟨by omega, by omega⟩, by unfold InR; omega, ?_⟩⟩
          · simp only [decide_eq_true_eq] at h
            omega
          · unfold roomN
            simp only [List.length_cons, List.length_nil]
            omega
          obtain ⟨row, hrow⟩ : ∃ row, (g.2.2.2.getD v (0, [])).2 = row := ⟨_, rfl⟩
          have hlr : row.length ≤ 4 := by rw [← hrow]; exact hshort
          have hmlt : pm g w a (row ++ init.reverse) < pm g w a (t :: init.reverse) := by
            unfold pm
            rw [htop]
            obtain ⟨x, l, hx, hh1, hh2⟩ := id hvl
            rw [← hrow, hx]
            simp only [List.cons_append, topM]
            by_cases hxk : x < g.1
            · rw [if_pos hxk]; omega
            · rw [if_neg hxk]
              have := rk_lt hR5 hc hv hx hxk (hh2 hxk)
              rw [hvn] at this
              omega
          refine Loop.by (fun q : Int × LI => ∃ n : Nat, q.1 = (n : Int) - 1 ∧ n ≤ row.length ∧ q.2 = init ++ (row.drop n).reverse) (fun q => (q.1 + 1).toNat) ⟨row.length, by rw [hrow], Nat.le_refl _, by simp⟩ ?_
          rintro ⟨i', l2⟩ ⟨n, e, hn, hl2⟩ Z hZ
          dsimp only at e hl2 hZ
          subst e
          dsimp only
          unfold VC29_l2
          simp only [Int.toNat_natCast]
          simp only [hrow]
          refine ⟨fun hb => ?_, fun hb => ?_⟩
          · simp only [decide_eq_true_eq] at hb
            obtain ⟨m, rfl⟩ : ∃ m, n = m + 1 := ⟨n - 1, by omega⟩
            have em : ((m + 1 : Nat) : Int) - 1 = (m : Int) := by omega
            rw [em] at hZ ⊢
            simp only [Int.toNat_natCast]
            unfold VC29_y1
            refine ⟨⟨by omega, by omega⟩, ?_, by unfold InR; omega, hZ _ ⟨m, rfl, by omega, ?_⟩ (by dsimp only; omega)⟩
            · rw [hl2]
              unfold roomN
              simp only [List.length_append, List.length_reverse, List.length_drop, List.length_cons, List.length_nil]
              rw [hrow] at hshort
              omega
            · dsimp only
              rw [hl2]
              have : row.drop m = row.getD m 0 :: row.drop (m + 1) := by
                rw [List.drop_eq_getElem_cons (show m < row.length by omega), getD_lt _ (show m < row.length by omega)]
              rw [this, List.reverse_cons, List.append_assoc]
          · simp only [decide_eq_false_iff_not] at hb
            have hn0 : n = 0 := by omega
            subst hn0
            rw [List.drop_zero] at hl2
            subst hl2
            unfold VC29_k6 VC29_k3
            have hrev2 : (init ++ row.reverse).reverse = row ++ init.reverse := by simp
            refine hX _ ⟨a, rfl, hle, ?_, ?_, ?_, ?_⟩ ?_
            · dsimp only
              intro s hs
              rw [List.mem_append, List.mem_reverse] at hs
              rcases hs with hs | hs
              · exact hsin s hs
              · exact hright s (by rw [hrow]; exact hs)
            · dsimp only
              rw [hrev2, ← hsame, row_append, row_cons (s := t)]
              constructor
              · rintro ⟨m, h3, h4⟩
                exact ⟨m, (row_name hname).2 ⟨v, hv, hvn, by rw [hrow]; exact h3⟩, h4⟩
              · rintro ⟨m, h3, h4⟩
                obtain ⟨b, hbl, hbn, hbr⟩ := (row_name hname).1 h3
                obtain ⟨s, h5, h6⟩ := hbr.look hp (mem_getD hbl)
                have hal : a < w.length := by
                  refine Nat.lt_of_not_le fun hle => ?_
                  rw [List.getElem?_eq_none hle] at h5
                  cases h5
                have hsy : symAt g w a = s := by
                  unfold symAt
                  rw [if_pos hal]
                  rw [getD_opt (d := 0) hal] at h5
                  exact Option.some.inj h5
                rw [hsy] at hvl
                have := hc.one hv hbl (by rw [hvn, hbn]) hvl h6
                subst this
                rw [hrow] at hbr
                exact ⟨m, hbr, h4⟩
            · dsimp only
              rw [hrev2, List.length_append, List.length_reverse]
              omega
            · dsimp only
              rw [hrev2, List.length_append]
              simp only [List.length_cons, List.length_nil]
              omega
            · dsimp only
              rw [hrev2, Int.toNat_natCast]
              exact hmlt
        refine Loop.by (fun q : Int => ∃ v : Nat, q = (v : Int) ∧ v ≤ g.2.2.2.length ∧ ∀ j, j < v → (g.2.2.2.getD j (0, [])).1 = t - g.1 → ¬ Look g.1 g.2.2.2 (g.2.2.2.getD j (0, [])) (symAt g w a)) (fun q => ((g.2.2.2.length : Int) - q).toNat) ⟨0, rfl, by omega, by intro j hj; omega⟩ ?_
        rintro v' ⟨v, e, hv, hnone⟩ Z hZ
        subst e
        unfold VC29_l3
        rw [hlenI]
        simp only [Int.toNat_natCast, hget]
        refine ⟨fun hb => ?_, fun hb => ?_⟩
        · simp only [decide_eq_true_eq] at hb
          have hvl : v < g.2.2.2.length := by omega
          have hmem : g.2.2.2.getD v (0, []) ∈ g.2.2.2 := getD_mem hvl
          have hleft := hg.left _ hmem
          have hnext : ((g.2.2.2.getD v (0, [])).1 = t - g.1 → ¬ Look g.1 g.2.2.2 (g.2.2.2.getD v (0, [])) (symAt g w a)) → InR ((v : Int) + 1) ∧ Z ((v : Int) + 1) := by
            intro h3
            refine ⟨by unfold InR; omega, hZ _ ⟨v + 1, by simp, by omega, fun j hj => ?_⟩ (by omega)⟩
            by_cases e : j = v
            · subst e; exact h3
            · exact hnone j (by omega)
          refine ⟨⟨by omega, by omega⟩, by unfold InR; omega, fun hm => ?_, fun hm => ?_⟩
          · have hm' := hm
            simp only [decide_eq_true_eq] at hm'
            refine look_loop hg hvl hs h1 hf (k3 := VC29_k9 g K (g.1, g.2.1, g.2.2.1, g.2.2.2, sv, first, follow) (a : Int) (init ++ [t]) out X (symAt g w a) (v : Int) Z) ?_
            intro v4 v5 hu hp4
            obtain ⟨e5, hb4⟩ := hp4 hp
            subst e5
            unfold VC29_k9
            refine ⟨fun h => (by cases h), fun _ => ?_⟩
            unfold VC29_k10
            rw [hlenI]
            simp only [Int.toNat_natCast, hget]
            refine gcall_on hm (VC47_of hu hsA ?_)
            rw [hm, Bool.true_and]
            unfold VC29_k8
            refine ⟨fun hbt => hk5 v hvl hm' ?_, fun hbt => hnext fun _ hl => ?_⟩
            · have := (hb4 _).1 hbt
              rw [Int.toNat_of_nonneg hsA] at this
              exact this
            · rw [(hb4 _).2 (by rw [Int.toNat_of_nonneg hsA]; exact hl)] at hbt
              cases hbt
          · refine gcall_off hm ?_
            rw [hm, Bool.false_and]
            simp only [decide_eq_false_iff_not] at hm
            unfold VC29_k8
            exact ⟨fun h => (by cases h), fun _ => hnext fun h => absurd h hm⟩
        · simp only [decide_eq_false_iff_not] at hb
          unfold VC29_k7 VC29_k5
          refine ⟨fun _ => hno fun hr => ?_, fun h => ?_⟩
          · obtain ⟨m, h3, h4⟩ := row_cons.1 (hsame.2 hr)
            obtain ⟨b, hbl, hbn, hbr⟩ := (row_name hname).1 h3
            obtain ⟨s, h5, h6⟩ := hbr.look hp (mem_getD hbl)
            have hal : a < w.length := by
              refine Nat.lt_of_not_le fun hle => ?_
              rw [List.getElem?_eq_none hle] at h5
              cases h5
            have hsy : symAt g w a = s := by
              unfold symAt
              rw [if_pos hal]
              rw [getD_opt (d := 0) hal] at h5
              exact Option.some.inj h5
            exact hnone b (by omega) hbn (by rw [hsy]; exact h6)
          · simp at h
    rw [hlenI]
    refine ⟨by unfold InR; omega, ⟨by omega, by rw [hlen]; omega⟩, by unfold InR; omega, ⟨by omega, by omega⟩, fun hb => ⟨?_, ?_⟩, fun hb => ?_⟩
    · simp only [decide_eq_true_eq] at hb
      exact ⟨by omega, by omega⟩
    · simp only [decide_eq_true_eq] at hb
      have : symAt g w a = w.getD a 0 := by unfold symAt; rw [if_pos (by omega)]
      rw [this] at hk4
      exact hk4
    · simp only [decide_eq_false_iff_not] at hb
      have : symAt g w a = g.1 := by unfold symAt; rw [if_neg (by omega)]
      rw [this] at hk4
      exact hk4
  · simp only [decide_eq_false_iff_not] at hb
    have hst0 : st = [] := by
      cases st with
      | nil => rfl
      | cons x l => simp only [List.length_cons] at hb; omega
    subst hst0
    have hsame := hi.same
    rw [List.reverse_nil] at hsame
    unfold VC29_k2
    refine ⟨fun hb2 => hno fun hr => ?_, fun hb2 => hok ?_ out⟩
    · simp only [decide_eq_true_eq] at hb2
      have := hsame.2 hr
      cases this
      omega
    · simp only [decide_eq_false_iff_not] at hb2
      have : a = w.length := by omega
      subst this
      exact hsame.1 (.nil _ (Nat.le_refl _))

theorem VC29_of (hg : GoodG g) (hw : GoodW g.1 w) (hp : Prop1 g.1 g.2.2.2) {K : LI × Int → Prop} (hun : ¬ ClG g → K ([], 3))
    (hok : ClG g → Row g.1 g.2.2.2 w [g.1 + g.2.2.1] 0 w.length → ∀ out, K (out, 0)) (hno : ClG g → ¬ Row g.1 g.2.2.2 w [g.1 + g.2.2.1] 0 w.length → K ([], 5)) : VC29 g w K := by
  have hN := hg.n
  have hK := hg.k
  have hst := hg.start
  unfold VC29
  refine VC44_of (fun e he hng => absurd ⟨hg, hw⟩ hng) (fun _ _ => ⟨fun h0 => ?_, fun _ => ?_⟩)
  · simp at h0
  refine VCo52_of hg fun sv l16 l19 hs h1 h2 hf => ⟨⟨by dsimp only; omega, by dsimp only; omega⟩, ?_⟩
  refine seen_loop hg hs h1 h2 hf (Kt := VC29_k12 g w K (g.1, g.2.1, g.2.2.1, g.2.2.2, sv, l16, l19)) (Kf := VC29_k1 g w K (g.1, g.2.1, g.2.2.1, g.2.2.2, sv, l16, l19) false) (fun hc => ?_) (fun hc => ?_)
  · unfold VC29_k12 VC29_k1
    refine ⟨fun h => (by cases h), fun _ => ⟨by unfold InR; omega, ?_⟩⟩
    exact parse_loop hg hw hp (hc hp) hs h1 h2 hf (hok (hc hp)) (hno (hc hp))
  · unfold VC29_k1
    exact ⟨fun _ => hun (hc hp), fun h => (by cases h)⟩
end
end Dec
namespace Dec
open Go Go.Proofs Cfg

theorem aheadOne (g : Gr) (w : List Int) : VC7 g w (fun b => b = true) := by
  unfold VC7
  have grown : ∀ {b : Bool} {P : Prop}, (b = true ↔ P) → P → (!b) = true → False := by
    intro b P h hP hb
    rw [h.2 hP] at hb
    cases hb
  -- what follows when the word or the grammar is bad
  have bad : ∀ (c : Bool × Int) (e : Int), e ≠ 0 → ¬ (GoodG g ∧ GoodW g.1 w) → ∀ P : Bool → Prop, VC21 g w (fun (ret24v : Bool) => (((!ret24v) = true → (!decide (e = (0 : Int))) = true) ∧ ((!ret24v) = false → P ret24v))) := by
    intro c e he hng P
    refine VC21_of fun b hb => ⟨fun _ => by simp [he], fun h => ?_⟩
    exfalso
    cases b with
    | true => exact hng (hb.1 rfl)
    | false => cases h
  refine VC26_of (fun e26 he26 hng => ?_) (fun hg c hc => ?_)
  · refine VC27_of (fun e he hng' => ?_) (fun hg _ _ => absurd hg hng) (fun hg _ _ => absurd hg hng)
    exact bad (false, e26) e he hng' _
  · refine VC27_of (fun e he hng' => ?_) (fun _ hw hnp => ?_) (fun _ hw hp v hv => ⟨fun hbig => ?_, fun hsm => ?_⟩)
    · exact bad (c, 0) e he hng' _
    · refine VC21_of fun b hb => ⟨fun h => absurd (grown hb ⟨hg, hw⟩ h) id, fun _ => ⟨fun h => by simp at h, fun _ => ⟨fun _ => ?_, fun h => by simp at h⟩⟩⟩
      refine gcall_on (by simp) (VC28_of hg fun r hr => ?_)
      cases r with
      | true => exact absurd (hr.1 rfl) hnp
      | false => simp
    · refine VC21_of fun b hb => ⟨fun h => absurd (grown hb ⟨hg, hw⟩ h) id, fun _ => ⟨fun h => by simp at h, fun _ => ⟨fun _ => ?_, fun h => by simp at h⟩⟩⟩
      refine gcall_off (by simp) ?_
      cases c with
      | false => simp
      | true =>
        have := hv.2.2.2 ((hc hp).1 rfl)
        omega
    · refine VC21_of fun b hb => ⟨fun h => absurd (grown hb ⟨hg, hw⟩ h) id, fun _ => ⟨fun h => by simp at h, fun _ => ⟨fun h => by simp at h, fun _ => ?_⟩⟩⟩
      refine VC29_of hg hw hp (fun hnc => ?_) (fun hcl hr out => ?_) (fun hcl hr => ?_)
      · cases c with
        | true => exact absurd ((hc hp).1 rfl) hnc
        | false => simp
      · have hct : c = true := (hc hp).2 hcl
        subst hct
        have h1 := hv.2.2.2 hcl
        have h2 := hv.2.2.1.2 hr
        simp [h1, h2]
      · have hct : c = true := (hc hp).2 hcl
        subst hct
        have h1 := hv.2.2.2 hcl
        have h2 : ¬ 0 < v := fun h => hr (hv.2.2.1.1 h)
        simp [h1, h2]
end Dec
