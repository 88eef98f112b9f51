/-
  Counter.Row counts trees, up to a bound (plain).
-/
import Derived.Test.YtfchgkifdfgbmaaLawZ
import Derived.Test.YtfchgkifdfgbmaaLibZ
set_option linter.unusedSimpArgs false
set_option linter.unusedVariables false
namespace Dec
open Go Go.Proofs Cfg
theorem VC25_cap {a b : Int} {m n : Nat} (ha : CapV a m) (hb : CapV b n) {K : Int → Prop} (h : ∀ v, CapV v (m + n) → K v) : VC25 a b K := by
  unfold CapV at *
  unfold VC25 InR imin
  refine ⟨by omega, h _ ?_⟩
  omega
theorem VC24_cap {a b : Int} {m n : Nat} (ha : CapV a m) (hb : CapV b n) {K : Int → Prop} (h : ∀ v, CapV v (m * n) → K v) : VC24 a b K := by
  have ha0 : 0 ≤ a := by unfold CapV at ha; omega
  have hb0 : 0 ≤ b := by unfold CapV at hb; omega
  unfold VC24 InR imin
  refine ⟨fun hz => h _ ?_, fun hz => ⟨⟨by omega, ?_⟩, fun hlt => h _ ?_, fun hge => ?_⟩⟩
  · simp only [Bool.or_eq_true, decide_eq_true_eq] at hz
    unfold CapV at *
    have : m = 0 ∨ n = 0 := by omega
    rcases this with e | e <;> subst e <;> simp <;> omega
  · simp only [Bool.or_eq_false_iff, decide_eq_false_iff_not] at hz
    omega
  · simp only [Bool.or_eq_false_iff, decide_eq_false_iff_not] at hz
    simp only [decide_eq_true_eq] at hlt
    exact (mul_cap ha hb (by omega) (by omega)).1 hlt
  · simp only [Bool.or_eq_false_iff, decide_eq_false_iff_not] at hz
    simp only [decide_eq_false_iff_not] at hge
    obtain ⟨h1, h2⟩ := (mul_cap ha hb (by omega) (by omega)).2 hge
    have h3 : 0 < a * b := Int.mul_pos (by omega) (by omega)
    refine ⟨⟨by omega, by omega⟩, h _ ?_⟩
    rw [Int.min_eq_left h1]
    exact h2
end Dec
namespace Dec
open Go Go.Proofs Cfg
section
variable {g : Gr} {w : List Int}
def MeanC (g : Gr) (w : List Int) (c x i j : Int) : Nat := if c = -1 then cntS g w x i.toNat j.toNat else cntR g w ((g.2.2.2.getD c.toNat (0, [])).2.drop x.toNat) i.toNat j.toNat
def KnOk (g : Gr) (w : List Int) (kn : Kn) : Prop := ∀ c x i j v, mget kn (c, (x, (i, j))) = some v → CapV v (MeanC g w c x i j)
theorem knOk_nil : KnOk g w [] := by intro c x i j v h; cases h
theorem knOk_mset {kn : Kn} (h : KnOk g w kn) {c x i j v : Int} (hv : CapV v (MeanC g w c x i j)) : KnOk g w (mset kn (c, (x, (i, j))) v) := by
  intro c' x' i' j' v' h'
  rw [mget_mset] at h'
  split at h'
  · rename_i e
    cases e
    cases h'
    exact hv
  · exact h c' x' i' j' v' h'
theorem sign_loop (hp : Prop1 g) {s : Int} {i j : Nat} (hs : ¬ s < g.1) (hj : j ≤ w.length) {kn0 : Kn} (h0 : KnOk g w kn0) {B : Int × Int × Kn → (Int × Int × Kn → Prop) → Prop}
    (step : ∀ (n : Int) (v : Nat) (kn : Kn) (X : Int × Int × Kn → Prop), v < g.2.2.2.length → KnOk g w kn → ((g.2.2.2.getD v (0, [])).1 = s - g.1 → (∀ r kn', KnOk g w kn' → CapV r (cntR g w (g.2.2.2.getD v (0, [])).2 i j) → VC25 n r (fun n' => X (n', (v : Int) + 1, kn')))) → ((g.2.2.2.getD v (0, [])).1 ≠ s - g.1 → X (n, (v : Int) + 1, kn)) → B (n, (v : Int), kn) X)
    (stop : ∀ (n : Int) (kn : Kn) (X : Int × Int × Kn → Prop), KnOk g w kn → CapV n (cntS g w s i j) → B (n, (g.2.2.2.length : Int), kn) X) : Loop B (0, 0, kn0) := by
  refine Loop.by (fun t => ∃ v : Nat, t.2.1 = (v : Int) ∧ v ≤ g.2.2.2.length ∧ KnOk g w t.2.2 ∧ CapV t.1 (sumTo (fun k => if (g.2.2.2.getD k (0, [])).1 = s - g.1 then cntR g w (g.2.2.2.getD k (0, [])).2 i j else 0) v)) (fun t => ((g.2.2.2.length : Int) - t.2.1).toNat) ⟨0, rfl, by omega, h0, capV_zero⟩ ?_
  rintro ⟨n, v', kn⟩ ⟨v, e, hv, hk, hn⟩ X hX
  dsimp only at e hk hn hX
  subst e
  by_cases hlt : v < g.2.2.2.length
  · refine step n v kn X hlt hk (fun hname r kn' hk' hr => VC25_cap hn hr fun v' hv' => hX _ ⟨v + 1, by simp, by omega, hk', ?_⟩ (by dsimp only; omega)) (fun hname => hX _ ⟨v + 1, by simp, by omega, hk, ?_⟩ (by dsimp only; omega))
    · rw [sumTo_succ, if_pos hname]; exact hv'
    · rw [sumTo_succ, if_neg hname]; exact hn
  · have e : v = g.2.2.2.length := by omega
    subst e
    exact stop n kn X hk (by rw [cnt_name hp hs hj]; exact hn)
theorem mean_sign {s : Int} {i j : Nat} : MeanC g w (-1) s (i : Int) (j : Int) = cntS g w s i j := by
  unfold MeanC
  rw [if_pos rfl, Int.toNat_natCast, Int.toNat_natCast]
theorem mean_row {c r i j : Nat} : MeanC g w (c : Int) (r : Int) (i : Int) (j : Int) = cntR g w ((g.2.2.2.getD c (0, [])).2.drop r) i j := by
  unfold MeanC
  rw [if_neg (by omega)]
  simp only [Int.toNat_natCast]
set_option maxHeartbeats 4000000 in
theorem row_of (hg : GoodG g) (hw : GoodW g.1 w) (hp : Prop1 g) : ∀ (f : Nat) (c rule i j : Nat) (kn : Kn) (K : Int × Kn → Prop), 2 * (j - i) + (if rule = 0 then 0 else 1) < f → c < g.2.2.2.length → rule < (g.2.2.2.getD c (0, [])).2.length → i ≤ j → j ≤ w.length → KnOk g w kn →
    (∀ v kn', KnOk g w kn' → CapV v (cntR g w ((g.2.2.2.getD c (0, [])).2.drop rule) i j) → K (v, kn')) → VCc66_it g.1 g.2.1 g.2.2.1 g.2.2.2 w f (c : Int) (rule : Int) (i : Int) (j : Int) kn K := by
  intro f
  induction f with
  | zero => intro c rule i j kn K h; omega
  | succ f ih =>
    intro c rule i j kn K hf hc hr hij hj hk hK
    have hk3 := hg.k
    have hn5 := hg.n
    have hfew := hg.few
    have hw12 := hw.1
    have hmem : g.2.2.2.getD c (0, []) ∈ g.2.2.2 := getD_mem hc
    have hshort := hg.short _ hmem
    have hright := hg.right _ hmem
    have hcp := hp _ hmem
    show VCc66 g.1 g.2.1 g.2.2.1 g.2.2.2 w (VCc66_it g.1 g.2.1 g.2.2.1 g.2.2.2 w f) (c : Int) (rule : Int) (i : Int) (j : Int) kn K
    unfold VCc66
    simp only [Int.toNat_natCast]
    have hdrop1 : (g.2.2.2.getD c (0, [])).2.drop (rule + 1) = ((g.2.2.2.getD c (0, [])).2.drop rule).drop 1 := by rw [List.drop_drop]
    have hlt : ((g.2.2.2.getD c (0, [])).2.drop rule).length = (g.2.2.2.getD c (0, [])).2.length - rule := List.length_drop
    have hsub : ∀ s ∈ (g.2.2.2.getD c (0, [])).2.drop rule, 0 ≤ s ∧ s < g.1 + g.2.1 := fun s hs => hright s (List.mem_of_mem_drop hs)
    have hlone : rule = 0 → ∀ s, (g.2.2.2.getD c (0, [])).2.drop rule = [s] → s < g.1 := by
      intro e s h
      rw [e, List.drop_zero] at h
      exact hcp.2 s h
    refine ⟨⟨by omega, by omega⟩, ⟨by omega, by omega⟩, by unfold InR; omega, fun hshorter => ?_, fun hlong => ?_⟩
    · simp only [decide_eq_true_eq] at hshorter
      refine hK 0 kn hk ?_
      rw [cnt_short hp (by omega)]
      exact capV_zero
    simp only [decide_eq_false_iff_not] at hlong
    obtain ⟨t, ht⟩ : ∃ t, (g.2.2.2.getD c (0, [])).2.drop rule = t := ⟨_, rfl⟩
    rw [ht] at hdrop1 hlt hsub hlone hK hlong
    simp only [ht]
    cases t with
    | nil => simp only [List.length_nil] at hlt; omega
    | cons s l =>
    simp only [Int.toNat_zero, List.getD_cons_zero]
    simp only [List.drop_succ_cons, List.drop_zero] at hdrop1
    have hsr := hsub s (List.mem_cons_self)
    refine ⟨fun hone => ?_, fun hmany => ?_⟩
    · simp only [decide_eq_true_eq] at hone
      have hl : l = [] := by
        cases l with
        | nil => rfl
        | cons a b => simp only [List.length_cons] at hone; omega
      subst hl
      refine ⟨⟨by omega, by simp⟩, fun hsym => ?_, fun hname => ?_⟩
      · simp only [decide_eq_true_eq] at hsym
        refine ⟨by unfold InR; omega, fun he => ?_, ?_⟩
        · simp only [decide_eq_true_eq] at he
          exact ⟨by omega, by omega⟩
        · exact sym_ok (P := fun v => VCc66_k1 K v kn) hsym (by omega) (fun v hv => hK v kn hk (by rw [cnt_one]; exact hv))
      · simp only [decide_eq_false_iff_not] at hname
        have hr0 : rule ≠ 0 := fun e => hname (hlone e s rfl)
        rw [if_neg hr0] at hf
        refine ⟨fun hsome => ?_, fun hnone => ?_⟩
        · obtain ⟨v, hv⟩ := Option.isSome_iff_exists.1 hsome
          rw [hv]
          have := hk _ _ _ _ _ hv
          rw [mean_sign] at this
          exact hK v kn hk (by rw [cnt_one]; exact this)
        · refine sign_loop (w := w) hp (s := s) (i := i) (j := j) hname hj hk ?_ ?_
          · intro n v kn X hv hk' hhit hmiss
            dsimp only
            unfold VCc66_l1
            simp only [Int.toNat_natCast]
            simp only [ht, Int.toNat_zero, List.getD_cons_zero]
            refine ⟨fun hb => ⟨⟨by omega, by omega⟩, by unfold InR; omega, fun he => ?_, fun hne => ?_⟩, fun hb => ?_⟩
            · simp only [decide_eq_true_eq] at he
              have hvm : g.2.2.2.getD v (0, []) ∈ g.2.2.2 := getD_mem hv
              have hne := (hp _ hvm).1
              refine ih v 0 i j kn _ (by rw [if_pos rfl]; omega) hv (List.length_pos_iff.2 hne) hij hj hk' (fun r kn' hk'' hr' => ?_)
              rw [List.drop_zero] at hr'
              have := hhit he r kn' hk'' hr'
              exact ⟨this.1, by unfold InR; omega, this.2⟩
            · simp only [decide_eq_false_iff_not] at hne
              exact ⟨by unfold InR; omega, hmiss hne⟩
            · simp only [decide_eq_false_iff_not] at hb
              omega
          · intro n kn X hk' hn
            dsimp only
            unfold VCc66_l1
            simp only [Int.toNat_natCast]
            refine ⟨fun hb => ?_, fun _ => ?_⟩
            · simp only [decide_eq_true_eq] at hb
              omega
            · unfold VCc66_k2 VCc66_k1
              simp only [Int.toNat_natCast]
              simp only [ht, Int.toNat_zero, List.getD_cons_zero]
              exact hK n _ (knOk_mset hk' (by rw [mean_sign]; exact hn)) (by rw [cnt_one]; exact hn)
    · simp only [decide_eq_false_iff_not] at hmany
      have hl1 : 1 ≤ l.length := by
        cases l with
        | nil => exact absurd rfl hmany
        | cons a b => simp
      have hlen : (s :: l).length = l.length + 1 := rfl
      refine ⟨fun hsome => ?_, fun hnone => ⟨by unfold InR; omega, ?_⟩⟩
      · obtain ⟨v, hv⟩ := Option.isSome_iff_exists.1 hsome
        rw [hv]
        have := hk _ _ _ _ _ hv
        rw [mean_row, ht] at this
        exact hK v kn hk this
      · cases l with
        | nil => simp at hl1
        | cons t l =>
        refine Loop.by (fun q => ∃ e : Nat, q.2.1 = (e : Int) ∧ i + 1 ≤ e ∧ e ≤ j ∧ KnOk g w q.2.2 ∧ CapV q.1 (sumTo (fun q => cntS g w s i (q + (i + 1)) * cntR g w (t :: l) (q + (i + 1)) j) (e - (i + 1)))) (fun q => ((j : Int) - q.2.1).toNat) ⟨i + 1, by simp, by omega, by simp only [List.length_cons] at hlong; omega, hk, by rw [Nat.sub_self]; exact capV_zero⟩ ?_
        rintro ⟨n, e', kn1⟩ ⟨e, he, hie, hej, hk1, hn⟩ X hX
        dsimp only at he hk1 hn hX
        subst he
        dsimp only
        have hk6 : ∀ (n' : Int) (kn' : Kn), e < j → KnOk g w kn' → CapV n' (sumTo (fun q => cntS g w s i (q + (i + 1)) * cntR g w (t :: l) (q + (i + 1)) j) (e - (i + 1)) + cntS g w s i e * cntR g w (t :: l) e j) → VCc66_k6 (e : Int) X n' kn' := by
          intro n' kn' hlt hk' hn'
          unfold VCc66_k6
          refine ⟨by unfold InR; omega, hX _ ⟨e + 1, by simp, by omega, by omega, hk', ?_⟩ (by dsimp only; omega)⟩
          rw [show e + 1 - (i + 1) = (e - (i + 1)) + 1 by omega, sumTo_succ, show e - (i + 1) + (i + 1) = e by omega]
          exact hn'
        have hk5 : ∀ (v6 : Int) (kn' : Kn), e < j → KnOk g w kn' → CapV v6 (cntS g w s i e) → VCc66_k5 (VCc66_it g.1 g.2.1 g.2.2.1 g.2.2.2 w f) (c : Int) (rule : Int) (j : Int) n (e : Int) X v6 kn' := by
          intro v6 kn' hlt hk' hv6
          unfold VCc66_k5
          refine ⟨fun hpos => ⟨by unfold InR; omega, ?_⟩, fun hz => ?_⟩
          · refine ih c (rule + 1) e j kn' _ (by rw [if_neg (by omega)]; split at hf <;> omega) hc (by have h9 : (s :: t :: l).length = (g.2.2.2.getD c (0, [])).2.length - rule := (by rw [← ht, List.length_drop]); simp only [List.length_cons] at h9; omega) hej hj hk' (fun r kn'' hk'' hr' => ?_)
            rw [hdrop1] at hr'
            refine VC24_cap hv6 hr' fun v hv => ?_
            exact VC25_cap hn hv fun v' hv' => hk6 v' kn'' hlt hk'' hv'
          · simp only [decide_eq_false_iff_not] at hz
            have h0 : cntS g w s i e = 0 := by unfold CapV at hv6; omega
            refine hk6 n kn' hlt hk' ?_
            rw [h0, Nat.zero_mul, Nat.add_zero]
            exact hn
        unfold VCc66_l2
        simp only [Int.toNat_natCast]
        simp only [ht, Int.toNat_zero, List.getD_cons_zero]
        refine ⟨fun hb => ⟨⟨by omega, by simp only [List.length_cons]; omega⟩, fun hsym => ?_, fun hname => ?_⟩, fun hb => ?_⟩
        · simp only [decide_eq_true_eq] at hsym hb
          refine ⟨by unfold InR; omega, fun he => ?_, ?_⟩
          · simp only [decide_eq_true_eq] at he
            exact ⟨by omega, by omega⟩
          · exact sym_ok (P := fun v => VCc66_k5 (VCc66_it g.1 g.2.1 g.2.2.1 g.2.2.2 w f) (c : Int) (rule : Int) (j : Int) n (e : Int) X v kn1) hsym (by omega) (fun v hv => hk5 v kn1 (by omega) hk1 hv)
        · simp only [decide_eq_false_iff_not] at hname
          simp only [decide_eq_true_eq] at hb
          refine ⟨fun hsome => ?_, fun hnone => ?_⟩
          · obtain ⟨v, hv⟩ := Option.isSome_iff_exists.1 hsome
            rw [hv]
            have := hk1 _ _ _ _ _ hv
            rw [mean_sign] at this
            exact hk5 v kn1 (by omega) hk1 this
          · refine sign_loop (w := w) hp (s := s) (i := i) (j := e) hname (by omega) hk1 ?_ ?_
            · intro n2 v kn2 X3 hv hk' hhit hmiss
              dsimp only
              unfold VCc66_l3
              simp only [Int.toNat_natCast]
              simp only [ht, Int.toNat_zero, List.getD_cons_zero]
              refine ⟨fun hb => ⟨⟨by omega, by omega⟩, by unfold InR; omega, fun he => ?_, fun hne => ?_⟩, fun hb => ?_⟩
              · simp only [decide_eq_true_eq] at he
                have hvm : g.2.2.2.getD v (0, []) ∈ g.2.2.2 := getD_mem hv
                have hne := (hp _ hvm).1
                refine ih v 0 i e kn2 _ (by rw [if_pos rfl]; omega) hv (List.length_pos_iff.2 hne) (by omega) (by omega) hk' (fun r kn' hk'' hr' => ?_)
                rw [List.drop_zero] at hr'
                have := hhit he r kn' hk'' hr'
                exact ⟨this.1, by unfold InR; omega, this.2⟩
              · simp only [decide_eq_false_iff_not] at hne
                exact ⟨by unfold InR; omega, hmiss hne⟩
              · simp only [decide_eq_false_iff_not] at hb
                omega
            · intro n2 kn2 X3 hk' hn2
              dsimp only
              unfold VCc66_l3
              simp only [Int.toNat_natCast]
              refine ⟨fun hb => ?_, fun _ => ?_⟩
              · simp only [decide_eq_true_eq] at hb
                omega
              · unfold VCc66_k7
                simp only [Int.toNat_natCast]
                simp only [ht, Int.toNat_zero, List.getD_cons_zero]
                exact hk5 n2 _ (by omega) (knOk_mset hk' (by rw [mean_sign]; exact hn2)) hn2
        · simp only [decide_eq_false_iff_not] at hb
          have ej : e = j := by omega
          subst ej
          unfold VCc66_k4
          have hfin : CapV n (cntR g w (s :: t :: l) i e) := by
            rw [cnt_two]
            exact hn
          exact hK n _ (knOk_mset hk1 (by rw [mean_row, ht]; exact hfin)) hfin
theorem VC9_all (hg : GoodG g) (hw : GoodW g.1 w) (hp : Prop1 g) {K : Int × Int → Prop} (hbig : 1099511627776 < (cntW g w : Int) → K (0, 1)) (hin : (cntW g w : Int) ≤ 1099511627776 → K ((cntW g w : Int), 0)) : VC9 g w K := by
  unfold VC9
  refine VC12_of (fun e he hng => absurd ⟨hg, hw⟩ hng) (fun _ _ => ⟨fun h0 => (by simp at h0), fun _ => VC13_of hg fun b hb => ?_⟩)
  rw [hb.2 hp]
  refine ⟨fun h => (by cases h), fun _ => ?_⟩
  have hk := hg.k
  have hn := hg.n
  have hst := hg.start
  have hfew := hg.few
  have hw12 := hw.1
  have hs : ¬ g.1 + g.2.2.1 < g.1 := by omega
  refine ⟨by unfold InR; omega, fun hc => ?_, fun _ => ⟨fun hsome => ?_, fun _ => ?_⟩⟩
  · simp only [decide_eq_true_eq] at hc
    omega
  · cases hsome
  · refine sign_loop (w := w) hp (s := g.1 + g.2.2.1) (i := 0) (j := w.length) hs (Nat.le_refl _) knOk_nil ?_ ?_
    · intro n v kn X hv hk' hhit hmiss
      dsimp only
      unfold VC9_l1 VC9_k4
      simp only [Int.toNat_natCast]
      refine ⟨fun hb => ⟨⟨by omega, by omega⟩, by unfold InR; omega, fun he => ?_, fun hne => ?_⟩, fun hb => ?_⟩
      · simp only [decide_eq_true_eq] at he
        have hvm : g.2.2.2.getD v (0, []) ∈ g.2.2.2 := getD_mem hv
        have hne := (hp _ hvm).1
        refine ⟨2 * w.length + 1, row_of hg hw hp _ v 0 0 w.length kn _ (by rw [if_pos rfl]; omega) hv (List.length_pos_iff.2 hne) (by omega) (by omega) hk' (fun r kn' hk'' hr' => ?_)⟩
        rw [List.drop_zero] at hr'
        have := hhit he r kn' hk'' hr'
        exact ⟨this.1, by unfold InR; omega, this.2⟩
      · simp only [decide_eq_false_iff_not] at hne
        exact ⟨by unfold InR; omega, hmiss hne⟩
      · simp only [decide_eq_false_iff_not] at hb
        omega
    · intro n kn X hk' hn''
      have hn' : CapV n (cntW g w) := hn''
      dsimp only
      unfold VC9_l1
      simp only [Int.toNat_natCast]
      refine ⟨fun hb => ?_, fun _ => ?_⟩
      · simp only [decide_eq_true_eq] at hb
        omega
      · unfold VC9_k3 VC9_k2
        refine ⟨fun hc => ?_, fun hc => ?_⟩
        · simp only [decide_eq_true_eq] at hc
          unfold VC9_k1
          exact hbig (by unfold CapV at hn'; omega)
        · simp only [decide_eq_false_iff_not] at hc
          have hcn : n = (cntW g w : Int) := by unfold CapV at hn'; omega
          rw [hcn]
          exact hin (by omega)
theorem VC9_of {K : Int × Int → Prop} (hbad : ∀ e, e ≠ 0 → ¬ All g w → K (0, e)) (hbig : All g w → 1099511627776 < (cntW g w : Int) → K (0, 1)) (hin : All g w → (cntW g w : Int) ≤ 1099511627776 → K ((cntW g w : Int), 0)) : VC9 g w K := by
  by_cases h : All g w
  · exact VC9_all h.1 h.2.1 h.2.2 (hbig h) (hin h)
  unfold VC9
  refine VC12_of (fun e he hng => ⟨fun _ => hbad e he h, fun h0 => ?_⟩) (fun hg hw => ⟨fun h0 => (by simp at h0), fun _ => VC13_of hg fun b hb => ?_⟩)
  · simp at h0
    exact absurd h0 he
  have hb0 : b = false := by
    cases b with
    | false => rfl
    | true => exact absurd ⟨hg, hw, hb.1 rfl⟩ h
  subst hb0
  exact ⟨fun _ => hbad 3 (by decide) h, fun h0 => (by cases h0)⟩
end
end Dec
namespace Dec
open Go Go.Proofs
abbrev Th := List Sp × Int
abbrev waysI (t : Th) (i : Nat) : List (List Int) := (t.1.getD i zS).2.2.2
def kidsI (t : Th) (i : Nat) : List Int := (waysI t i).flatMap (·.drop 1)
structure SoundT (t : Th) (rk : Nat → Nat) : Prop where
  few : t.1.length ≤ 200
  root : 0 ≤ t.2 ∧ t.2 < t.1.length
  kid : ∀ i, i < t.1.length → ∀ w ∈ waysI t i, ∀ k ∈ w.drop 1, 0 ≤ k ∧ k < t.1.length ∧ rk k.toNat < rk i
  many : ∀ i, i < t.1.length → (waysI t i).length ≤ 300000
  long : ∀ i, i < t.1.length → ∀ w ∈ waysI t i, w ≠ [] ∧ w.length ≤ 5
structure Vis (t : Th) (st out : List Int) : Prop where
  len : st.length = t.1.length
  vals : ∀ x, x < t.1.length → st.getD x 0 = 0 ∨ st.getD x 0 = 1 ∨ st.getD x 0 = 2
  done : ∀ x : Nat, x < t.1.length → (st.getD x 0 = 2 ↔ (x : Int) ∈ out)
  rng : ∀ y ∈ out, 0 ≤ y ∧ y < t.1.length
  nd : out.Nodup
  top : ∀ k, k < out.length → ∀ y ∈ kidsI t (out.getD k 0).toNat, y ∈ out.take k
theorem getD_set2 {l : List Int} {i j : Nat} {v : Int} (hi : i < l.length) : (l.set i v).getD j 0 = if j = i then v else l.getD j 0 := by
  rw [List.getD_eq_getElem?_getD, List.getElem?_set, List.getD_eq_getElem?_getD]
  by_cases h : i = j
  · subst h; simp [hi]
  · have h2 : ¬ j = i := fun e => h e.symm
    rw [if_neg h, if_neg h2]
theorem Vis.few {t : Th} {st out : List Int} (h : Vis t st out) : out.length ≤ t.1.length := by
  have := nodup_le' h.nd (b := (List.range t.1.length).map fun (x : Nat) => (x : Int)) fun x hx => by
    obtain ⟨h0, h1⟩ := h.rng x hx
    obtain ⟨m, rfl⟩ := Int.eq_ofNat_of_zero_le h0
    exact List.mem_map.2 ⟨m, List.mem_range.2 (by omega), rfl⟩
  simpa using this
theorem VCc47_it_succ {t : Th} {f : Nat} {i : Int} {a b : List Int} {K : Bool × List Int × List Int → Prop} : VCc47_it t (f + 1) i a b K = VCc47 t (VCc47_it t f) i a b K := rfl
set_option maxHeartbeats 1000000 in
theorem visit_of {t : Th} {rk : Nat → Nat} (hs : SoundT t rk) : ∀ (f i : Nat) (st out : List Int) (K : Bool × List Int × List Int → Prop), rk i < f → i < t.1.length → Vis t st out → (∀ x, x < t.1.length → st.getD x 0 = 1 → rk i < rk x) →
    (∀ st' ext, Vis t st' (out ++ ext) → (∀ x, x < t.1.length → (st'.getD x 0 = 1 ↔ st.getD x 0 = 1)) → st'.getD i 0 = 2 → K (true, st', out ++ ext)) → VCc47_it t f (i : Int) st out K
  | 0, _, _, _, _, hf, _, _, _, _ => absurd hf (by omega)
  | f + 1, i, st, out, K, hf, hi, hV, h1, hK => by
    rw [VCc47_it_succ]
    unfold VCc47
    have hfew := hs.few
    have hVl := hV.len
    have hil : inIdx (i : Int) st.length := ⟨by omega, by omega⟩
    simp only [Int.toNat_natCast]
    refine ⟨hil, fun hb => ⟨hil, ?_⟩, fun hb => ⟨hil, ⟨by omega, by omega⟩, ?_⟩⟩
    · simp only [decide_eq_true_eq] at hb
      have h2 : st.getD i 0 = 2 := by
        rcases hV.vals i hi with h | h | h
        · omega
        · exact absurd (h1 i hi h) (by omega)
        · exact h
      have := hK st [] (by simpa using hV) (fun _ _ => Iff.rfl) h2
      simp only [h2, decide_true]
      simpa using this
    · simp only [decide_eq_false_iff_not] at hb
      have h0 : st.getD i 0 = 0 := by rcases hV.vals i hi with h | h | h <;> omega
      obtain ⟨W, hW⟩ : ∃ W, waysI t i = W := ⟨_, rfl⟩
      have hkid := hs.kid i hi
      have hmany := hs.many i hi
      have hlong := hs.long i hi
      rw [hW] at hkid hmany hlong
      have hWW : (t.1.getD i ((0 : Int), ((0 : Int), ((0 : Int), ([] : List (List Int)))))).2.2.2 = W := hW
      have hst : i < st.length := by omega
      refine Loop.by (fun s : Int × List Int × List Int => ∃ (v : Nat) (ext : List Int), s.1 = (v : Int) ∧ v ≤ W.length ∧ s.2.2 = out ++ ext ∧ Vis t s.2.1 s.2.2 ∧ (∀ x, x < t.1.length → (s.2.1.getD x 0 = 1 ↔ (x = i ∨ st.getD x 0 = 1))) ∧ ∀ u, u < v → ∀ y ∈ (W.getD u []).drop 1, y ∈ s.2.2) (fun s => ((W.length : Int) - s.1).toNat) ⟨0, [], rfl, by omega, by simp, ⟨?_, ?_, ?_, hV.rng, hV.nd, hV.top⟩, ?_, fun u hu => by omega⟩ ?_
      · dsimp only; rw [List.length_set]; exact hVl
      · intro x hx
        dsimp only
        rw [getD_set2 hst]
        split
        · simp
        · exact hV.vals x hx
      · intro x hx
        dsimp only
        rw [getD_set2 hst]
        split
        · rename_i e
          subst e
          have := hV.done x hx
          rw [h0] at this
          constructor
          · intro h; omega
          · intro h; have := this.2 h; omega
        · exact hV.done x hx
      · intro x hx
        dsimp only
        rw [getD_set2 hst]
        split
        · rename_i e; simp [e]
        · rename_i e; simp [e]
      rintro ⟨v', st1, out1⟩ ⟨v, ext, hv, hvl, ho, hV1, hone, hin⟩ X hX
      dsimp only at hv ho hV1 hone hin hX
      subst hv ho
      dsimp only
      unfold VCc47_l1
      simp only [Int.toNat_natCast, hWW]
      refine ⟨fun hb1 => ?_, fun hb1 => ?_⟩
      · simp only [decide_eq_true_eq] at hb1
        have hvW : v < W.length := by omega
        obtain ⟨w, hw⟩ : ∃ w, W.getD v [] = w := ⟨_, rfl⟩
        have hwm : w ∈ W := by rw [← hw]; exact getD_mem hvW
        obtain ⟨hne, hw5⟩ := hlong w hwm
        have hpos : 0 < w.length := List.length_pos_iff.2 hne
        simp only [hw]
        have hd1 : decide ((0 : Int) < (w.length : Int)) = true := decide_eq_true (by omega)
        refine ⟨⟨by omega, by omega⟩, fun _ => ⟨by omega, by omega⟩, fun _ => ?_, fun h => ?_⟩
        · obtain ⟨ks, hks⟩ : ∃ ks, w.drop 1 = ks := ⟨_, rfl⟩
          have hk1 : w.drop (1 : Int).toNat = ks := hks
          have hkl : ks.length = w.length - 1 := by rw [← hks, List.length_drop]
          refine Loop.by (fun s : Int × List Int × List Int => ∃ (m : Nat) (ext : List Int), s.1 = (m : Int) ∧ m ≤ ks.length ∧ s.2.2 = out ++ ext ∧ Vis t s.2.1 s.2.2 ∧ (∀ x, x < t.1.length → (s.2.1.getD x 0 = 1 ↔ (x = i ∨ st.getD x 0 = 1))) ∧ (∀ u, u < v → ∀ y ∈ (W.getD u []).drop 1, y ∈ s.2.2) ∧ ∀ u, u < m → ks.getD u 0 ∈ s.2.2) (fun s => ((ks.length : Int) - s.1).toNat) ⟨0, ext, rfl, by omega, rfl, hV1, hone, hin, fun u hu => by omega⟩ ?_
          rintro ⟨m', st2, out2⟩ ⟨m, ext2, hm, hml, ho2, hV2, hone2, hin2, hin3⟩ X2 hX2
          dsimp only at hm ho2 hV2 hone2 hin2 hin3 hX2
          subst hm ho2
          dsimp only
          unfold VCc47_l2
          simp only [Int.toNat_natCast, hWW, hw, hk1]
          refine ⟨fun hb2 => ?_, fun hb2 => ?_⟩
          · simp only [decide_eq_true_eq] at hb2
            have hmk : m < ks.length := by omega
            have hkm : ks.getD m 0 ∈ w.drop 1 := by rw [hks]; exact getD_mem hmk
            obtain ⟨k0, k1, k2⟩ := hkid w hwm _ hkm
            obtain ⟨k, hk⟩ := Int.eq_ofNat_of_zero_le k0
            rw [hk] at k1 k2
            simp only [Int.toNat_natCast] at k2
            refine ⟨⟨by omega, by omega⟩, ?_⟩
            simp only [hk]
            refine visit_of hs f k st2 (out ++ ext2) _ (by omega) (by omega) hV2 (fun x hx hx1 => ?_) (fun st3 ext3 hV3 hone3 h3 => ⟨fun h => (by simp at h), fun _ => ⟨by unfold InR; omega, hX2 _ ⟨m + 1, ext2 ++ ext3, by simp, by omega, by simp, by dsimp only; exact hV3, fun x hx => (hone3 x hx).trans (hone2 x hx), fun u hu y hy => ?_, fun u hu => ?_⟩ (by dsimp only; omega)⟩⟩)
            · rcases (hone2 x hx).1 hx1 with e | e
              · rw [e]; exact k2
              · have := h1 x hx e; omega
            · exact List.mem_append_left _ (hin2 u hu y hy)
            · rcases Nat.lt_or_ge u m with hum | hum
              · exact List.mem_append_left _ (hin3 u hum)
              · have : u = m := by omega
                subst this
                dsimp only
                rw [hk]
                exact (hV3.done k (by omega)).1 h3
          · simp only [decide_eq_false_iff_not] at hb2
            have hmk : m = ks.length := by omega
            unfold VCc47_k4 VCc47_k3 VCc47_k2
            refine ⟨fun h => (by simp at h), fun _ => ⟨by unfold InR; omega, hX _ ⟨v + 1, ext2, by simp, by omega, rfl, hV2, hone2, fun u hu y hy => ?_⟩ (by dsimp only; omega)⟩⟩
            rcases Nat.lt_or_ge u v with huv | huv
            · exact hin2 u huv y hy
            · have : u = v := by omega
              subst this
              rw [hw, hks] at hy
              obtain ⟨q, hq, e⟩ := List.mem_iff_getElem.1 hy
              have := hin3 q (by omega)
              rw [getD_lt _ hq, e] at this
              exact this
        · rw [hd1] at h; cases h
      · simp only [decide_eq_false_iff_not] at hb1
        have hvW : v = W.length := by omega
        unfold VCc47_k1
        have hV1l := hV1.len
        have hV1f := hV1.few
        have hi1 : st1.getD i 0 = 1 := (hone i hi).2 (.inl rfl)
        have hni : (i : Int) ∉ out ++ ext := fun hm => by
          have := (hV1.done i hi).2 hm
          omega
        have hist : i < st1.length := by omega
        simp only [Int.toNat_natCast]
        refine ⟨⟨by omega, by omega⟩, by unfold roomN; simp only [List.length_cons, List.length_nil]; omega, ?_⟩
        rw [List.append_assoc]
        refine hK _ (ext ++ [(i : Int)]) ⟨?_, ?_, ?_, ?_, ?_, ?_⟩ (fun x hx => ?_) ?_
        · rw [List.length_set]; exact hV1l
        · intro x hx
          rw [getD_set2 hist]
          split
          · simp
          · exact hV1.vals x hx
        · intro x hx
          rw [getD_set2 hist, ← List.append_assoc]
          split
          · rename_i e; subst e; simp
          · rename_i e
            rw [hV1.done x hx, List.mem_append (t := [(i : Int)]), List.mem_singleton]
            constructor
            · exact .inl
            · rintro (h | h)
              · exact h
              · exact absurd (by omega) e
        · intro y hy
          rw [← List.append_assoc] at hy
          rcases List.mem_append.1 hy with h | h
          · exact hV1.rng y h
          · rw [List.mem_singleton.1 h]; omega
        · rw [← List.append_assoc, List.nodup_append]
          exact ⟨hV1.nd, by simp, fun a ha b hb e => hni (by rw [← List.mem_singleton.1 hb, ← e]; exact ha)⟩
        · intro k hk y hy
          rw [← List.append_assoc] at hk hy ⊢
          rcases Nat.lt_or_ge k (out ++ ext).length with hk1 | hk1
          · rw [getD_append_l' hk1] at hy
            rw [List.take_append_of_le_length (by omega)]
            exact hV1.top k hk1 y hy
          · have hke : k = (out ++ ext).length := by
              rw [List.length_append (bs := [(i : Int)]), List.length_singleton] at hk
              omega
            rw [getD_append_r' hk1, hke, Nat.sub_self] at hy
            rw [hke, List.take_left]
            have hy' : y ∈ kidsI t i := hy
            unfold kidsI at hy'
            rw [hW] at hy'
            obtain ⟨w, hwm, hyw⟩ := List.mem_flatMap.1 hy'
            obtain ⟨q, hq, e⟩ := List.mem_iff_getElem.1 hwm
            refine hin q (by omega) y ?_
            rw [getD_lt _ hq, e]
            exact hyw
        · rw [getD_set2 hist]
          split
          · rename_i e; subst e; rw [h0]; constructor <;> intro h <;> omega
          · rename_i e; rw [hone x hx]; simp [e]
        · rw [getD_set2 hist, if_pos rfl]
structure Ordered (t : Th) (out : List Int) : Prop where
  all : ∀ x : Nat, x < t.1.length → (x : Int) ∈ out
  rng : ∀ y ∈ out, 0 ≤ y ∧ y < t.1.length
  nd : out.Nodup
  top : ∀ k, k < out.length → ∀ y ∈ kidsI t (out.getD k 0).toNat, y ∈ out.take k
  few : out.length ≤ t.1.length
theorem VC46_of {x n : Int} {K : Bool → Prop} (h0 : 0 ≤ x) (h1 : x < n) (h : K false) : VC46 x n K := by
  unfold VC46
  have e : (decide (x < 0) || decide (n ≤ x)) = false := by
    rw [Bool.or_eq_false_iff]
    exact ⟨decide_eq_false (by omega), decide_eq_false (by omega)⟩
  rw [e]
  exact h
theorem VC23_of {t : Th} {rk : Nat → Nat} (hs : SoundT t rk) {K : List Int × Bool → Prop} (h : ∀ out, Ordered t out → K (out, true)) : VC23 t K := by
  have hfew := hs.few
  have hroot := hs.root
  unfold VC23
  have hc : ((decide ((200 : Int) < (t.1.length : Int)) || decide (t.2 < (0 : Int))) || decide ((t.1.length : Int) ≤ t.2)) = false := by
    simp only [Bool.or_eq_false_iff, decide_eq_false_iff_not]
    omega
  refine ⟨fun h => ?_, fun _ => ?_⟩
  · rw [hc] at h; cases h
  refine loop_count t.1.length (fun _ => True) trivial ?_
  intro i hi _ X hX
  unfold VC23_l2
  refine ⟨fun hb => ⟨⟨by omega, by simp only [decide_eq_true_eq] at hb; omega⟩, ?_⟩, fun _ => ?_⟩
  · simp only [decide_eq_true_eq] at hb
    have hit : i < t.1.length := by omega
    obtain ⟨W, hW⟩ : ∃ W, waysI t i = W := ⟨_, rfl⟩
    have hkid := hs.kid i hit
    have hmany := hs.many i hit
    have hlong := hs.long i hit
    rw [hW] at hkid hmany hlong
    have hWW : (t.1.getD i ((0 : Int), ((0 : Int), ((0 : Int), ([] : List (List Int)))))).2.2.2 = W := hW
    refine loop_count W.length (fun _ => True) trivial ?_
    intro v hv _ X3 hX3
    unfold VC23_l3
    simp only [Int.toNat_natCast, hWW]
    refine ⟨fun hb3 => ?_, fun _ => by unfold VC23_k3; exact ⟨by unfold InR; omega, hX hit trivial⟩⟩
    simp only [decide_eq_true_eq] at hb3
    have hvW : v < W.length := by omega
    obtain ⟨w, hw⟩ : ∃ w, W.getD v [] = w := ⟨_, rfl⟩
    have hwm : w ∈ W := by rw [← hw]; exact getD_mem hvW
    obtain ⟨hne, hw5⟩ := hlong w hwm
    have hpos : 0 < w.length := List.length_pos_iff.2 hne
    simp only [hw]
    refine ⟨⟨by omega, by omega⟩, fun _ => ⟨by omega, by omega⟩, ?_⟩
    have hf : ∀ r : Bool, r = false → ((decide ((0 : Int) < (w.length : Int)) && r) = true → K ([], false)) ∧ ((decide ((0 : Int) < (w.length : Int)) && r) = false → (InR ((v : Int) + 1) ∧ X3 ((v : Int) + 1))) := by
      rintro r rfl
      exact ⟨fun h => (by simp at h), fun _ => ⟨by unfold InR; omega, hX3 hvW trivial⟩⟩
    refine gcall_both (fun _ => ?_) (fun _ => hf false rfl)
    refine VC27_of (fun _ => false) (by rw [List.length_drop]; omega) (fun x hx K' hK' => ?_) ?_
    · obtain ⟨a, b, _⟩ := hkid w hwm x hx
      exact VC46_of a b hK'
    · have : (w.drop (1 : Int).toNat).any (fun _ => false) = false := by simp
      rw [this]
      exact hf false rfl
  · unfold VC23_k1
    refine ⟨⟨by omega, by omega⟩, ?_⟩
    refine Loop.by (fun s : Int × List Int × List Int => ∃ v : Nat, s.1 = (v : Int) ∧ v ≤ t.1.length ∧ Vis t s.2.1 s.2.2 ∧ (∀ x, x < t.1.length → s.2.1.getD x 0 ≠ 1) ∧ ∀ u : Nat, u < v → (u : Int) ∈ s.2.2) (fun s => ((t.1.length : Int) - s.1).toNat) ⟨0, rfl, by omega, ⟨?_, ?_, ?_, by simp, List.nodup_nil, by simp⟩, ?_, by omega⟩ ?_
    · simp
    · intro x hx; dsimp only; rw [getD_lt _ (by simpa using hx)]; simp
    · intro x hx; dsimp only; rw [getD_lt _ (by simpa using hx)]; simp
    · intro x hx; dsimp only; rw [getD_lt _ (by simpa using hx)]; simp
    rintro ⟨v', st, out⟩ ⟨v, hv, hvl, hV, hno, hin⟩ X hX
    dsimp only at hv hV hno hin hX
    subst hv
    dsimp only
    unfold VC23_l1
    refine ⟨fun hb => ?_, fun hb => ?_⟩
    · simp only [decide_eq_true_eq] at hb
      have hvt : v < t.1.length := by omega
      refine ⟨rk v + 1, visit_of hs _ v st out _ (by omega) hvt hV (fun x hx hx1 => absurd hx1 (hno x hx)) fun st' ext hV' hone h2 => ⟨fun h => (by simp at h), fun _ => ⟨by unfold InR; omega, hX _ ⟨v + 1, by simp, by omega, hV', fun x hx hx1 => hno x hx ((hone x hx).1 hx1), fun u hu => ?_⟩ (by dsimp only; omega)⟩⟩⟩
      rcases Nat.lt_or_ge u v with huv | huv
      · exact List.mem_append_left _ (hin u huv)
      · have : u = v := by omega
        subst this
        exact (hV'.done u hvt).1 h2
    · simp only [decide_eq_false_iff_not] at hb
      have hvt : v = t.1.length := by omega
      unfold VC23_k2
      exact h out ⟨fun x hx => hin x (by omega), hV.rng, hV.nd, hV.top, hV.few⟩
end Dec
namespace Dec
open Go Go.Proofs
def prodTo (f : Nat → Nat) : Nat → Nat
  | 0 => 1
  | n + 1 => prodTo f n * f n
def wayN (cn : Nat → Nat) (w : List Int) : Nat := prodTo (fun m => cn ((w.drop 1).getD m 0).toNat) (w.drop 1).length
def Counts (t : Th) (cn : Nat → Nat) : Prop := ∀ i, i < t.1.length → cn i = if waysI t i = [] then 1 else sumTo (fun v => wayN cn ((waysI t i).getD v [])) (waysI t i).length
theorem take_succ_getD {l : List Int} {k : Nat} (hk : k < l.length) : l.take (k + 1) = l.take k ++ [l.getD k 0] := by
  rw [List.take_add_one, List.getElem?_eq_getElem hk, getD_lt _ hk]; rfl
theorem not_mem_take {l : List Int} (hn : l.Nodup) {k : Nat} (hk : k < l.length) : l.getD k 0 ∉ l.take k := by
  have h1 : (l.take (k + 1)).Nodup := hn.sublist (List.take_sublist _ _)
  rw [take_succ_getD hk, List.nodup_append] at h1
  exact fun hm => h1.2.2 _ hm _ (List.mem_singleton.2 rfl) rfl
set_option maxHeartbeats 1000000 in
theorem VC10_of {t : Th} {rk : Nat → Nat} (hs : SoundT t rk) {cn : Nat → Nat} (hc : Counts t cn) {K : Int × Int → Prop} (hbig : (1099511627776 : Int) < (cn t.2.toNat : Int) → K (0, 1)) (hin : (cn t.2.toNat : Int) ≤ 1099511627776 → K ((cn t.2.toNat : Int), 0)) : VC10 t K := by
  have hfew := hs.few
  have hroot := hs.root
  unfold VC10
  refine VC23_of hs fun out hO => ⟨fun h => (by simp at h), fun _ => ⟨⟨by omega, by omega⟩, ?_⟩⟩
  have hol := hO.few
  refine Loop.by (fun s : Int × List Int => ∃ v : Nat, s.1 = (v : Int) ∧ v ≤ out.length ∧ s.2.length = t.1.length ∧ ∀ x : Nat, x < t.1.length → ((x : Int) ∈ out.take v → CapV (s.2.getD x 0) (cn x)) ∧ ((x : Int) ∉ out.take v → s.2.getD x 0 = 0)) (fun s => ((out.length : Int) - s.1).toNat) ⟨0, rfl, by omega, by simp, fun x hx => ⟨fun h => (by simp at h), fun _ => ?_⟩⟩ ?_
  · dsimp only; rw [getD_lt _ (by simpa using hx)]; simp
  rintro ⟨v', many⟩ ⟨v, hv, hvl, hml, hM⟩ X hX
  dsimp only at hv hml hM hX
  subst hv
  dsimp only
  unfold VC10_l1
  simp only [Int.toNat_natCast]
  refine ⟨fun hb => ?_, fun hb => ?_⟩
  · simp only [decide_eq_true_eq] at hb
    have hvo : v < out.length := by omega
    obtain ⟨i0, i1⟩ := hO.rng _ (getD_mem (d := (0 : Int)) hvo)
    obtain ⟨i, hi⟩ := Int.eq_ofNat_of_zero_le i0
    rw [hi] at i1
    have hit : i < t.1.length := by omega
    have hnt : (i : Int) ∉ out.take v := by rw [← hi]; exact not_mem_take hO.nd hvo
    have hts : out.take (v + 1) = out.take v ++ [(i : Int)] := by rw [take_succ_getD hvo, hi]
    obtain ⟨W, hW⟩ : ∃ W, waysI t i = W := ⟨_, rfl⟩
    have hkid := hs.kid i hit
    have hmany := hs.many i hit
    have hlong := hs.long i hit
    have hci := hc i hit
    rw [hW] at hkid hmany hlong hci
    have hWW : (t.1.getD i ((0 : Int), ((0 : Int), ((0 : Int), ([] : List (List Int)))))).2.2.2 = W := hW
    have htop := hO.top v hvo
    rw [hi, Int.toNat_natCast] at htop
    simp only [hi, Int.toNat_natCast, hWW]
    -- the ways' loop
    have key : ∀ many2 : List Int, many2.length = t.1.length → (∀ x, x ≠ i → many2.getD x 0 = many.getD x 0) → (W = [] → many2.getD i 0 = 1) → (W ≠ [] → many2.getD i 0 = 0) → VC10_k2 t (out, true) (v : Int) X many2 := by
      intro many2 hl2 hoth hone hzero
      unfold VC10_k2
      dsimp only
      simp only [hi, Int.toNat_natCast]
      refine ⟨⟨by omega, by omega⟩, ?_⟩
      refine Loop.by (fun s : Int × List Int => ∃ u : Nat, s.1 = (u : Int) ∧ u ≤ W.length ∧ s.2.length = t.1.length ∧ (∀ x, x ≠ i → s.2.getD x 0 = many.getD x 0) ∧ (W = [] → s.2.getD i 0 = 1) ∧ (W ≠ [] → CapV (s.2.getD i 0) (sumTo (fun q => wayN cn (W.getD q [])) u))) (fun s => ((W.length : Int) - s.1).toNat) ⟨0, rfl, by omega, hl2, hoth, hone, fun h => by dsimp only; rw [hzero h]; exact capV_zero⟩ ?_
      rintro ⟨u', many3⟩ ⟨u, hu, hul, hl3, hoth3, hone3, hcap3⟩ X2 hX2
      dsimp only at hu hl3 hoth3 hone3 hcap3 hX2
      subst hu
      dsimp only
      unfold VC10_l2
      dsimp only
      simp only [hi, Int.toNat_natCast, hWW]
      refine ⟨fun hb2 => ?_, fun hb2 => ?_⟩
      · simp only [decide_eq_true_eq] at hb2
        have huW : u < W.length := by omega
        have hWne : W ≠ [] := by intro e; rw [e] at huW; simp at huW
        obtain ⟨w, hw⟩ : ∃ w, W.getD u [] = w := ⟨_, rfl⟩
        have hwm : w ∈ W := by rw [← hw]; exact getD_mem huW
        obtain ⟨hne, hw5⟩ := hlong w hwm
        have hpos : 0 < w.length := List.length_pos_iff.2 hne
        simp only [hw]
        have him : imin (1 : Int) (w.length : Int) = 1 := by unfold imin; omega
        simp only [him]
        refine ⟨⟨by omega, by omega⟩, ⟨by omega, by omega⟩, ?_⟩
        obtain ⟨ks, hks⟩ : ∃ ks, w.drop 1 = ks := ⟨_, rfl⟩
        have hk1 : w.drop (1 : Int).toNat = ks := hks
        have hkl : ks.length = w.length - 1 := by rw [← hks, List.length_drop]
        refine Loop.by (fun s : Int × Int => ∃ m : Nat, s.2 = (m : Int) ∧ m ≤ ks.length ∧ CapV s.1 (prodTo (fun q => cn (ks.getD q 0).toNat) m)) (fun s => ((ks.length : Int) - s.2).toNat) ⟨0, rfl, by omega, capV_one⟩ ?_
        rintro ⟨n, m'⟩ ⟨m, hm, hml, hn⟩ X3 hX3
        dsimp only at hm hn hX3
        subst hm
        dsimp only
        unfold VC10_l3
        dsimp only
        simp only [hi, Int.toNat_natCast, hWW, hw, him, hk1]
        refine ⟨fun hb3 => ?_, fun hb3 => ?_⟩
        · simp only [decide_eq_true_eq] at hb3
          have hmk : m < ks.length := by omega
          have hkm : ks.getD m 0 ∈ w.drop 1 := by rw [hks]; exact getD_mem hmk
          obtain ⟨k0, k1, k2⟩ := hkid w hwm _ hkm
          have hkt : ks.getD m 0 ∈ out.take v := htop _ (by unfold kidsI; rw [hW]; exact List.mem_flatMap.2 ⟨w, hwm, hkm⟩)
          obtain ⟨k, hk⟩ := Int.eq_ofNat_of_zero_le k0
          have hkc : cn (ks.getD m 0).toNat = cn k := by rw [hk, Int.toNat_natCast]
          rw [hk] at k1 k2 hkt
          simp only [Int.toNat_natCast] at k2
          simp only [hk, Int.toNat_natCast]
          refine ⟨⟨by omega, by omega⟩, ⟨by omega, by omega⟩, ?_⟩
          refine VC24_cap hn (n := cn k) ?_ fun r hr => ⟨by unfold InR; omega, hX3 _ ⟨m + 1, by simp, by omega, ?_⟩ (by dsimp only; omega)⟩
          · rw [hoth3 k (by intro e; rw [e] at k2; omega)]
            exact (hM k (by omega)).1 hkt
          · dsimp only
            unfold prodTo
            rw [hkc]
            exact hr
        · simp only [decide_eq_false_iff_not] at hb3
          have hmk : m = ks.length := by omega
          unfold VC10_k4
          dsimp only
          simp only [hi, Int.toNat_natCast]
          refine ⟨⟨by omega, by omega⟩, ?_⟩
          refine VC25_cap (hcap3 hWne) (n := wayN cn w) ?_ fun r hr => ⟨⟨by omega, by omega⟩, by unfold InR; omega, hX2 _ ⟨u + 1, by simp, by omega, ?_, fun x hx => ?_, fun e => absurd e hWne, fun _ => ?_⟩ (by dsimp only; omega)⟩
          · unfold wayN
            rw [hks, ← hmk]
            exact hn
          · dsimp only; rw [List.length_set]; exact hl3
          · dsimp only; rw [getD_set2 (by omega), if_neg hx]; exact hoth3 x hx
          · dsimp only
            rw [getD_set2 (by omega), if_pos rfl, sumTo_succ]
            show CapV r (sumTo (fun q => wayN cn (W.getD q [])) u + wayN cn (W.getD u []))
            rw [hw]
            exact hr
      · simp only [decide_eq_false_iff_not] at hb2
        have huW : u = W.length := by omega
        unfold VC10_k3
        refine ⟨by unfold InR; omega, hX _ ⟨v + 1, by simp, by omega, hl3, fun x hx => ⟨fun hm => ?_, fun hm => ?_⟩⟩ (by dsimp only; omega)⟩
        · dsimp only at hm ⊢
          rw [hts] at hm
          by_cases hxi : x = i
          · subst hxi
            by_cases hWe : W = []
            · rw [if_pos hWe] at hci
              rw [hone3 hWe, hci]
              exact capV_one
            · rw [if_neg hWe, ← huW] at hci
              rw [hci]
              exact hcap3 hWe
          · rw [hoth3 x hxi]
            refine (hM x hx).1 ?_
            rcases List.mem_append.1 hm with h | h
            · exact h
            · exact absurd (by have := List.mem_singleton.1 h; omega) hxi
        · dsimp only at hm ⊢
          rw [hts] at hm
          have hxi : x ≠ i := fun e => hm (List.mem_append_right _ (by rw [e]; exact List.mem_singleton.2 rfl))
          rw [hoth3 x hxi]
          exact (hM x hx).2 fun h => hm (List.mem_append_left _ h)
    refine ⟨⟨by omega, by omega⟩, ⟨by omega, by omega⟩, fun hz => ⟨⟨by omega, by omega⟩, key _ ?_ (fun x hx => ?_) (fun _ => ?_) (fun h => ?_)⟩, fun hz => key _ hml (fun _ _ => rfl) (fun h => ?_) (fun _ => (hM i hit).2 hnt)⟩
    · rw [List.length_set]; exact hml
    · rw [getD_set2 (by omega), if_neg hx]
    · rw [getD_set2 (by omega), if_pos rfl]
    · simp only [decide_eq_true_eq] at hz
      exact absurd (List.length_eq_zero_iff.1 (by omega)) h
    · simp only [decide_eq_false_iff_not] at hz
      rw [h] at hz
      simp at hz
  · simp only [decide_eq_false_iff_not] at hb
    have hvo : v = out.length := by omega
    unfold VC10_k1
    obtain ⟨r, hr⟩ := Int.eq_ofNat_of_zero_le hroot.1
    have hrt : r < t.1.length := by omega
    have hcap := (hM r hrt).1 (by rw [hvo, List.take_length]; exact hO.all r hrt)
    rw [hr] at hbig hin
    simp only [Int.toNat_natCast] at hbig hin
    simp only [hr, Int.toNat_natCast]
    unfold CapV at hcap
    refine ⟨⟨by omega, by omega⟩, fun hbg => ?_, fun hbg => ⟨⟨by omega, by omega⟩, ?_⟩⟩
    · simp only [decide_eq_true_eq] at hbg
      exact hbig (by omega)
    · simp only [decide_eq_false_iff_not] at hbg
      have e : many.getD r 0 = (cn r : Int) := by omega
      rw [e]
      exact hin (by omega)
end Dec
namespace Dec
open Go Go.Proofs Cfg
section
variable {g : Gr} {w : List Int} {root : Key} {S : List Key} {num : Key → Int} {out : List Sp}
theorem ForOk.find (h : ForOk g w root S num out) {y : Key} (hy : y ∈ S) : ∃ i, i < S.length ∧ num y = (i : Int) ∧ S.getD i z3 = y ∧ (out.getD i zS).1 = y.1 ∧ (out.getD i zS).2.1 = y.2.1 ∧ (out.getD i zS).2.2.1 = y.2.2 := by
  obtain ⟨i, hi, e⟩ := List.mem_iff_getElem.1 hy
  have e1 : S.getD i z3 = y := by rw [getD_lt _ hi, e]
  obtain ⟨rows, h1, _⟩ := h.spot i hi
  rw [e1] at h1
  have h2 := h.nums i hi
  rw [e1] at h2
  exact ⟨i, hi, h2, e1, by rw [h1], by rw [h1], by rw [h1]⟩
theorem way_ok (hg : GoodG g) (hp : Prop1 g) (hF : ForOk g w root S num out) {e : Int} {v : Nat} (hv : v < S.length) {rows : List (List Int)} (hrows : rows.Perm ((waysOf g w (S.getD v z3)).map fun x => x.1 :: x.2.map num)) {a : List Int} (ha : a ∈ rows) :
    ∃ (k : Nat) (r : List Key) (i j : Nat), k < g.2.2.2.length ∧ (S.getD v z3).1 = g.1 + (g.2.2.2.getD k (0, [])).1 ∧ (S.getD v z3).2 = ((i : Int), (j : Int)) ∧ a = (k : Int) :: r.map num ∧ r ∈ rowsL (drv g w) (g.2.2.2.getD k (0, [])).2 i j ∧ ∀ y ∈ r, y ∈ S := by
  have hmem : S.getD v z3 ∈ S := getD_mem hv
  obtain ⟨_, i, j, e2, _⟩ := hF.ok _ hmem
  have ha' := hrows.mem_iff.1 ha
  obtain ⟨x, hx, rfl⟩ := List.mem_map.1 ha'
  have hx0 := hx
  obtain ⟨k, hk, hx⟩ := List.mem_flatMap.1 hx
  have hk' := List.mem_range.1 hk
  unfold waysAt at hx
  split at hx
  · rename_i hl
    obtain ⟨r, hr, rfl⟩ := List.mem_map.1 hx
    rw [e2] at hr
    dsimp only at hr
    rw [Int.toNat_natCast, Int.toNat_natCast] at hr
    exact ⟨k, r, i, j, hk', hl, e2, rfl, hr, fun y hy => hF.shut _ hmem y (List.mem_flatMap.2 ⟨_, hx0, hy⟩)⟩
  · cases hx
end
end Dec
namespace Dec
open Go Go.Proofs Cfg
def prodL (l : List Nat) : Nat := l.foldr (· * ·) 1
theorem prodTo_cons (f : Nat → Nat) : ∀ n, prodTo f (n + 1) = f 0 * prodTo (fun i => f (i + 1)) n
  | 0 => by simp [prodTo]
  | n + 1 => by
    rw [prodTo, prodTo_cons f n, prodTo, Nat.mul_assoc]
theorem prodTo_list (f : Int → Nat) : ∀ l : List Int, prodTo (fun u => f (l.getD u 0)) l.length = prodL (l.map f)
  | [] => rfl
  | x :: l => by
    rw [List.length_cons, prodTo_cons]
    show f x * prodTo (fun u => f (l.getD u 0)) l.length = f x * prodL (l.map f)
    rw [prodTo_list f l]
theorem sumTo_cons (f : Nat → Nat) (n : Nat) : sumTo f (n + 1) = f 0 + sumTo (fun i => f (i + 1)) n := by
  unfold sumTo
  rw [List.range_succ_eq_map, List.map_cons, List.sum_cons, List.map_map]
  rfl
theorem sumTo_list {α : Type} (d : α) (f : α → Nat) : ∀ l : List α, sumTo (fun u => f (l.getD u d)) l.length = (l.map f).sum
  | [] => rfl
  | x :: l => by
    rw [List.length_cons, sumTo_cons, List.map_cons, List.sum_cons, ← sumTo_list d f l]
    rfl
theorem wayN_eq (cn : Nat → Nat) (w : List Int) : wayN cn w = prodL ((w.drop 1).map fun k => cn k.toNat) := prodTo_list (fun k => cn k.toNat) (w.drop 1)
theorem sum_flat {α β : Type} (F : α → List β) (f : β → Nat) : ∀ l : List α, ((l.flatMap F).map f).sum = (l.map fun x => ((F x).map f).sum).sum
  | [] => rfl
  | x :: l => by
    rw [List.flatMap_cons, List.map_append, List.sum_append, sum_flat F f l, List.map_cons, List.sum_cons]
theorem sum_mul' {α : Type} (c : Nat) (f : α → Nat) : ∀ l : List α, (l.map fun x => c * f x).sum = c * (l.map f).sum
  | [] => by simp
  | x :: l => by
    rw [List.map_cons, List.sum_cons, List.map_cons, List.sum_cons, sum_mul' c f l, Nat.mul_add]
theorem sumTo_congr {f h : Nat → Nat} : ∀ {n : Nat}, (∀ i, i < n → f i = h i) → sumTo f n = sumTo h n
  | 0, _ => rfl
  | n + 1, H => by rw [sumTo_succ, sumTo_succ, sumTo_congr fun i hi => H i (by omega), H n (by omega)]
section
variable {g : Gr} {w : List Int} {root : Key} {S : List Key} {num : Key → Int} {out : List Sp}
def cntK (g : Gr) (w : List Int) (y : Key) : Nat := cntS g w y.1 y.2.1.toNat y.2.2.toNat
theorem rows_sum (hp : Prop1 g) : ∀ (l : List Int) (i j : Nat), l ≠ [] → j ≤ w.length → ((rowsL (drv g w) l i j).map fun r => prodL (r.map (cntK g w))).sum = cntR g w l i j
  | [], _, _, h, _ => absurd rfl h
  | [s], i, j, _, hj => by
    rw [cnt_one, rowsL]
    have := drv_iff hp (s := s) (i := i) hj
    split
    · simp [prodL, cntK]
    · rename_i h
      have : ¬ 0 < cntS g w s i j := fun h0 => h (this.2 h0)
      simp
      omega
  | s :: t :: l, i, j, _, hj => by
    rw [rows_two, cnt_two, sum_flat, List.map_map]
    show sumTo _ _ = _
    refine sumTo_congr fun q hq => ?_
    have hd := drv_iff hp (s := s) (i := i) (j := q + (i + 1)) (show q + (i + 1) ≤ w.length by omega)
    have ih := rows_sum hp (t :: l) (q + (i + 1)) j (by simp) hj
    show ((if drv g w s i (q + (i + 1)) = true then _ else _ : List (List Key)).map _).sum = _
    split
    · rw [List.map_map]
      show ((rowsL (drv g w) (t :: l) (q + (i + 1)) j).map fun r => cntK g w (s, ((i : Int), ((q + (i + 1) : Nat) : Int))) * prodL (r.map (cntK g w))).sum = _
      rw [sum_mul', ih]
      unfold cntK
      simp only [Int.toNat_natCast]
    · rename_i h
      have h0 : cntS g w s i (q + (i + 1)) = 0 := by
        have : ¬ 0 < cntS g w s i (q + (i + 1)) := fun h0 => h (hd.2 h0)
        omega
      rw [h0]
      simp
theorem rows_small (hp : Prop1 g) : ∀ (l : List Int) (i j : Nat) (r : List Key), j ≤ w.length → r ∈ rowsL (drv g w) l i j → ∀ y ∈ r, (i : Int) ≤ y.2.1 ∧ y.2.1 < y.2.2 ∧ y.2.2 ≤ (j : Int) ∧ ((l.length ≠ 1) → y.2.2 - y.2.1 < (j : Int) - i) ∧ y.1 ∈ l
  | [], _, _, r, _, h => by simp [rowsL] at h
  | [s], i, j, r, hj, h => by
    rw [rowsL] at h
    split at h
    · rename_i hd
      rw [List.mem_singleton] at h
      subst h
      intro y hy
      rw [List.mem_singleton] at hy
      subst hy
      obtain ⟨a, ha⟩ := List.exists_mem_of_length_pos ((drv_iff hp hj).1 hd)
      have := sgn_lt hp _ _ _ _ _ ha
      exact ⟨by simp, by dsimp only; omega, by simp, fun h => absurd rfl h, by simp⟩
    · cases h
  | s :: t :: l, i, j, r, hj, h => by
    rw [rows_two] at h
    obtain ⟨e, he, h⟩ := List.mem_flatMap.1 h
    obtain ⟨q, hq, rfl⟩ := List.mem_map.1 he
    have hq' := List.mem_range.1 hq
    split at h
    · rename_i hd
      obtain ⟨r', hr', rfl⟩ := List.mem_map.1 h
      obtain ⟨a, ha⟩ := List.exists_mem_of_length_pos ((drv_iff hp (show q + (i + 1) ≤ w.length by omega)).1 hd)
      have := sgn_lt hp _ _ _ _ _ ha
      intro y hy
      rcases List.mem_cons.1 hy with rfl | hy
      · refine ⟨by simp, by dsimp only; omega, by dsimp only; omega, fun _ => by dsimp only; omega, by simp⟩
      · obtain ⟨h1, h2, h3, h4, h5⟩ := rows_small hp (t :: l) _ j r' hj hr' y hy
        refine ⟨by omega, h2, h3, fun _ => by omega, by simp only [List.mem_cons] at h5 ⊢; exact .inr h5⟩
    · cases h
theorem waysOf_sum (hg : GoodG g) (hp : Prop1 g) {s : Int} {i j : Nat} (hs : ¬ s < g.1) (hj : j ≤ w.length) : ((waysOf g w (s, ((i : Int), (j : Int)))).map fun x => prodL (x.2.map (cntK g w))).sum = cntS g w s i j := by
  rw [cnt_name hp hs hj]
  unfold waysOf
  rw [sum_flat]
  show sumTo _ _ = _
  refine sumTo_congr fun k hk => ?_
  unfold waysAt
  dsimp only
  simp only [Int.toNat_natCast]
  have hne := (hp _ (getD_mem (d := ((0 : Int), ([] : List Int))) hk)).1
  by_cases h : (g.2.2.2.getD k (0, [])).1 = s - g.1
  · rw [if_pos (show s = g.1 + (g.2.2.2.getD k (0, [])).1 by omega), if_pos h, List.map_map]
    exact rows_sum hp _ i j hne hj
  · rw [if_neg (show ¬ s = g.1 + (g.2.2.2.getD k (0, [])).1 by omega), if_neg h]
    rfl
def rkF (g : Gr) (S : List Key) (i : Nat) : Nat := 2 * ((S.getD i z3).2.2 - (S.getD i z3).2.1).toNat + if (S.getD i z3).1 < g.1 then 0 else 1
theorem rows_le (hg : GoodG g) (hw : GoodW g.1 w) (hF : ForOk g w root S num out) {key : Key} (hk : key ∈ S) {rows : List (List Int)} (h : rows.Perm ((waysOf g w key).map fun x => x.1 :: x.2.map num)) : rows.length ≤ 300000 := by
  have hwl : (waysOf g w key).length ≤ 285610 := by
    unfold waysOf
    have := flat_le (f := waysAt g w key) (c := 28561) (List.range g.2.2.2.length) fun x hx => waysAt_few hg hw (hF.ok _ hk) x (List.mem_range.1 hx)
    rw [List.length_range] at this
    exact Nat.le_trans this (Nat.mul_le_mul_right _ hg.few)
  rw [h.length_eq, List.length_map]
  omega
theorem sound_of (hg : GoodG g) (hw : GoodW g.1 w) (hp : Prop1 g) (hF : ForOk g w root S num out) : SoundT (out, num root) (rkF g S) where
  few := by have := hF.few; have := hF.len; dsimp only; omega
  root := by
    obtain ⟨q, hq, e, _⟩ := hF.find hF.root
    have := hF.len
    dsimp only
    rw [e]
    omega
  kid := by
    intro i hi a ha k hk
    have hl := hF.len
    dsimp only at hi
    have hiS : i < S.length := by omega
    obtain ⟨rows, hspot, hrows⟩ := hF.spot i hiS
    have ha' : a ∈ rows := by
      have : waysI (out, num root) i = rows := by show (out.getD i zS).2.2.2 = rows; rw [hspot]
      rw [this] at ha
      exact ha
    obtain ⟨v, r, i0, j0, hv, hsign, hrange, rfl, hr, hrS⟩ := way_ok (e := 0) hg hp hF hiS hrows ha'
    have hkS : S.getD i z3 ∈ S := getD_mem hiS
    obtain ⟨_, i1, j1, e1, hij, hj1, _⟩ := hF.ok _ hkS
    rw [hrange] at e1
    injection e1 with e2 e3
    rw [List.drop_succ_cons, List.drop_zero] at hk
    obtain ⟨y, hy, rfl⟩ := List.mem_map.1 hk
    obtain ⟨q, hq, e, e4, _⟩ := hF.find (hrS y hy)
    have hmem : g.2.2.2.getD v (0, []) ∈ g.2.2.2 := getD_mem hv
    obtain ⟨p1, p2, p3, p4, p5⟩ := rows_small hp _ i0 j0 r (by omega) hr y hy
    refine ⟨by omega, by dsimp only; omega, ?_⟩
    rw [e, Int.toNat_natCast]
    unfold rkF
    rw [e4, hrange, hsign]
    have hleft := hg.left _ hmem
    dsimp only
    rw [if_neg (show ¬ g.1 + (g.2.2.2.getD v (0, [])).1 < g.1 by omega)]
    by_cases h1 : (g.2.2.2.getD v (0, [])).2.length = 1
    · obtain ⟨s, hs⟩ := List.length_eq_one_iff.1 h1
      have h2 := (hp _ hmem).2 s hs
      rw [hs, List.mem_singleton] at p5
      rw [if_pos (by rw [p5]; exact h2)]
      omega
    · have h2 := p4 h1
      split <;> omega
  many := by
    intro i hi
    have hl := hF.len
    dsimp only at hi
    have hiS : i < S.length := by omega
    obtain ⟨rows, hspot, hrows⟩ := hF.spot i hiS
    show (out.getD i zS).2.2.2.length ≤ 300000
    rw [hspot]
    exact rows_le hg hw hF (getD_mem hiS) hrows
  long := by
    intro i hi a ha
    have hl := hF.len
    dsimp only at hi
    have hiS : i < S.length := by omega
    obtain ⟨rows, hspot, hrows⟩ := hF.spot i hiS
    have ha' : a ∈ rows := by
      have : waysI (out, num root) i = rows := by show (out.getD i zS).2.2.2 = rows; rw [hspot]
      rw [this] at ha
      exact ha
    obtain ⟨v, r, i0, j0, hv, hsign, hrange, rfl, hr, hrS⟩ := way_ok (e := 0) hg hp hF hiS hrows ha'
    have := rows_len _ _ _ _ hr
    have := hg.short _ (getD_mem (d := ((0 : Int), ([] : List Int))) hv)
    refine ⟨by simp, ?_⟩
    rw [List.length_cons, List.length_map]
    omega
theorem counts_of (hg : GoodG g) (hp : Prop1 g) (hF : ForOk g w root S num out) : Counts (out, num root) fun i => cntK g w (S.getD i z3) := by
  intro i hi
  have hl := hF.len
  dsimp only at hi
  have hiS : i < S.length := by omega
  obtain ⟨rows, hspot, hrows⟩ := hF.spot i hiS
  have hWr : waysI (out, num root) i = rows := by show (out.getD i zS).2.2.2 = rows; rw [hspot]
  rw [hWr]
  obtain ⟨key, hkey⟩ : ∃ key, S.getD i z3 = key := ⟨_, rfl⟩
  have hkS : key ∈ S := by rw [← hkey]; exact getD_mem hiS
  have hway := fun a ha => way_ok (e := 0) hg hp hF hiS hrows (a := a) ha
  rw [hkey] at hrows hway
  show cntK g w (S.getD i z3) = _
  rw [hkey]
  obtain ⟨hk1, i1, j1, e1, hij, hj1, hd⟩ := hF.ok _ hkS
  have hck : cntK g w key = cntS g w key.1 i1 j1 := by
    unfold cntK
    rw [e1]
    simp only [Int.toNat_natCast]
  have hpos := (drv_iff hp hj1).1 hd
  by_cases hs : key.1 < g.1
  · have hr0 : rows = [] := by
      have h1 := hrows.length_eq
      rw [ways_sym hg hs, List.map_nil] at h1
      exact List.length_eq_zero_iff.1 h1
    rw [if_pos hr0, hck]
    rw [cnt_sym hs] at hpos ⊢
    split at hpos
    · rename_i h; rw [if_pos h]
    · omega
  · have hr0 : rows ≠ [] := by
      intro e
      have h1 := hrows.length_eq
      rw [e, List.length_map] at h1
      exact ways_pos hp (hF.ok _ hkS) hs (List.length_eq_zero_iff.1 h1.symm)
    rw [if_neg hr0]
    refine Eq.trans ?_ (sumTo_list ([] : List Int) (wayN fun i => cntK g w (S.getD i z3)) rows).symm
    rw [(hrows.map _).sum_nat, List.map_map, hck, ← waysOf_sum hg hp hs hj1]
    have e5 : key = (key.1, ((i1 : Int), (j1 : Int))) := Prod.ext rfl e1
    rw [← e5]
    congr 1
    refine List.map_congr_left fun x hx => ?_
    show prodL (x.2.map (cntK g w)) = wayN _ (x.1 :: x.2.map num)
    rw [wayN_eq, List.drop_succ_cons, List.drop_zero, List.map_map]
    congr 1
    refine List.map_congr_left fun y hy => ?_
    have hyS : y ∈ S := hF.shut _ hkS y (List.mem_flatMap.2 ⟨x, hx, hy⟩)
    obtain ⟨q, hq, e, e4, _⟩ := hF.find hyS
    show cntK g w y = cntK g w (S.getD (num y).toNat z3)
    rw [e, Int.toNat_natCast, e4]
theorem root_cnt (hF : ForOk g w (rootK g w) S num out) : cntK g w (S.getD (num (rootK g w)).toNat z3) = cntW g w := by
  obtain ⟨q, hq, e, e4, _⟩ := hF.find hF.root
  rw [e, Int.toNat_natCast, e4]
  unfold cntK
  simp
end
end Dec
namespace Dec
open Go Go.Proofs Cfg
theorem thicketCount (g : Gr) (w : List Int) : VC4 g w (fun b => b = true) := by
  unfold VC4
  refine VC6_of (fun e he hno => ?_) (fun hall hz => ?_) (fun hall hpos => ?_) (fun hall hpos S num out hF => ?_)
  · refine VC9_of (fun e2 he2 _ => ?_) (fun h => absurd h hno) (fun h => absurd h hno)
    refine VC7_of (fun _ => ⟨fun _ => by simp [he, he2], fun h => (by simp at h)⟩) (fun h => absurd h hno)
  · refine VC9_of (fun _ _ h => absurd hall h) (fun _ hb => absurd hb (by omega)) (fun _ _ => ?_)
    refine VC7_of (fun h => absurd hall h) (fun _ v hv => ?_)
    have : v = 0 := by unfold CapV at hv; omega
    subst this
    exact ⟨fun _ => by simp, fun h => (by simp at h)⟩
  · refine VC9_of (fun _ _ h => absurd hall h) (fun _ _ => ?_) (fun _ _ => ?_)
    all_goals
      refine VC7_of (fun h => absurd hall h) (fun _ v hv => ?_)
      have hne : v ≠ 0 := by unfold CapV at hv; omega
      refine ⟨fun h => ?_, fun _ => ⟨fun _ => by simp, fun h => (by simp at h)⟩⟩
      simp at h
      exact absurd h hne
  · obtain ⟨hg, hw, hp⟩ := hall
    have hs := sound_of hg hw hp hF
    have hc := counts_of hg hp hF
    have hr := root_cnt hF
    refine VC9_of (fun _ _ h => absurd ⟨hg, hw, hp⟩ h) (fun _ hb => ?_) (fun _ hle => ?_)
    · refine VC7_of (fun h => absurd ⟨hg, hw, hp⟩ h) (fun _ v hv => ?_)
      have hne : v ≠ 0 := by unfold CapV at hv; omega
      refine ⟨fun h => ?_, fun _ => ⟨fun h => (by simp at h), fun _ => VC10_of hs hc (fun _ => by simp) (fun h => ?_)⟩⟩
      · simp at h
        exact absurd h hne
      · exfalso
        rw [hr] at h
        omega
    · refine VC7_of (fun h => absurd ⟨hg, hw, hp⟩ h) (fun _ v hv => ?_)
      have hne : v ≠ 0 := by unfold CapV at hv; omega
      have hvc : v = (cntW g w : Int) := by unfold CapV at hv; omega
      refine ⟨fun h => ?_, fun _ => ⟨fun h => (by simp at h), fun _ => VC10_of hs hc (fun h => ?_) (fun _ => ?_)⟩⟩
      · simp at h
        exact absurd h hne
      · exfalso
        rw [hr] at h
        omega
      · simp only [hr, hvc]
        simp
end Dec
