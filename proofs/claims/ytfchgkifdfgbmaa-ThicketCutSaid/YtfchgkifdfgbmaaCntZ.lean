/-
Counter.Row counts trees, up to a bound (plain).
-/
import Derived.Test.YtfchgkifdfgbmaaLawZ
import Derived.Test.YtfchgkifdfgbmaaLibZ
set_option linter.unusedSimpArgs false
set_option linter.unusedVariables false
namespace Dec
open Go Go.Proofs Cfg
theorem VC25_cap {a b : Int} {m n : Nat} (ha : CapV a m) (hb : CapV b n) {K : Int → Prop} (h : ∀ v, CapV v (m + n) → K v) : VC25 a b K := by
 unfold CapV at *
 unfold VC25 InR imin
 refine ⟨by omega, h _ ?_⟩
 omega
theorem VC24_cap {a b : Int} {m n : Nat} (ha : CapV a m) (hb : CapV b n) {K : Int → Prop} (h : ∀ v, CapV v (m * n) → K v) : VC24 a b K := by
 have ha0 : 0 ≤ a := by unfold CapV at ha; omega
 have hb0 : 0 ≤ b := by unfold CapV at hb; omega
 unfold VC24 InR imin
 refine ⟨fun hz => h _ ?_, fun hz => ⟨⟨by omega, ?_⟩, fun hlt => h _ ?_, fun hge => ?_⟩⟩
 ·simp only [Bool.or_eq_true, decide_eq_true_eq] at hz
  unfold CapV at *
  have : m = 0 ∨ n = 0 := by omega
  rcases this with e | e <;> subst e <;> simp <;> omega
 ·simp only [Bool.or_eq_false_iff, decide_eq_false_iff_not] at hz
  omega
 ·simp only [Bool.or_eq_false_iff, decide_eq_false_iff_not] at hz
  simp only [decide_eq_true_eq] at hlt
  exact (mul_cap ha hb (by omega) (by omega)).1 hlt
 ·simp only [Bool.or_eq_false_iff, decide_eq_false_iff_not] at hz
  simp only [decide_eq_false_iff_not] at hge
  obtain ⟨h1, h2⟩ := (mul_cap ha hb (by omega) (by omega)).2 hge
  have h3 : 0 < a * b := Int.mul_pos (by omega) (by omega)
  refine ⟨⟨by omega, by omega⟩, h _ ?_⟩
  rw [Int.min_eq_left h1]
  exact h2
end Dec
namespace Dec
open Go Go.Proofs Cfg
section
variable {g : Gr} {w : List Int}
def MeanC (g : Gr) (w : List Int) (c x i j : Int) : Nat := if c = -1 then cntS g w x i.toNat j.toNat else cntR g w ((g.2.2.2.getD c.toNat (0, [])).2.drop x.toNat) i.toNat j.toNat
def KnOk (g : Gr) (w : List Int) (kn : Kn) : Prop := ∀ c x i j v, mget kn (c, (x, (i, j))) = some v → CapV v (MeanC g w c x i j)
theorem knOk_nil : KnOk g w [] := by intro c x i j v h; cases h
theorem knOk_mset {kn : Kn} (h : KnOk g w kn) {c x i j v : Int} (hv : CapV v (MeanC g w c x i j)) : KnOk g w (mset kn (c, (x, (i, j))) v) := by
 intro c' x' i' j' v' h'
 rw [mget_mset] at h'
 split at h'
 ·rename_i e
  cases e
  cases h'
  exact hv
 ·exact h c' x' i' j' v' h'
theorem sign_loop (hp : Prop1 g) {s : Int} {i j : Nat} (hs : ¬ s < g.1) (hj : j ≤ w.length) {kn0 : Kn} (h0 : KnOk g w kn0) {B : Int × Int × Kn → (Int × Int × Kn → Prop) → Prop}
  (step : ∀ (n : Int) (v : Nat) (kn : Kn) (X : Int × Int × Kn → Prop), v < g.2.2.2.length → KnOk g w kn → ((g.2.2.2.getD v (0, [])).1 = s - g.1 → (∀ r kn', KnOk g w kn' → CapV r (cntR g w (g.2.2.2.getD v (0, [])).2 i j) → VC25 n r (fun n' => X (n', (v : Int) + 1, kn')))) → ((g.2.2.2.getD v (0, [])).1 ≠ s - g.1 → X (n, (v : Int) + 1, kn)) → B (n, (v : Int), kn) X)
  (stop : ∀ (n : Int) (kn : Kn) (X : Int × Int × Kn → Prop), KnOk g w kn → CapV n (cntS g w s i j) → B (n, (g.2.2.2.length : Int), kn) X) : Loop B (0, 0, kn0) := by
 refine Loop.by (fun t => ∃ v : Nat, t.2.1 = (v : Int) ∧ v ≤ g.2.2.2.length ∧ KnOk g w t.2.2 ∧ CapV t.1 (sumTo (fun k => if (g.2.2.2.getD k (0, [])).1 = s - g.1 then cntR g w (g.2.2.2.getD k (0, [])).2 i j else 0) v)) (fun t => ((g.2.2.2.length : Int) - t.2.1).toNat) ⟨0, rfl, by omega, h0, capV_zero⟩ ?_
 rintro ⟨n, v', kn⟩ ⟨v, e, hv, hk, hn⟩ X hX
 dsimp only at e hk hn hX
 subst e
 by_cases hlt : v < g.2.2.2.length
 ·refine step n v kn X hlt hk (fun hname r kn' hk' hr => VC25_cap hn hr fun v' hv' => hX _ ⟨v + 1, by simp, by omega, hk', ?_⟩ (by dsimp only; omega)) (fun hname => hX _ ⟨v + 1, by simp, by omega, hk, ?_⟩ (by dsimp only; omega))
  ·rw [sumTo_succ, if_pos hname]; exact hv'
  ·rw [sumTo_succ, if_neg hname]; exact hn
 ·have e : v = g.2.2.2.length := by omega
  subst e
  exact stop n kn X hk (by rw [cnt_name hp hs hj]; exact hn)
theorem mean_sign {s : Int} {i j : Nat} : MeanC g w (-1) s (i : Int) (j : Int) = cntS g w s i j := by
 unfold MeanC
 rw [if_pos rfl, Int.toNat_natCast, Int.toNat_natCast]
theorem mean_row {c r i j : Nat} : MeanC g w (c : Int) (r : Int) (i : Int) (j : Int) = cntR g w ((g.2.2.2.getD c (0, [])).2.drop r) i j := by
 unfold MeanC
 rw [if_neg (by omega)]
 simp only [Int.toNat_natCast]
set_option maxHeartbeats 4000000 in
theorem row_of (hg : GoodG g) (hw : GoodW g.1 w) (hp : Prop1 g) : ∀ (f : Nat) (c rule i j : Nat) (kn : Kn) (K : Int × Kn → Prop), 2 * (j - i) + (if rule = 0 then 0 else 1) < f → c < g.2.2.2.length → rule < (g.2.2.2.getD c (0, [])).2.length → i ≤ j → j ≤ w.length → KnOk g w kn →
  (∀ v kn', KnOk g w kn' → CapV v (cntR g w ((g.2.2.2.getD c (0, [])).2.drop rule) i j) → K (v, kn')) → VCc66_it g.1 g.2.1 g.2.2.1 g.2.2.2 w f (c : Int) (rule : Int) (i : Int) (j : Int) kn K := by
 intro f
 induction f with
 | zero => intro c rule i j kn K h; omega
 | succ f ih =>
  intro c rule i j kn K hf hc hr hij hj hk hK
  have hk3 := hg.k
  have hn5 := hg.n
  have hfew := hg.few
  have hw12 := hw.1
  have hmem : g.2.2.2.getD c (0, []) ∈ g.2.2.2 := getD_mem hc
  have hshort := hg.short _ hmem
  have hright := hg.right _ hmem
  have hcp := hp _ hmem
  show VCc66 g.1 g.2.1 g.2.2.1 g.2.2.2 w (VCc66_it g.1 g.2.1 g.2.2.1 g.2.2.2 w f) (c : Int) (rule : Int) (i : Int) (j : Int) kn K
  unfold VCc66
  simp only [Int.toNat_natCast]
  have hdrop1 : (g.2.2.2.getD c (0, [])).2.drop (rule + 1) = ((g.2.2.2.getD c (0, [])).2.drop rule).drop 1 := by rw [List.drop_drop]
  have hlt : ((g.2.2.2.getD c (0, [])).2.drop rule).length = (g.2.2.2.getD c (0, [])).2.length - rule := List.length_drop
  have hsub : ∀ s ∈ (g.2.2.2.getD c (0, [])).2.drop rule, 0 ≤ s ∧ s < g.1 + g.2.1 := fun s hs => hright s (List.mem_of_mem_drop hs)
  have hlone : rule = 0 → ∀ s, (g.2.2.2.getD c (0, [])).2.drop rule = [s] → s < g.1 := by
   intro e s h
   rw [e, List.drop_zero] at h
   exact hcp.2 s h
  refine ⟨⟨by omega, by omega⟩, ⟨by omega, by omega⟩, by unfold InR; omega, fun hshorter => ?_, fun hlong => ?_⟩
  ·simp only [decide_eq_true_eq] at hshorter
   refine hK 0 kn hk ?_
   rw [cnt_short hp (by omega)]
   exact capV_zero
  simp only [decide_eq_false_iff_not] at hlong
  obtain ⟨t, ht⟩ : ∃ t, (g.2.2.2.getD c (0, [])).2.drop rule = t := ⟨_, rfl⟩
  rw [ht] at hdrop1 hlt hsub hlone hK hlong
  simp only [ht]
  cases t with
  | nil => simp only [List.length_nil] at hlt; omega
  | cons s l =>
  simp only [Int.toNat_zero, List.getD_cons_zero]
  simp only [List.drop_succ_cons, List.drop_zero] at hdrop1
  have hsr := hsub s (List.mem_cons_self)
  refine ⟨fun hone => ?_, fun hmany => ?_⟩
  ·simp only [decide_eq_true_eq] at hone
   have hl : l = [] := by
    cases l with
    | nil => rfl
    | cons a b => simp only [List.length_cons] at hone; omega
   subst hl
   refine ⟨⟨by omega, by simp⟩, fun hsym => ?_, fun hname => ?_⟩
   ·simp only [decide_eq_true_eq] at hsym
    refine ⟨by unfold InR; omega, fun he => ?_, ?_⟩
    ·simp only [decide_eq_true_eq] at he
     exact ⟨by omega, by omega⟩
    ·exact sym_ok (P := fun v => VCc66_k1 K v kn) hsym (by omega) (fun v hv => hK v kn hk (by rw [cnt_one]; exact hv))
   ·simp only [decide_eq_false_iff_not] at hname
    have hr0 : rule ≠ 0 := fun e => hname (hlone e s rfl)
    rw [if_neg hr0] at hf
    refine ⟨fun hsome => ?_, fun hnone => ?_⟩
    ·obtain ⟨v, hv⟩ := Option.isSome_iff_exists.1 hsome
     rw [hv]
     have := hk _ _ _ _ _ hv
     rw [mean_sign] at this
     exact hK v kn hk (by rw [cnt_one]; exact this)
    ·refine sign_loop (w := w) hp (s := s) (i := i) (j := j) hname hj hk ?_ ?_
     ·intro n v kn X hv hk' hhit hmiss
      dsimp only
      unfold VCc66_l1
      simp only [Int.toNat_natCast]
      simp only [ht, Int.toNat_zero, List.getD_cons_zero]
      refine ⟨fun hb => ⟨⟨by omega, by omega⟩, by unfold InR; omega, fun he => ?_, fun hne => ?_⟩, fun hb => ?_⟩
      ·simp only [decide_eq_true_eq] at he
       have hvm : g.2.2.2.getD v (0, []) ∈ g.2.2.2 := getD_mem hv
       have hne := (hp _ hvm).1
       refine ih v 0 i j kn _ (by rw [if_pos rfl]; omega) hv (List.length_pos_iff.2 hne) hij hj hk' (fun r kn' hk'' hr' => ?_)
       rw [List.drop_zero] at hr'
       have := hhit he r kn' hk'' hr'
       exact ⟨this.1, by unfold InR; omega, this.2⟩
      ·simp only [decide_eq_false_iff_not] at hne
       exact ⟨by unfold InR; omega, hmiss hne⟩
      ·simp only [decide_eq_false_iff_not] at hb
       omega
     ·intro n kn X hk' hn
      dsimp only
      unfold VCc66_l1
      simp only [Int.toNat_natCast]
      refine ⟨fun hb => ?_, fun _ => ?_⟩
      ·simp only [decide_eq_true_eq] at hb
       omega
      ·unfold VCc66_k2 VCc66_k1
       simp only [Int.toNat_natCast]
       simp only [ht, Int.toNat_zero, List.getD_cons_zero]
       exact hK n _ (knOk_mset hk' (by rw [mean_sign]; exact hn)) (by rw [cnt_one]; exact hn)
  ·simp only [decide_eq_false_iff_not] at hmany
   have hl1 : 1 ≤ l.length := by
    cases l with
    | nil => exact absurd rfl hmany
    | cons a b => simp
   have hlen : (s :: l).length = l.length + 1 := rfl
   refine ⟨fun hsome => ?_, fun hnone => ⟨by unfold InR; omega, ?_⟩⟩
   ·obtain ⟨v, hv⟩ := Option.isSome_iff_exists.1 hsome
    rw [hv]
    have := hk _ _ _ _ _ hv
    rw [mean_row, ht] at this
    exact hK v kn hk this
   ·cases l with
    | nil => simp at hl1
    | cons t l =>
    refine Loop.by (fun q => ∃ e : Nat, q.2.1 = (e : Int) ∧ i + 1 ≤ e ∧ e ≤ j ∧ KnOk g w q.2.2 ∧ CapV q.1 (sumTo (fun q => cntS g w s i (q + (i + 1)) * cntR g w (t :: l) (q + (i + 1)) j) (e - (i + 1)))) (fun q => ((j : Int) - q.2.1).toNat) ⟨i + 1, by simp, by omega, by simp only [List.length_cons] at hlong; omega, hk, by rw [Nat.sub_self]; exact capV_zero⟩ ?_
    rintro ⟨n, e', kn1⟩ ⟨e, he, hie, hej, hk1, hn⟩ X hX
    dsimp only at he hk1 hn hX
    subst he
    dsimp only
    have hk6 : ∀ (n' : Int) (kn' : Kn), e < j → KnOk g w kn' → CapV n' (sumTo (fun q => cntS g w s i (q + (i + 1)) * cntR g w (t :: l) (q + (i + 1)) j) (e - (i + 1)) + cntS g w s i e * cntR g w (t :: l) e j) → VCc66_k6 (e : Int) X n' kn' := by
     intro n' kn' hlt hk' hn'
     unfold VCc66_k6
     refine ⟨by unfold InR; omega, hX _ ⟨e + 1, by simp, by omega, by omega, hk', ?_⟩ (by dsimp only; omega)⟩
     rw [show e + 1 - (i + 1) = (e - (i + 1)) + 1 by omega, sumTo_succ, show e - (i + 1) + (i + 1) = e by omega]
     exact hn'
    have hk5 : ∀ (v6 : Int) (kn' : Kn), e < j → KnOk g w kn' → CapV v6 (cntS g w s i e) → VCc66_k5 (VCc66_it g.1 g.2.1 g.2.2.1 g.2.2.2 w f) (c : Int) (rule : Int) (j : Int) n (e : Int) X v6 kn' := by
     intro v6 kn' hlt hk' hv6
     unfold VCc66_k5
     refine ⟨fun hpos => ⟨by unfold InR; omega, ?_⟩, fun hz => ?_⟩
     ·refine ih c (rule + 1) e j kn' _ (by rw [if_neg (by omega)]; split at hf <;> omega) hc (by have h9 : (s :: t :: l).length = (g.2.2.2.getD c (0, [])).2.length - rule := (by rw [← ht, List.length_drop]); simp only [List.length_cons] at h9; omega) hej hj hk' (fun r kn'' hk'' hr' => ?_)
      rw [hdrop1] at hr'
      refine VC24_cap hv6 hr' fun v hv => ?_
      exact VC25_cap hn hv fun v' hv' => hk6 v' kn'' hlt hk'' hv'
     ·simp only [decide_eq_false_iff_not] at hz
      have h0 : cntS g w s i e = 0 := by unfold CapV at hv6; omega
      refine hk6 n kn' hlt hk' ?_
      rw [h0, Nat.zero_mul, Nat.add_zero]
      exact hn
    unfold VCc66_l2
    simp only [Int.toNat_natCast]
    simp only [ht, Int.toNat_zero, List.getD_cons_zero]
    refine ⟨fun hb => ⟨⟨by omega, by simp only [List.length_cons]; omega⟩, fun hsym => ?_, fun hname => ?_⟩, fun hb => ?_⟩
    ·simp only [decide_eq_true_eq] at hsym hb
     refine ⟨by unfold InR; omega, fun he => ?_, ?_⟩
     ·simp only [decide_eq_true_eq] at he
      exact ⟨by omega, by omega⟩
     ·exact sym_ok (P := fun v => VCc66_k5 (VCc66_it g.1 g.2.1 g.2.2.1 g.2.2.2 w f) (c : Int) (rule : Int) (j : Int) n (e : Int) X v kn1) hsym (by omega) (fun v hv => hk5 v kn1 (by omega) hk1 hv)
    ·simp only [decide_eq_false_iff_not] at hname
     simp only [decide_eq_true_eq] at hb
     refine ⟨fun hsome => ?_, fun hnone => ?_⟩
     ·obtain ⟨v, hv⟩ := Option.isSome_iff_exists.1 hsome
      rw [hv]
      have := hk1 _ _ _ _ _ hv
      rw [mean_sign] at this
      exact hk5 v kn1 (by omega) hk1 this
     ·refine sign_loop (w := w) hp (s := s) (i := i) (j := e) hname (by omega) hk1 ?_ ?_
      ·intro n2 v kn2 X3 hv hk' hhit hmiss
       dsimp only
       unfold VCc66_l3
       simp only [Int.toNat_natCast]
       simp only [ht, Int.toNat_zero, List.getD_cons_zero]
       refine ⟨fun hb => ⟨⟨by omega, by omega⟩, by unfold InR; omega, fun he => ?_, fun hne => ?_⟩, fun hb => ?_⟩
       ·simp only [decide_eq_true_eq] at he
        have hvm : g.2.2.2.getD v (0, []) ∈ g.2.2.2 := getD_mem hv
        have hne := (hp _ hvm).1
        refine ih v 0 i e kn2 _ (by rw [if_pos rfl]; omega) hv (List.length_pos_iff.2 hne) (by omega) (by omega) hk' (fun r kn' hk'' hr' => ?_)
        rw [List.drop_zero] at hr'
        have := hhit he r kn' hk'' hr'
        exact ⟨this.1, by unfold InR; omega, this.2⟩
       ·simp only [decide_eq_false_iff_not] at hne
        exact ⟨by unfold InR; omega, hmiss hne⟩
       ·simp only [decide_eq_false_iff_not] at hb
        omega
      ·intro n2 kn2 X3 hk' hn2
       dsimp only
       unfold VCc66_l3
       simp only [Int.toNat_natCast]
       refine ⟨fun hb => ?_, fun _ => ?_⟩
       ·simp only [decide_eq_true_eq] at hb
        omega
       ·unfold VCc66_k7
        simp only [Int.toNat_natCast]
        simp only [ht, Int.toNat_zero, List.getD_cons_zero]
        exact hk5 n2 _ (by omega) (knOk_mset hk' (by rw [mean_sign]; exact hn2)) hn2
    ·simp only [decide_eq_false_iff_not] at hb
     have ej : e = j := by omega
     subst ej
     unfold VCc66_k4
     have hfin : CapV n (cntR g w (s :: t :: l) i e) := by
      rw [cnt_two]
      exact hn
     exact hK n _ (knOk_mset hk1 (by rw [mean_row, ht]; exact hfin)) hfin
theorem VC9_all (hg : GoodG g) (hw : GoodW g.1 w) (hp : Prop1 g) {K : Int × Int → Prop} (hbig : 1099511627776 < (cntW g w : Int) → K (0, 1)) (hin : (cntW g w : Int) ≤ 1099511627776 → K ((cntW g w : Int), 0)) : VC9 g w K := by
 unfold VC9
 refine VC12_of (fun e he hng => absurd ⟨hg, hw⟩ hng) (fun _ _ => ⟨fun h0 => (by simp at h0), fun _ => VC13_of hg fun b hb => ?_⟩)
 rw [hb.2 hp]
 refine ⟨fun h => (by cases h), fun _ => ?_⟩
 have hk := hg.k
 have hn := hg.n
 have hst := hg.start
 have hfew := hg.few
 have hw12 := hw.1
 have hs : ¬ g.1 + g.2.2.1 < g.1 := by omega
 refine ⟨by unfold InR; omega, fun hc => ?_, fun _ => ⟨fun hsome => ?_, fun _ => ?_⟩⟩
 ·simp only [decide_eq_true_eq] at hc
  omega
 ·cases hsome
 ·refine sign_loop (w := w) hp (s := g.1 + g.2.2.1) (i := 0) (j := w.length) hs (Nat.le_refl _) knOk_nil ?_ ?_
  ·intro n v kn X hv hk' hhit hmiss
   dsimp only
   unfold VC9_l1 VC9_k4
   simp only [Int.toNat_natCast]
   refine ⟨fun hb => ⟨⟨by omega, by omega⟩, by unfold InR; omega, fun he => ?_, fun hne => ?_⟩, fun hb => ?_⟩
   ·simp only [decide_eq_true_eq] at he
    have hvm : g.2.2.2.getD v (0, []) ∈ g.2.2.2 := getD_mem hv
    have hne := (hp _ hvm).1
    refine ⟨2 * w.length + 1, row_of hg hw hp _ v 0 0 w.length kn _ (by rw [if_pos rfl]; omega) hv (List.length_pos_iff.2 hne) (by omega) (by omega) hk' (fun r kn' hk'' hr' => ?_)⟩
    rw [List.drop_zero] at hr'
    have := hhit he r kn' hk'' hr'
    exact ⟨this.1, by unfold InR; omega, this.2⟩
   ·simp only [decide_eq_false_iff_not] at hne
    exact ⟨by unfold InR; omega, hmiss hne⟩
   ·simp only [decide_eq_false_iff_not] at hb
    omega
  ·intro n kn X hk' hn''
   have hn' : CapV n (cntW g w) := hn''
   dsimp only
   unfold VC9_l1
   simp only [Int.toNat_natCast]
   refine ⟨fun hb => ?_, fun _ => ?_⟩
   ·simp only [decide_eq_true_eq] at hb
    omega
   ·unfold VC9_k3 VC9_k2
    refine ⟨fun hc => ?_, fun hc => ?_⟩
    ·simp only [decide_eq_true_eq] at hc
     unfold VC9_k1
     exact hbig (by unfold CapV at hn'; omega)
    ·simp only [decide_eq_false_iff_not] at hc
     have hcn : n = (cntW g w : Int) := by unfold CapV at hn'; omega
     rw [hcn]
     exact hin (by omega)
theorem VC9_of {K : Int × Int → Prop} (hbad : ∀ e, e ≠ 0 → ¬ All g w → K (0, e)) (hbig : All g w → 1099511627776 < (cntW g w : Int) → K (0, 1)) (hin : All g w → (cntW g w : Int) ≤ 1099511627776 → K ((cntW g w : Int), 0)) : VC9 g w K := by
 by_cases h : All g w
 ·exact VC9_all h.1 h.2.1 h.2.2 (hbig h) (hin h)
 unfold VC9
 refine VC12_of (fun e he hng => ⟨fun _ => hbad e he h, fun h0 => ?_⟩) (fun hg hw => ⟨fun h0 => (by simp at h0), fun _ => VC13_of hg fun b hb => ?_⟩)
 ·simp at h0
  exact absurd h0 he
 have hb0 : b = false := by
  cases b with
  | false => rfl
  | true => exact absurd ⟨hg, hw, hb.1 rfl⟩ h
 subst hb0
 exact ⟨fun _ => hbad 3 (by decide) h, fun h0 => (by cases h0)⟩
end
end Dec
namespace Dec
open Go Go.Proofs
abbrev Th := List Sp × Int
abbrev waysI (t : Th) (i : Nat) : List (List Int) := (t.1.getD i zS).2.2.2
def kidsI (t : Th) (i : Nat) : List Int := (waysI t i).flatMap (·.drop 1)
structure SoundT (t : Th) (rk : Nat → Nat) : Prop where
 few : t.1.length ≤ 200
 root : 0 ≤ t.2 ∧ t.2 < t.1.length
 kid : ∀ i, i < t.1.length → ∀ w ∈ waysI t i, ∀ k ∈ w.drop 1, 0 ≤ k ∧ k < t.1.length ∧ rk k.toNat < rk i
 many : ∀ i, i < t.1.length → (waysI t i).length ≤ 300000
 long : ∀ i, i < t.1.length → ∀ w ∈ waysI t i, w ≠ [] ∧ w.length ≤ 5
structure Vis (t : Th) (st out : List Int) : Prop where
 len : st.length = t.1.length
 vals : ∀ x, x < t.1.length → st.getD x 0 = 0 ∨ st.getD x 0 = 1 ∨ st.getD x 0 = 2
 done : ∀ x : Nat, x < t.1.length → (st.getD x 0 = 2 ↔ (x : Int) ∈ out)
 rng : ∀ y ∈ out, 0 ≤ y ∧ y < t.1.length
 nd : out.Nodup
 top : ∀ k, k < out.length → ∀ y ∈ kidsI t (out.getD k 0).toNat, y ∈ out.take k
theorem getD_set2 {l : List Int} {i j : Nat} {v : Int} (hi : i < l.length) : (l.set i v).getD j 0 = if j = i then v else l.getD j 0 := by
 rw [List.getD_eq_getElem?_getD, List.getElem?_set, List.getD_eq_getElem?_getD]
 by_cases h : i = j
 ·subst h; simp [hi]
 ·have h2 : ¬ j = i := fun e => h e.symm
  rw [if_neg h, if_neg h2]
theorem Vis.few {t : Th} {st out : List Int} (h : Vis t st out) : out.length ≤ t.1.length := by
 have := nodup_le' h.nd (b := (List.range t.1.length).map fun (x : Nat) => (x : Int)) fun x hx => by
  obtain ⟨h0, h1⟩ := h.rng x hx
  obtain ⟨m, rfl⟩ := Int.eq_ofNat_of_zero_le h0
  exact List.mem_map.2 ⟨m, List.mem_range.2 (by omega), rfl⟩
 simpa using this
theorem VCc47_it_succ {t : Th} {f : Nat} {i : Int} {a b : List Int} {K : Bool × List Int × List Int → Prop} : VCc47_it t (f + 1) i a b K = VCc47 t (VCc47_it t f) i a b K := rfl
set_option maxHeartbeats 1000000 in
theorem visit_of {t : Th} {rk : Nat → Nat} (hs : SoundT t rk) : ∀ (f i : Nat) (st out : List Int) (K : Bool × List Int × List Int → Prop), rk i < f → i < t.1.length → Vis t st out → (∀ x, x < t.1.length → st.getD x 0 = 1 → rk i < rk x) →
  (∀ st' ext, Vis t st' (out ++ ext) → (∀ x, x < t.1.length → (st'.getD x 0 = 1 ↔ st.getD x 0 = 1)) → st'.getD i 0 = 2 → K (true, st', out ++ ext)) → VCc47_it t f (i : Int) st out K
 | 0, _, _, _, _, hf, _, _, _, _ => absurd hf (by omega)
 | f + 1, i, st, out, K, hf, hi, hV, h1, hK => by
  rw [VCc47_it_succ]
  unfold VCc47
  have hfew := hs.few
  have hVl := hV.len
  have hil : inIdx (i : Int) st.length := ⟨by omega, by omega⟩
  simp only [Int.toNat_natCast]
  refine ⟨hil, fun hb => ⟨hil, ?_⟩, fun hb => ⟨hil, ⟨by omega, by omega⟩, ?_⟩⟩
  ·simp only [decide_eq_true_eq] at hb
   have h2 : st.getD i 0 = 2 := by
    rcases hV.vals i hi with h | h | h
    ·omega
    ·exact absurd (h1 i hi h) (by omega)
    ·exact h
   have := hK st [] (by simpa using hV) (fun _ _ => Iff.rfl) h2
   simp only [h2, decide_true]
   simpa using this
  ·simp only [decide_eq_false_iff_not] at hb
   have h0 : st.getD i 0 = 0 := by rcases hV.vals i hi with h | h | h <;> omega
   obtain ⟨W, hW⟩ : ∃ W, waysI t i = W := ⟨_, rfl⟩
   have hkid := hs.kid i hi
   have hmany := hs.many i hi
   have hlong := hs.long i hi
   rw [hW] at hkid hmany hlong
   have hWW : (t.1.getD i ((0 : Int), ((0 : Int), ((0 : Int), ([] : List (List Int)))))).2.2.2 = W := hW
   have hst : i < st.length := by omega
   refine Loop.by (fun s : Int × List Int × List Int => ∃ (v : Nat) (ext : List Int), s.1 = (v : Int) ∧ v ≤ W.length ∧ s.2.2 = out ++ ext ∧ Vis t s.2.1 s.2.2 ∧ (∀ x, x < t.1.length → (s.2.1.getD x 0 = 1 ↔ (x = i ∨ st.getD x 0 = 1))) ∧ ∀ u, u < v → ∀ y ∈ (W.getD u []).drop 1, y ∈ s.2.2) (fun s => ((W.length : Int) - s.1).toNat) ⟨0, [], rfl, by omega, by simp, ⟨?_, ?_, ?_, hV.rng, hV.nd, hV.top⟩, ?_, fun u hu => by omega⟩ ?_
   ·dsimp only; rw [List.length_set]; exact hVl
   ·intro x hx
    dsimp only
    rw [getD_set2 hst]
    split
    ·simp
    ·exact hV.vals x hx
   ·intro x hx
    dsimp only
    rw [getD_set2 hst]
    split
    ·rename_i e
     subst e
     have := hV.done x hx
     rw [h0] at this
     constructor
     ·intro h; omega
     ·intro h; have := this.2 h; omega
    ·exact hV.done x hx
   ·intro x hx
    dsimp only
    rw [getD_set2 hst]
    split
    ·rename_i e; simp [e]
    ·rename_i e; simp [e]
   rintro ⟨v', st1, out1⟩ ⟨v, ext, hv, hvl, ho, hV1, hone, hin⟩ X hX
   dsimp only at hv ho hV1 hone hin hX
   subst hv ho
   dsimp only
   unfold VCc47_l1
   simp only [Int.toNat_natCast, hWW]
   refine ⟨fun hb1 => ?_, fun hb1 => ?_⟩
   ·simp only [decide_eq_true_eq] at hb1
    have hvW : v < W.length := by omega
    obtain ⟨w, hw⟩ : ∃ w, W.getD v [] = w := ⟨_, rfl⟩
    have hwm : w ∈ W := by rw [← hw]; exact getD_mem hvW
    obtain ⟨hne, hw5⟩ := hlong w hwm
    have hpos : 0 < w.length := List.length_pos_iff.2 hne
    simp only [hw]
    have hd1 : decide ((0 : Int) < (w.length : Int)) = true := decide_eq_true (by omega)
    refine ⟨⟨by omega, by omega⟩, fun _ => ⟨by omega, by omega⟩, fun _ => ?_, fun h => ?_⟩
    ·obtain ⟨ks, hks⟩ : ∃ ks, w.drop 1 = ks := ⟨_, rfl⟩
     have hk1 : w.drop (1 : Int).toNat = ks := hks
     have hkl : ks.length = w.length - 1 := by rw [← hks, List.length_drop]
     refine Loop.by (fun s : Int × List Int × List Int => ∃ (m : Nat) (ext : List Int), s.1 = (m : Int) ∧ m ≤ ks.length ∧ s.2.2 = out ++ ext ∧ Vis t s.2.1 s.2.2 ∧ (∀ x, x < t.1.length → (s.2.1.getD x 0 = 1 ↔ (x = i ∨ st.getD x 0 = 1))) ∧ (∀ u, u < v → ∀ y ∈ (W.getD u []).drop 1, y ∈ s.2.2) ∧ ∀ u, u < m → ks.getD u 0 ∈ s.2.2) (fun s => ((ks.length : Int) - s.1).toNat) ⟨0, ext, rfl, by omega, rfl, hV1, hone, hin, fun u hu => by omega⟩ ?_
     rintro ⟨m', st2, out2⟩ ⟨m, ext2, hm, hml, ho2, hV2, hone2, hin2, hin3⟩ X2 hX2
     dsimp only at hm ho2 hV2 hone2 hin2 hin3 hX2
     subst hm ho2
     dsimp only
     unfold VCc47_l2
     simp only [Int.toNat_natCast, hWW, hw, hk1]
     refine ⟨fun hb2 => ?_, fun hb2 => ?_⟩
     ·simp only [decide_eq_true_eq] at hb2
      have hmk : m < ks.length := by omega
      have hkm : ks.getD m 0 ∈ w.drop 1 := by rw [hks]; exact getD_mem hmk
      obtain ⟨k0, k1, k2⟩ := hkid w hwm _ hkm
      obtain ⟨k, hk⟩ := Int.eq_ofNat_of_zero_le k0
      rw [hk] at k1 k2
      simp only [Int.toNat_natCast] at k2
      refine ⟨⟨by omega, by omega⟩, ?_⟩
      simp only [hk]
      refine visit_of hs f k st2 (out ++ ext2) _ (by omega) (by omega) hV2 (fun x hx hx1 => ?_) (fun st3 ext3 hV3 hone3 h3 => ⟨fun h => (by simp at h), fun _ => ⟨by unfold InR; omega, hX2 _ ⟨m + 1, ext2 ++ ext3, by simp, by omega, by simp, by dsimp only; exact hV3, fun x hx => (hone3 x hx).trans (hone2 x hx), fun u hu y hy => ?_, fun u hu => ?_⟩ (by dsimp only; omega)⟩⟩)
      ·rcases (hone2 x hx).1 hx1 with e | e
       ·rw [e]; exact k2
       ·have := h1 x hx e; omega
      ·exact List.mem_append_left _ (hin2 u hu y hy)
      ·rcases Nat.lt_or_ge u m with hum | hum
       ·exact List.mem_append_left _ (hin3 u hum)
       ·have : u = m := by omega
        subst this
        dsimp only
        rw [hk]
        exact (hV3.done k (by omega)).1 h3
     ·simp only [decide_eq_false_iff_not] at hb2
      have hmk : m = ks.length := by omega
      unfold VCc47_k4 VCc47_k3 VCc47_k2
      refine ⟨fun h => (by simp at h), fun _ => ⟨by unfold InR; omega, hX _ ⟨v + 1, ext2, by simp, by omega, rfl, hV2, hone2, fun u hu y hy => ?_⟩ (by dsimp only; omega)⟩⟩
      rcases Nat.lt_or_ge u v with huv | huv
      ·exact hin2 u huv y hy
      ·have : u = v := by omega
       subst this
       rw [hw, hks] at hy
       obtain ⟨q, hq, e⟩ := List.mem_iff_getElem.1 hy
       have := hin3 q (by omega)
       rw [getD_lt _ hq, e] at this
       exact this
    ·rw [hd1] at h; cases h
   ·simp only [decide_eq_false_iff_not] at hb1
    have hvW : v = W.length := by omega
    unfold VCc47_k1
    have hV1l := hV1.len
    have hV1f := hV1.few
    have hi1 : st1.getD i 0 = 1 := (hone i hi).2 (.inl rfl)
    have hni : (i : Int) ∉ out ++ ext := fun hm => by
     have := (hV1.done i hi).2 hm
     omega
    have hist : i < st1.length := by omega
    simp only [Int.toNat_natCast]
    refine ⟨⟨by omega, by omega⟩, by unfold roomN; simp only [List.length_cons, List.length_nil]; omega, ?_⟩
    rw [List.append_assoc]
    refine hK _ (ext ++ [(i : Int)]) ⟨?_, ?_, ?_, ?_, ?_, ?_⟩ (fun x hx => ?_) ?_
    ·rw [List.length_set]; exact hV1l
    ·intro x hx
     rw [getD_set2 hist]
     split
     ·simp
     ·exact hV1.vals x hx
    ·intro x hx
     rw [getD_set2 hist, ← List.append_assoc]
     split
     ·rename_i e; subst e; simp
     ·rename_i e
      rw [hV1.done x hx, List.mem_append (t := [(i : Int)]), List.mem_singleton]
      constructor
      ·exact .inl
      ·rintro (h | h)
       ·exact h
       ·exact absurd (by omega) e
    ·intro y hy
     rw [← List.append_assoc] at hy
     rcases List.mem_append.1 hy with h | h
     ·exact hV1.rng y h
     ·rw [List.mem_singleton.1 h]; omega
    ·rw [← List.append_assoc, List.nodup_append]
     exact ⟨hV1.nd, by simp, fun a ha b hb e => hni (by rw [← List.mem_singleton.1 hb, ← e]; exact ha)⟩
    ·intro k hk y hy
     rw [← List.append_assoc] at hk hy ⊢
     rcases Nat.lt_or_ge k (out ++ ext).length with hk1 | hk1
     ·rw [getD_append_l' hk1] at hy
      rw [List.take_append_of_le_length (by omega)]
      exact hV1.top k hk1 y hy
     ·have hke : k = (out ++ ext).length := by
       rw [List.length_append (bs := [(i : Int)]), List.length_singleton] at hk
       omega
      rw [getD_append_r' hk1, hke, Nat.sub_self] at hy
      rw [hke, List.take_left]
      have hy' : y ∈ kidsI t i := hy
      unfold kidsI at hy'
      rw [hW] at hy'
      obtain ⟨w, hwm, hyw⟩ := List.mem_flatMap.1 hy'
      obtain ⟨q, hq, e⟩ := List.mem_iff_getElem.1 hwm
      refine hin q (by omega) y ?_
      rw [getD_lt _ hq, e]
      exact hyw
    ·rw [getD_set2 hist]
     split
     ·rename_i e; subst e; rw [h0]; constructor <;> intro h <;> omega
     ·rename_i e; rw [hone x hx]; simp [e]
    ·rw [getD_set2 hist, if_pos rfl]
structure Ordered (t : Th) (out : List Int) : Prop where
 all : ∀ x : Nat, x < t.1.length → (x : Int) ∈ out
 rng : ∀ y ∈ out, 0 ≤ y ∧ y < t.1.length
 nd : out.Nodup
 top : ∀ k, k < out.length → ∀ y ∈ kidsI t (out.getD k 0).toNat, y ∈ out.take k
 few : out.length ≤ t.1.length
theorem VC46_of {x n : Int} {K : Bool → Prop} (h0 : 0 ≤ x) (h1 : x < n) (h : K false) : VC46 x n K := by
 unfold VC46
 have e : (decide (x < 0) || decide (n ≤ x)) = false := by
  rw [Bool.or_eq_false_iff]
  exact ⟨decide_eq_false (by omega), decide_eq_false (by omega)⟩
 rw [e]
 exact h
theorem VC23_of {t : Th} {rk : Nat → Nat} (hs : SoundT t rk) {K : List Int × Bool → Prop} (h : ∀ out, Ordered t out → K (out, true)) : VC23 t K := by
 have hfew := hs.few
 have hroot := hs.root
 unfold VC23
 have hc : ((decide ((200 : Int) < (t.1.length : Int)) || decide (t.2 < (0 : Int))) || decide ((t.1.length : Int) ≤ t.2)) = false := by
  simp only [Bool.or_eq_false_iff, decide_eq_false_iff_not]
  omega
 refine ⟨fun h => ?_, fun _ => ?_⟩
 ·rw [hc] at h; cases h
 refine loop_count t.1.length (fun _ => True) trivial ?_
 intro i hi _ X hX
 unfold VC23_l2
 refine ⟨fun hb => ⟨⟨by omega, by simp only [decide_eq_true_eq] at hb; omega⟩, ?_⟩, fun _ => ?_⟩
 ·simp only [decide_eq_true_eq] at hb
  have hit : i < t.1.length := by omega
  obtain ⟨W, hW⟩ : ∃ W, waysI t i = W := ⟨_, rfl⟩
  have hkid := hs.kid i hit
  have hmany := hs.many i hit
  have hlong := hs.long i hit
  rw [hW] at hkid hmany hlong
  have hWW : (t.1.getD i ((0 : Int), ((0 : Int), ((0 : Int), ([] : List (List Int)))))).2.2.2 = W := hW
  refine loop_count W.length (fun _ => True) trivial ?_
  intro v hv _ X3 hX3
  unfold VC23_l3
  simp only [Int.toNat_natCast, hWW]
  refine ⟨fun hb3 => ?_, fun _ => by unfold VC23_k3; exact ⟨by unfold InR; omega, hX hit trivial⟩⟩
  simp only [decide_eq_true_eq] at hb3
  have hvW : v < W.length := by omega
  obtain ⟨w, hw⟩ : ∃ w, W.getD v [] = w := ⟨_, rfl⟩
  have hwm : w ∈ W := by rw [← hw]; exact getD_mem hvW
  obtain ⟨hne, hw5⟩ := hlong w hwm
  have hpos : 0 < w.length := List.length_pos_iff.2 hne
  simp only [hw]
  refine ⟨⟨by omega, by omega⟩, fun _ => ⟨by omega, by omega⟩, ?_⟩
  have hf : ∀ r : Bool, r = false → ((decide ((0 : Int) < (w.length : Int)) && r) = true → K ([], false)) ∧ ((decide ((0 : Int) < (w.length : Int)) && r) = false → (InR ((v : Int) + 1) ∧ X3 ((v : Int) + 1))) := by
   rintro r rfl
   exact ⟨fun h => (by simp at h), fun _ => ⟨by unfold InR; omega, hX3 hvW trivial⟩⟩
  refine gcall_both (fun _ => ?_) (fun _ => hf false rfl)
  refine VC27_of (fun _ => false) (by rw [List.length_drop]; omega) (fun x hx K' hK' => ?_) ?_
  ·obtain ⟨a, b, _⟩ := hkid w hwm x hx
   exact VC46_of a b hK'
  ·have : (w.drop (1 : Int).toNat).any (fun _ => false) = false := by simp
   rw [this]
   exact hf false rfl
 ·unfold VC23_k1
  refine ⟨⟨by omega, by omega⟩, ?_⟩
  refine Loop.by (fun s : Int × List Int × List Int => ∃ v : Nat, s.1 = (v : Int) ∧ v ≤ t.1.length ∧ Vis t s.2.1 s.2.2 ∧ (∀ x, x < t.1.length → s.2.1.getD x 0 ≠ 1) ∧ ∀ u : Nat, u < v → (u : Int) ∈ s.2.2) (fun s => ((t.1.length : Int) - s.1).toNat) ⟨0, rfl, by omega, ⟨?_, ?_, ?_, by simp, List.nodup_nil, by simp⟩, ?_, by omega⟩ ?_
  ·simp
  ·intro x hx; dsimp only; rw [getD_lt _ (by simpa using hx)]; simp
  ·intro x hx; dsimp only; rw [getD_lt _ (by simpa using hx)]; simp
  ·intro x hx; dsimp only; rw [getD_lt _ (by simpa using hx)]; simp
  rintro ⟨v', st, out⟩ ⟨v, hv, hvl, hV, hno, hin⟩ X hX
  dsimp only at hv hV hno hin hX
  subst hv
  dsimp only
  unfold VC23_l1
  refine ⟨fun hb => ?_, fun hb => ?_⟩
  ·simp only [decide_eq_true_eq] at hb
   have hvt : v < t.1.length := by omega
   refine ⟨rk v + 1, visit_of hs _ v st out _ (by omega) hvt hV (fun x hx hx1 => absurd hx1 (hno x hx)) fun st' ext hV' hone h2 => ⟨fun h => (by simp at h), fun _ => ⟨by unfold InR; omega, hX _ ⟨v + 1, by simp, by omega, hV', fun x hx hx1 => hno x hx ((hone x hx).1 hx1), fun u hu => ?_⟩ (by dsimp only; omega)⟩⟩⟩
   rcases Nat.lt_or_ge u v with huv | huv
   ·exact List.mem_append_left _ (hin u huv)
   ·have : u = v := by omega
    subst this
    exact (hV'.done u hvt).1 h2
  ·simp only [decide_eq_false_iff_not] at hb
   have hvt : v = t.1.length := by omega
   unfold VC23_k2
   exact h out ⟨fun x hx => hin x (by omega), hV.rng, hV.nd, hV.top, hV.few⟩
end Dec
namespace Dec
open Go Go.Proofs
def prodTo (f : Nat → Nat) : Nat → Nat
 | 0 => 1
 | n + 1 => prodTo f n * f n
def wayN (cn : Nat → Nat) (w : List Int) : Nat := prodTo (fun m => cn ((w.drop 1).getD m 0).toNat) (w.drop 1).length
def Counts (t : Th) (cn : Nat → Nat) : Prop := ∀ i, i < t.1.length → cn i = if waysI t i = [] then 1 else sumTo (fun v => wayN cn ((waysI t i).getD v [])) (waysI t i).length
theorem take_succ_getD {l : List Int} {k : Nat} (hk : k < l.length) : l.take (k + 1) = l.take k ++ [l.getD k 0] := by
 rw [List.take_add_one, List.getElem?_eq_getElem hk, getD_lt _ hk]; rfl
theorem not_mem_take {l : List Int} (hn : l.Nodup) {k : Nat} (hk : k < l.length) : l.getD k 0 ∉ l.take k := by
 have h1 : (l.take (k + 1)).Nodup := hn.sublist (List.take_sublist _ _)
 rw [take_succ_getD hk, List.nodup_append] at h1
 exact fun hm => h1.2.2 _ hm _ (List.mem_singleton.2 rfl) rfl
set_option maxHeartbeats 1000000 in
theorem VC10_of {t : Th} {rk : Nat → Nat} (hs : SoundT t rk) {cn : Nat → Nat} (hc : Counts t cn) {K : Int × Int → Prop} (hbig : (1099511627776 : Int) < (cn t.2.toNat : Int) → K (0, 1)) (hin : (cn t.2.toNat : Int) ≤ 1099511627776 → K ((cn t.2.toNat : Int), 0)) : VC10 t K := by
 have hfew := hs.few
 have hroot := hs.root
 unfold VC10
 refine VC23_of hs fun out hO => ⟨fun h => (by simp at h), fun _ => ⟨⟨by omega, by omega⟩, ?_⟩⟩
 have hol := hO.few
 refine Loop.by (fun s : Int × List Int => ∃ v : Nat, s.1 = (v : Int) ∧ v ≤ out.length ∧ s.2.length = t.1.length ∧ ∀ x : Nat, x < t.1.length → ((x : Int) ∈ out.take v → CapV (s.2.getD x 0) (cn x)) ∧ ((x : Int) ∉ out.take v → s.2.getD x 0 = 0)) (fun s => ((out.length : Int) - s.1).toNat) ⟨0, rfl, by omega, by simp, fun x hx => ⟨fun h => (by simp at h), fun _ => ?_⟩⟩ ?_
 ·dsimp only; rw [getD_lt _ (by simpa using hx)]; simp
 rintro ⟨v', many⟩ ⟨v, hv, hvl, hml, hM⟩ X hX
 dsimp only at hv hml hM hX
 subst hv
 dsimp only
 unfold VC10_l1
 simp only [Int.toNat_natCast]
 refine ⟨fun hb => ?_, fun hb => ?_⟩
 ·simp only [decide_eq_true_eq] at hb
  have hvo : v < out.length := by omega
  obtain ⟨i0, i1⟩ := hO.rng _ (getD_mem (d := (0 : Int)) hvo)
  obtain ⟨i, hi⟩ := Int.eq_ofNat_of_zero_le i0
  rw [hi] at i1
  have hit : i < t.1.length := by omega
  have hnt : (i : Int) ∉ out.take v := by rw [← hi]; exact not_mem_take hO.nd hvo
  have hts : out.take (v + 1) = out.take v ++ [(i : Int)] := by rw [take_succ_getD hvo, hi]
  obtain ⟨W, hW⟩ : ∃ W, waysI t i = W := ⟨_, rfl⟩
  have hkid := hs.kid i hit
  have hmany := hs.many i hit
  have hlong := hs.long i hit
  have hci := hc i hit
  rw [hW] at hkid hmany hlong hci
  have hWW : (t.1.getD i ((0 : Int), ((0 : Int), ((0 : Int), ([] : List (List Int)))))).2.2.2 = W := hW
  have htop := hO.top v hvo
  rw [hi, Int.toNat_natCast] at htop
  simp only [hi, Int.toNat_natCast, hWW]
  have key : ∀ many2 : List Int, many2.length = t.1.length → (∀ x, x ≠ i → many2.getD x 0 = many.getD x 0) → (W = [] → many2.getD i 0 = 1) → (W ≠ [] → many2.getD i 0 = 0) → VC10_k2 t (out, true) (v : Int) X many2 := by
   intro many2 hl2 hoth hone hzero
   unfold VC10_k2
   dsimp only
   simp only [hi, Int.toNat_natCast]
   refine ⟨⟨by omega, by omega⟩, ?_⟩
   refine Loop.by (fun s : Int × List Int => ∃ u : Nat, s.1 = (u : Int) ∧ u ≤ W.length ∧ s.2.length = t.1.length ∧ (∀ x, x ≠ i → s.2.getD x 0 = many.getD x 0) ∧ (W = [] → s.2.getD i 0 = 1) ∧ (W ≠ [] → CapV (s.2.getD i 0) (sumTo (fun q => wayN cn (W.getD q [])) u))) (fun s => ((W.length : Int) - s.1).toNat) ⟨0, rfl, by omega, hl2, hoth, hone, fun h => by dsimp only; rw [hzero h]; exact capV_zero⟩ ?_
   rintro ⟨u', many3⟩ ⟨u, hu, hul, hl3, hoth3, hone3, hcap3⟩ X2 hX2
   dsimp only at hu hl3 hoth3 hone3 hcap3 hX2
   subst hu
   dsimp only
   unfold VC10_l2
   dsimp only
   simp only [hi, Int.toNat_natCast, hWW]
   refine ⟨fun hb2 => ?_, fun hb2 => ?_⟩
   ·simp only [decide_eq_true_eq] at hb2
    have huW : u < W.length := by omega
    have hWne : W ≠ [] := by intro e; rw [e] at huW; simp at huW
    obtain ⟨w, hw⟩ : ∃ w, W.getD u [] = w := ⟨_, rfl⟩
    have hwm : w ∈ W := by rw [← hw]; exact getD_mem huW
    obtain ⟨hne, hw5⟩ := hlong w hwm
    have hpos : 0 < w.length := List.length_pos_iff.2 hne
    simp only [hw]
    have him : imin (1 : Int) (w.length : Int) = 1 := by unfold imin; omega
    simp only [him]
    refine ⟨⟨by omega, by omega⟩, ⟨by omega, by omega⟩, ?_⟩
    obtain ⟨ks, hks⟩ : ∃ ks, w.drop 1 = ks := ⟨_, rfl⟩
    have hk1 : w.drop (1 : Int).toNat = ks := hks
    have hkl : ks.length = w.length - 1 := by rw [← hks, List.length_drop]
    refine Loop.by (fun s : Int × Int => ∃ m : Nat, s.2 = (m : Int) ∧ m ≤ ks.length ∧ CapV s.1 (prodTo (fun q => cn (ks.getD q 0).toNat) m)) (fun s => ((ks.length : Int) - s.2).toNat) ⟨0, rfl, by omega, capV_one⟩ ?_
    rintro ⟨n, m'⟩ ⟨m, hm, hml, hn⟩ X3 hX3
    dsimp only at hm hn hX3
    subst hm
    dsimp only
    unfold VC10_l3
    dsimp only
    simp only [hi, Int.toNat_natCast, hWW, hw, him, hk1]
    refine ⟨fun hb3 => ?_, fun hb3 => ?_⟩
    ·simp only [decide_eq_true_eq] at hb3
     have hmk : m < ks.length := by omega
     have hkm : ks.getD m 0 ∈ w.drop 1 := by rw [hks]; exact getD_mem hmk
     obtain ⟨k0, k1, k2⟩ := hkid w hwm _ hkm
     have hkt : ks.getD m 0 ∈ out.take v := htop _ (by unfold kidsI; rw [hW]; exact List.mem_flatMap.2 ⟨w, hwm, hkm⟩)
     obtain ⟨k, hk⟩ := Int.eq_ofNat_of_zero_le k0
     have hkc : cn (ks.getD m 0).toNat = cn k := by rw [hk, Int.toNat_natCast]
     rw [hk] at k1 k2 hkt
     simp only [Int.toNat_natCast] at k2
     simp only [hk, Int.toNat_natCast]
     refine ⟨⟨by omega, by omega⟩, ⟨by omega, by omega⟩, ?_⟩
     refine VC24_cap hn (n := cn k) ?_ fun r hr => ⟨by unfold InR; omega, hX3 _ ⟨m + 1, by simp, by omega, ?_⟩ (by dsimp only; omega)⟩
     ·rw [hoth3 k (by intro e; rw [e] at k2; omega)]
      exact (hM k (by omega)).1 hkt
     ·dsimp only
      unfold prodTo
      rw [hkc]
      exact hr
    ·simp only [decide_eq_false_iff_not] at hb3
     have hmk : m = ks.length := by omega
     unfold VC10_k4
     dsimp only
     simp only [hi, Int.toNat_natCast]
     refine ⟨⟨by omega, by omega⟩, ?_⟩
     refine VC25_cap (hcap3 hWne) (n := wayN cn w) ?_ fun r hr => ⟨⟨by omega, by omega⟩, by unfold InR; omega, hX2 _ ⟨u + 1, by simp, by omega, ?_, fun x hx => ?_, fun e => absurd e hWne, fun _ => ?_⟩ (by dsimp only; omega)⟩
     ·unfold wayN
      rw [hks, ← hmk]
      exact hn
     ·dsimp only; rw [List.length_set]; exact hl3
     ·dsimp only; rw [getD_set2 (by omega), if_neg hx]; exact hoth3 x hx
     ·dsimp only
      rw [getD_set2 (by omega), if_pos rfl, sumTo_succ]
      show CapV r (sumTo (fun q => wayN cn (W.getD q [])) u + wayN cn (W.getD u []))
      rw [hw]
      exact hr
   ·simp only [decide_eq_false_iff_not] at hb2
    have huW : u = W.length := by omega
    unfold VC10_k3
    refine ⟨by unfold InR; omega, hX _ ⟨v + 1, by simp, by omega, hl3, fun x hx => ⟨fun hm => ?_, fun hm => ?_⟩⟩ (by dsimp only; omega)⟩
    ·dsimp only at hm ⊢
     rw [hts] at hm
     by_cases hxi : x = i
     ·subst hxi
      by_cases hWe : W = []
      ·rw [if_pos hWe] at hci
       rw [hone3 hWe, hci]
       exact capV_one
      ·rw [if_neg hWe, ← huW] at hci
       rw [hci]
       exact hcap3 hWe
     ·rw [hoth3 x hxi]
      refine (hM x hx).1 ?_
      rcases List.mem_append.1 hm with h | h
      ·exact h
      ·exact absurd (by have := List.mem_singleton.1 h; omega) hxi
    ·dsimp only at hm ⊢
     rw [hts] at hm
     have hxi : x ≠ i := fun e => hm (List.mem_append_right _ (by rw [e]; exact List.mem_singleton.2 rfl))
     rw [hoth3 x hxi]
     exact (hM x hx).2 fun h => hm (List.mem_append_left _ h)
  refine ⟨⟨by omega, by omega⟩, ⟨by omega, by omega⟩, fun hz => ⟨⟨by omega, by omega⟩, key _ ?_ (fun x hx => ?_) (fun _ => ?_) (fun h => ?_)⟩, fun hz => key _ hml (fun _ _ => rfl) (fun h => ?_) (fun _ => (hM i hit).2 hnt)⟩
  ·rw [List.length_set]; exact hml
  ·rw [getD_set2 (by omega), if_neg hx]
  ·rw [getD_set2 (by omega), if_pos rfl]
  ·simp only [decide_eq_true_eq] at hz
   exact absurd (List.length_eq_zero_iff.1 (by omega)) h
  ·simp only [decide_eq_false_iff_not] at hz
   rw [h] at hz
   simp at hz
 ·simp only [decide_eq_false_iff_not] at hb
  have hvo : v = out.length := by omega
  unfold VC10_k1
  obtain ⟨r, hr⟩ := Int.eq_ofNat_of_zero_le hroot.1
  have hrt : r < t.1.length := by omega
  have hcap := (hM r hrt).1 (by rw [hvo, List.take_length]; exact hO.all r hrt)
  rw [hr] at hbig hin
  simp only [Int.toNat_natCast] at hbig hin
  simp only [hr, Int.toNat_natCast]
  unfold CapV at hcap
  refine ⟨⟨by omega, by omega⟩, fun hbg => ?_, fun hbg => ⟨⟨by omega, by omega⟩, ?_⟩⟩
  ·simp only [decide_eq_true_eq] at hbg
   exact hbig (by omega)
  ·simp only [decide_eq_false_iff_not] at hbg
   have e : many.getD r 0 = (cn r : Int) := by omega
   rw [e]
   exact hin (by omega)
end Dec
namespace Dec
open Go Go.Proofs Cfg
def prodL (l : List Nat) : Nat := l.foldr (· * ·) 1
theorem prodTo_cons (f : Nat → Nat) : ∀ n, prodTo f (n + 1) = f 0 * prodTo (fun i => f (i + 1)) n
 | 0 => by simp [prodTo]
 | n + 1 => by
  rw [prodTo, prodTo_cons f n, prodTo, Nat.mul_assoc]
theorem prodTo_list (f : Int → Nat) : ∀ l : List Int, prodTo (fun u => f (l.getD u 0)) l.length = prodL (l.map f)
 | [] => rfl
 | x :: l => by
  rw [List.length_cons, prodTo_cons]
  show f x * prodTo (fun u => f (l.getD u 0)) l.length = f x * prodL (l.map f)
  rw [prodTo_list f l]
theorem sumTo_cons (f : Nat → Nat) (n : Nat) : sumTo f (n + 1) = f 0 + sumTo (fun i => f (i + 1)) n := by
 unfold sumTo
 rw [List.range_succ_eq_map, List.map_cons, List.sum_cons, List.map_map]
 rfl
theorem sumTo_list {α : Type} (d : α) (f : α → Nat) : ∀ l : List α, sumTo (fun u => f (l.getD u d)) l.length = (l.map f).sum
 | [] => rfl
 | x :: l => by
  rw [List.length_cons, sumTo_cons, List.map_cons, List.sum_cons, ← sumTo_list d f l]
  rfl
theorem wayN_eq (cn : Nat → Nat) (w : List Int) : wayN cn w = prodL ((w.drop 1).map fun k => cn k.toNat) := prodTo_list (fun k => cn k.toNat) (w.drop 1)
theorem sum_flat {α β : Type} (F : α → List β) (f : β → Nat) : ∀ l : List α, ((l.flatMap F).map f).sum = (l.map fun x => ((F x).map f).sum).sum
 | [] => rfl
 | x :: l => by
  rw [List.flatMap_cons, List.map_append, List.sum_append, sum_flat F f l, List.map_cons, List.sum_cons]
theorem sum_mul' {α : Type} (c : Nat) (f : α → Nat) : ∀ l : List α, (l.map fun x => c * f x).sum = c * (l.map f).sum
 | [] => by simp
 | x :: l => by
  rw [List.map_cons, List.sum_cons, List.map_cons, List.sum_cons, sum_mul' c f l, Nat.mul_add]
theorem sumTo_congr {f h : Nat → Nat} : ∀ {n : Nat}, (∀ i, i < n → f i = h i) → sumTo f n = sumTo h n
 | 0, _ => rfl
 | n + 1, H => by rw [sumTo_succ, sumTo_succ, sumTo_congr fun i hi => H i (by omega), H n (by omega)]
section
variable {g : Gr} {w : List Int} {root : Key} {S : List Key} {num : Key → Int} {out : List Sp}
def cntK (g : Gr) (w : List Int) (y : Key) : Nat := cntS g w y.1 y.2.1.toNat y.2.2.toNat
theorem rows_small (hp : Prop1 g) : ∀ (l : List Int) (i j : Nat) (r : List Key), j ≤ w.length → r ∈ rowsL (drv g w) l i j → ∀ y ∈ r, (i : Int) ≤ y.2.1 ∧ y.2.1 < y.2.2 ∧ y.2.2 ≤ (j : Int) ∧ ((l.length ≠ 1) → y.2.2 - y.2.1 < (j : Int) - i) ∧ y.1 ∈ l
 | [], _, _, r, _, h => by simp [rowsL] at h
 | [s], i, j, r, hj, h => by
  rw [rowsL] at h
  split at h
  ·rename_i hd
   rw [List.mem_singleton] at h
   subst h
   intro y hy
   rw [List.mem_singleton] at hy
   subst hy
   obtain ⟨a, ha⟩ := List.exists_mem_of_length_pos ((drv_iff hp hj).1 hd)
   have := sgn_lt hp _ _ _ _ _ ha
   exact ⟨by simp, by dsimp only; omega, by simp, fun h => absurd rfl h, by simp⟩
  ·cases h
 | s :: t :: l, i, j, r, hj, h => by
  rw [rows_two] at h
  obtain ⟨e, he, h⟩ := List.mem_flatMap.1 h
  obtain ⟨q, hq, rfl⟩ := List.mem_map.1 he
  have hq' := List.mem_range.1 hq
  split at h
  ·rename_i hd
   obtain ⟨r', hr', rfl⟩ := List.mem_map.1 h
   obtain ⟨a, ha⟩ := List.exists_mem_of_length_pos ((drv_iff hp (show q + (i + 1) ≤ w.length by omega)).1 hd)
   have := sgn_lt hp _ _ _ _ _ ha
   intro y hy
   rcases List.mem_cons.1 hy with rfl | hy
   ·refine ⟨by simp, by dsimp only; omega, by dsimp only; omega, fun _ => by dsimp only; omega, by simp⟩
   ·obtain ⟨h1, h2, h3, h4, h5⟩ := rows_small hp (t :: l) _ j r' hj hr' y hy
    refine ⟨by omega, h2, h3, fun _ => by omega, by simp only [List.mem_cons] at h5 ⊢; exact .inr h5⟩
  ·cases h
def rkF (g : Gr) (S : List Key) (i : Nat) : Nat := 2 * ((S.getD i z3).2.2 - (S.getD i z3).2.1).toNat + if (S.getD i z3).1 < g.1 then 0 else 1
theorem rows_le (hg : GoodG g) (hw : GoodW g.1 w) (hF : ForOk g w root S num out) {key : Key} (hk : key ∈ S) {rows : List (List Int)} (h : rows.Perm ((waysOf g w key).map fun x => x.1 :: x.2.map num)) : rows.length ≤ 300000 := by
 have hwl : (waysOf g w key).length ≤ 285610 := by
  unfold waysOf
  have := flat_le (f := waysAt g w key) (c := 28561) (List.range g.2.2.2.length) fun x hx => waysAt_few hg hw (hF.ok _ hk) x (List.mem_range.1 hx)
  rw [List.length_range] at this
  exact Nat.le_trans this (Nat.mul_le_mul_right _ hg.few)
 rw [h.length_eq, List.length_map]
 omega
theorem sound_of (hg : GoodG g) (hw : GoodW g.1 w) (hp : Prop1 g) (hF : ForOk g w root S num out) : SoundT (out, num root) (rkF g S) where
 few := by have := hF.few; have := hF.len; dsimp only; omega
 root := by
  obtain ⟨q, hq, e, _⟩ := hF.find hF.root
  have := hF.len
  dsimp only
  rw [e]
  omega
 kid := by
  intro i hi a ha k hk
  have hl := hF.len
  dsimp only at hi
  have hiS : i < S.length := by omega
  obtain ⟨rows, hspot, hrows⟩ := hF.spot i hiS
  have ha' : a ∈ rows := by
   have : waysI (out, num root) i = rows := by show (out.getD i zS).2.2.2 = rows; rw [hspot]
   rw [this] at ha
   exact ha
  obtain ⟨v, r, i0, j0, hv, hsign, hrange, rfl, hr, hrS⟩ := way_ok (e := 0) hg hp hF hiS hrows ha'
  have hkS : S.getD i z3 ∈ S := getD_mem hiS
  obtain ⟨_, i1, j1, e1, hij, hj1, _⟩ := hF.ok _ hkS
  rw [hrange] at e1
  injection e1 with e2 e3
  rw [List.drop_succ_cons, List.drop_zero] at hk
  obtain ⟨y, hy, rfl⟩ := List.mem_map.1 hk
  obtain ⟨q, hq, e, e4, _⟩ := hF.find (hrS y hy)
  have hmem : g.2.2.2.getD v (0, []) ∈ g.2.2.2 := getD_mem hv
  obtain ⟨p1, p2, p3, p4, p5⟩ := rows_small hp _ i0 j0 r (by omega) hr y hy
  refine ⟨by omega, by dsimp only; omega, ?_⟩
  rw [e, Int.toNat_natCast]
  unfold rkF
  rw [e4, hrange, hsign]
  have hleft := hg.left _ hmem
  dsimp only
  rw [if_neg (show ¬ g.1 + (g.2.2.2.getD v (0, [])).1 < g.1 by omega)]
  by_cases h1 : (g.2.2.2.getD v (0, [])).2.length = 1
  ·obtain ⟨s, hs⟩ := List.length_eq_one_iff.1 h1
   have h2 := (hp _ hmem).2 s hs
   rw [hs, List.mem_singleton] at p5
   rw [if_pos (by rw [p5]; exact h2)]
   omega
  ·have h2 := p4 h1
   split <;> omega
 many := by
  intro i hi
  have hl := hF.len
  dsimp only at hi
  have hiS : i < S.length := by omega
  obtain ⟨rows, hspot, hrows⟩ := hF.spot i hiS
  show (out.getD i zS).2.2.2.length ≤ 300000
  rw [hspot]
  exact rows_le hg hw hF (getD_mem hiS) hrows
 long := by
  intro i hi a ha
  have hl := hF.len
  dsimp only at hi
  have hiS : i < S.length := by omega
  obtain ⟨rows, hspot, hrows⟩ := hF.spot i hiS
  have ha' : a ∈ rows := by
   have : waysI (out, num root) i = rows := by show (out.getD i zS).2.2.2 = rows; rw [hspot]
   rw [this] at ha
   exact ha
  obtain ⟨v, r, i0, j0, hv, hsign, hrange, rfl, hr, hrS⟩ := way_ok (e := 0) hg hp hF hiS hrows ha'
  have := rows_len _ _ _ _ hr
  have := hg.short _ (getD_mem (d := ((0 : Int), ([] : List Int))) hv)
  refine ⟨by simp, ?_⟩
  rw [List.length_cons, List.length_map]
  omega
end
end Dec
namespace Dec
open Go Go.Proofs
structure LOk (n : Nat) (L : List (List (List Int))) : Prop where
 len : L.length = n
 few : ∀ i, (L.getD i []).length ≤ 300000
 way : ∀ i, ∀ w ∈ L.getD i [], w ≠ [] ∧ w.length ≤ 5 ∧ ∀ k ∈ w.drop 1, 0 ≤ k ∧ k < n
theorem flat5 : ∀ (l : List (List Int)), (∀ w ∈ l, w.length ≤ 5) → (l.flatMap (·.drop 1)).length ≤ l.length * 4
 | [], _ => by simp
 | w :: l, h => by
  have h1 := h w (by simp)
  have h2 := flat5 l fun x hx => h x (by simp [hx])
  simp only [List.flatMap_cons, List.length_append, List.length_drop, List.length_cons]
  omega
theorem VC53_of {s : Sp} (hf : s.2.2.2.length ≤ 300000) (hw : ∀ w ∈ s.2.2.2, w ≠ [] ∧ w.length ≤ 5) {K : List Int → Prop} (h : K (s.2.2.2.flatMap (·.drop 1))) : VC53 s K := by
 unfold VC53
 obtain ⟨W, hW⟩ : ∃ W, s.2.2.2 = W := ⟨_, rfl⟩
 rw [hW] at hf hw h
 refine loop_state W.length (fun i => (W.take i).flatMap (·.drop 1)) (fun _ => True) trivial ?_
 intro i hi _ X hX
 unfold VC53_l1
 dsimp only
 simp only [hW, Int.toNat_natCast]
 refine ⟨fun hb => ?_, fun hb => ?_⟩
 ·simp only [decide_eq_true_eq] at hb
  have hiW : i < W.length := by omega
  obtain ⟨h1, h2⟩ := hw _ (getD_mem (d := ([] : List Int)) hiW)
  have hpos : 0 < (W.getD i []).length := List.length_pos_iff.2 h1
  have hk : ∀ out, out = (W.take (i + 1)).flatMap (·.drop 1) → VC53_k2 (i : Int) X out := fun out ho => by
   unfold VC53_k2
   subst ho
   exact ⟨by unfold InR; omega, hX hiW trivial⟩
  have hs : (W.take (i + 1)).flatMap (·.drop 1) = (W.take i).flatMap (·.drop 1) ++ (W.getD i []).drop 1 := by
   rw [List.take_add_one, List.getElem?_eq_getElem hiW, getD_lt _ hiW, List.flatMap_append]
   show _ ++ (W[i].drop 1 ++ []) = _
   rw [List.append_nil]
  refine ⟨⟨by omega, by omega⟩, fun _ => ⟨⟨by omega, by omega⟩, ?_, hk _ hs.symm⟩, fun hc => ?_⟩
  ·have := flat5 (W.take i) fun w hw' => (hw w (List.mem_of_mem_take hw')).2
   have h3 : (W.take i).length ≤ W.length := by rw [List.length_take]; omega
   unfold roomN
   rw [List.length_drop]
   omega
  ·simp only [decide_eq_false_iff_not] at hc
   omega
 ·simp only [decide_eq_false_iff_not] at hb
  have : i = W.length := by omega
  subst this
  unfold VC53_k1
  rw [List.take_length]
  exact h
theorem VC54_of {l : List Int} (hl : l.length ≤ 1000) {K : List Int → Prop} (h : K l) : VC54 l K := by
 unfold VC54
 intro b hb
 refine ⟨fun e => ?_, fun _ => ⟨by unfold roomN; simp; omega, by simpa using h⟩⟩
 rw [hb e] at h
 exact h
def cntF (l : List Bool) : Nat := l.count false
theorem getD_setB {l : List Bool} {i j : Nat} {v : Bool} (hi : i < l.length) : (l.set i v).getD j false = if j = i then v else l.getD j false := by
 rw [List.getD_eq_getElem?_getD, List.getElem?_set, List.getD_eq_getElem?_getD]
 by_cases h : i = j
 ·subst h; simp [hi]
 ·have h2 : ¬ j = i := fun e => h e.symm
  rw [if_neg h, if_neg h2]
theorem cntF_set : ∀ {l : List Bool} {i : Nat}, i < l.length → l.getD i false = false → cntF (l.set i true) + 1 = cntF l
 | [], i, h, _ => by simp at h
 | b :: l, 0, h, h2 => by
  have : b = false := h2
  subst this
  simp [cntF]
 | b :: l, i + 1, h, h2 => by
  have := cntF_set (l := l) (i := i) (by simpa using h) (by simpa using h2)
  unfold cntF at *
  cases b <;> simp [List.count_cons] at * <;> omega
structure Bfs (n : Nat) (L : List (List (List Int))) (root : Nat) (P : Nat → Prop) (used : List Bool) (q : List Int) (rest : List Int) : Prop where
 len : used.length = n
 root : used.getD root false = true
 qu : ∀ k ∈ q, 0 ≤ k ∧ k < n ∧ used.getD k.toNat false = true
 shut : ∀ i, i < n → used.getD i false = true → (i : Int) ∈ q ∨ ∀ w ∈ L.getD i [], ∀ k ∈ w.drop 1, used.getD k.toNat false = true ∨ k ∈ rest
 good : ∀ i, i < n → used.getD i false = true → P i
theorem VC29_bfs {t : Th} {L : List (List (List Int))} (hn : t.1.length ≤ 200) (hr : 0 ≤ t.2 ∧ t.2 < t.1.length) (hL : LOk t.1.length L) {P : Nat → Prop} (hP0 : P t.2.toNat) (hP : ∀ i, i < t.1.length → P i → ∀ w ∈ L.getD i [], ∀ k ∈ w.drop 1, P k.toNat)
  {K : Th → Prop} (h : ∀ used : List Bool, used.length = t.1.length → used.getD t.2.toNat false = true → (∀ i, i < t.1.length → used.getD i false = true → P i ∧ ∀ w ∈ L.getD i [], ∀ k ∈ w.drop 1, used.getD k.toNat false = true) → VC29_k1 t L K used) : VC29 t L K := by
 unfold VC29
 obtain ⟨root, hroot⟩ := Int.eq_ofNat_of_zero_le hr.1
 have hrn : root < t.1.length := by omega
 rw [hroot] at hP0 h ⊢
 simp only [Int.toNat_natCast] at hP0 h ⊢
 refine ⟨⟨by omega, by omega⟩, ⟨by omega, by rw [List.length_replicate]; omega⟩, ?_⟩
 refine Loop.by (fun s : Nat × Nat × List Bool × List Int => s.1 + s.2.1 = s.2.2.2.length ∧ Bfs t.1.length L root P s.2.2.1 (s.2.2.2.drop s.1) [] ∧ s.2.2.2.length + cntF s.2.2.1 ≤ t.1.length + 1) (fun s => 2 * cntF s.2.2.1 + s.2.1) ⟨by simp, ⟨by simp, ?_, ?_, ?_, ?_⟩, ?_⟩ ?_
 ·dsimp only; rw [getD_setB (by simpa using hrn), if_pos rfl]
 ·intro k hk
  simp only [List.drop_zero, List.mem_singleton] at hk
  subst hk
  refine ⟨by omega, by omega, ?_⟩
  dsimp only
  rw [Int.toNat_natCast, getD_setB (by simpa using hrn), if_pos rfl]
 ·intro i hi hu
  dsimp only at hu
  rw [getD_setB (by simpa using hrn)] at hu
  split at hu
  ·rename_i e; subst e; left; simp
  ·rw [getD_lt _ (by simpa using hi)] at hu; simp at hu
 ·intro i hi hu
  dsimp only at hu
  rw [getD_setB (by simpa using hrn)] at hu
  split at hu
  ·rename_i e; subst e; exact hP0
  ·rw [getD_lt _ (by simpa using hi)] at hu; simp at hu
 ·dsimp only
  have := cntF_set (l := List.replicate t.1.length false) (i := root) (by simpa using hrn) (by rw [getD_lt _ (by simpa using hrn)]; simp)
  have h2 : cntF (List.replicate t.1.length false) = t.1.length := by unfold cntF; simp
  simp only [List.length_singleton]
  omega
 rintro ⟨lo, len, used, queue⟩ ⟨hlen, hB, hcount⟩ X hX
 dsimp only at hlen hB hcount hX
 dsimp only
 unfold VC29_l5
 have hul := hB.len
 refine ⟨by omega, fun hb => ?_, fun hb => ?_⟩
 ·simp only [decide_eq_true_eq] at hb
  have hlq : lo < queue.length := by omega
  have hm0 : queue.getD lo 0 ∈ queue.drop lo := by
   rw [getD_lt _ hlq]
   rw [List.drop_eq_getElem_cons hlq]
   exact List.mem_cons_self
  obtain ⟨i0, i1, hui⟩ := hB.qu _ hm0
  obtain ⟨i, hi⟩ := Int.eq_ofNat_of_zero_le i0
  have hin : i < t.1.length := by omega
  rw [hi, Int.toNat_natCast] at hui
  have e0 : lo + (0 : Int).toNat = lo := rfl
  have e1 : (1 : Int).toNat = 1 := rfl
  simp only [e0, e1, hi, Int.toNat_natCast]
  have hLl := hL.len
  refine ⟨⟨by omega, by omega⟩, ⟨by omega, by omega⟩, ⟨by omega, by omega⟩, ?_⟩
  have hfi := hL.few i
  have hwi := hL.way i
  refine VC53_of (s := (0, (0, (0, L.getD i [])))) hfi (fun w hw => ⟨(hwi w hw).1, (hwi w hw).2.1⟩) ?_
  obtain ⟨ks, hks⟩ : ∃ ks, (L.getD i []).flatMap (·.drop 1) = ks := ⟨_, rfl⟩
  show Loop _ _
  have hkm : ∀ k, k ∈ ks ↔ ∃ w ∈ L.getD i [], k ∈ w.drop 1 := fun k => by rw [← hks]; exact List.mem_flatMap
  have hkr : ∀ k ∈ ks, 0 ≤ k ∧ k < t.1.length := fun k hk => by
   obtain ⟨w, hw, hk⟩ := (hkm k).1 hk
   exact (hwi w hw).2.2 k hk
  have hkl : ks.length ≤ 1200000 := by
   rw [← hks]
   have := flat5 _ fun w hw => (hwi w hw).2.1
   omega
  have hdrop : queue.drop lo = (i : Int) :: queue.drop (lo + 1) := by
   rw [List.drop_eq_getElem_cons hlq, ← hi, getD_lt _ hlq]
  rw [show ((0 : Int), ((0 : Int), ((0 : Int), L.getD i ([] : List (List Int))))).2.2.2.flatMap (·.drop 1) = ks from hks]
  refine Loop.by (fun s : Nat × Nat × Int × List Bool × List Int => ∃ v : Nat, s.2.2.1 = (v : Int) ∧ v ≤ ks.length ∧ s.1 + s.2.1 = s.2.2.2.2.length ∧ (∀ k ∈ ks.take v, s.2.2.2.1.getD k.toNat false = true) ∧ (∀ j, used.getD j false = true → s.2.2.2.1.getD j false = true) ∧ (∀ j, s.2.2.2.1.getD j false = true → used.getD j false = true ∨ (j : Int) ∈ s.2.2.2.2.drop s.1) ∧ s.2.2.2.1.length = t.1.length ∧ (∀ k ∈ s.2.2.2.2.drop s.1, 0 ≤ k ∧ k < t.1.length ∧ s.2.2.2.1.getD k.toNat false = true) ∧ (∀ j, (j : Int) ∈ queue.drop (lo + 1) → (j : Int) ∈ s.2.2.2.2.drop s.1) ∧ (∀ j, j < t.1.length → s.2.2.2.1.getD j false = true → P j) ∧ s.2.2.2.2.length + cntF s.2.2.2.1 ≤ t.1.length + 1 ∧ 2 * cntF s.2.2.2.1 + s.2.1 < 2 * cntF used + len) (fun s => ((ks.length : Int) - s.2.2.1).toNat)
   ⟨0, rfl, by omega, by show lo + 1 + (len - 1) = queue.length; omega, fun k hk => by simp at hk, fun _ h => h, fun _ h => .inl h, hul, fun k hk => hB.qu k (by rw [hdrop]; exact List.mem_cons_of_mem _ hk), fun _ h => h, hB.good, hcount, by dsimp only; omega⟩ ?_
  rintro ⟨lo2, len2, v', used2, queue2⟩ ⟨v, hv, hvl, hlen2, hall, hmono, hnew, hul2, hq2, hkeep, hP2, hcnt2, hmu⟩ X6 hX6
  dsimp only at hv hlen2 hall hmono hnew hul2 hq2 hkeep hP2 hcnt2 hmu hX6
  subst hv
  dsimp only
  unfold VC29_l6
  simp only [Int.toNat_natCast]
  refine ⟨fun hb6 => ?_, fun hb6 => ?_⟩
  ·simp only [decide_eq_true_eq] at hb6
   have hvk : v < ks.length := by omega
   obtain ⟨k0, k1⟩ := hkr _ (getD_mem (d := (0 : Int)) hvk)
   have hkin : ks.getD v 0 ∈ ks := getD_mem hvk
   obtain ⟨k, hk⟩ := Int.eq_ofNat_of_zero_le k0
   have htk : ks.take (v + 1) = ks.take v ++ [(k : Int)] := by
    rw [List.take_add_one, List.getElem?_eq_getElem hvk, ← hk, getD_lt _ hvk]; rfl
   rw [hk] at hkin
   simp only [hk, Int.toNat_natCast]
   have hkn : k < t.1.length := by omega
   refine ⟨⟨by omega, by omega⟩, ⟨by omega, by omega⟩, fun hu => ?_, fun hu => ?_⟩
   ·have hu' : used2.getD k false = false := by simpa using hu
    have hcs := cntF_set (l := used2) (i := k) (by omega) hu'
    refine ⟨⟨by omega, by omega⟩, ⟨hlen2, by unfold roomN; simp only [List.length_singleton]; omega⟩, fun qu lo3 hq3 hl3 hle3 => ?_⟩
    simp only [List.length_singleton] at hl3 hle3
    unfold VC29_k9
    refine ⟨by unfold InR; omega, hX6 _ ⟨v + 1, by simp, by omega, by simpa using hl3, fun x hx => ?_, fun j hj => ?_, fun j hj => ?_, by rw [List.length_set]; exact hul2, fun x hx => ?_, fun j hj => ?_, fun j hjn hj => ?_, by dsimp only; omega, by dsimp only; simp only [List.length_singleton]; omega⟩ (by dsimp only; omega)⟩
    ·dsimp only
     rw [htk] at hx
     rcases List.mem_append.1 hx with hx | hx
     ·rw [getD_setB (by omega)]
      split
      ·rfl
      ·exact hall x hx
     ·rw [List.mem_singleton.1 hx, Int.toNat_natCast, getD_setB (by omega), if_pos rfl]
    ·dsimp only
     rw [getD_setB (by omega)]
     split
     ·rfl
     ·exact hmono j hj
    ·dsimp only at hj ⊢
     rw [hq3, List.mem_append]
     rw [getD_setB (by omega)] at hj
     split at hj
     ·rename_i e; subst e; right; right; simp
     ·exact (hnew j hj).imp id .inl
    ·dsimp only at hx
     rw [hq3] at hx
     rcases List.mem_append.1 hx with hx | hx
     ·obtain ⟨q0, q1, q2⟩ := hq2 x hx
      refine ⟨q0, q1, ?_⟩
      dsimp only
      rw [getD_setB (by omega)]
      split
      ·rfl
      ·exact q2
     ·rw [List.mem_singleton.1 hx]
      refine ⟨by omega, by omega, ?_⟩
      dsimp only
      rw [Int.toNat_natCast, getD_setB (by omega), if_pos rfl]
    ·dsimp only
     rw [hq3]
     exact List.mem_append_left _ (hkeep j hj)
    ·dsimp only at hj
     rw [getD_setB (by omega)] at hj
     split at hj
     ·rename_i e
      subst e
      obtain ⟨w, hw, hkw⟩ := (hkm _).1 hkin
      have := hP i hin (hB.good i hin hui) w hw _ hkw
      simpa using this
     ·exact hP2 j hjn hj
   ·have hu' : used2.getD k false = true := by simpa using hu
    unfold VC29_k9
    refine ⟨by unfold InR; omega, hX6 _ ⟨v + 1, by simp, by omega, hlen2, fun x hx => ?_, hmono, hnew, hul2, hq2, hkeep, hP2, hcnt2, hmu⟩ (by dsimp only; omega)⟩
    dsimp only
    rw [htk] at hx
    rcases List.mem_append.1 hx with hx | hx
    ·exact hall x hx
    ·rw [List.mem_singleton.1 hx, Int.toNat_natCast]; exact hu'
  ·simp only [decide_eq_false_iff_not] at hb6
   have hvk : v = ks.length := by omega
   rw [hvk, List.take_length] at hall
   unfold VC29_k8
   refine hX _ ⟨hlen2, ⟨hul2, hmono _ hB.root, hq2, fun j hj hu => ?_, fun j hj hu => ?_⟩, hcnt2⟩ hmu
   ·rcases hnew j hu with h1 | h1
    ·by_cases hji : j = i
     ·subst hji
      right
      intro w hw k hk
      exact .inl (hall k ((hkm k).2 ⟨w, hw, hk⟩))
     ·rcases hB.shut j hj h1 with h2 | h2
      ·rw [hdrop] at h2
       rcases List.mem_cons.1 h2 with h2 | h2
       ·omega
       ·exact .inl (hkeep j h2)
      ·right
       intro w hw k hk
       rcases h2 w hw k hk with h3 | h3
       ·exact .inl (hmono _ h3)
       ·simp at h3
    ·exact .inl h1
   ·exact hP2 j hj hu
 ·simp only [decide_eq_false_iff_not] at hb
  have hl0 : len = 0 := by omega
  have hd : queue.drop lo = [] := List.drop_of_length_le (by omega)
  refine h used hul hB.root fun i hi hu => ⟨hB.good i hi hu, fun w hw k hk => ?_⟩
  rcases hB.shut i hi hu with h1 | h1
  ·rw [hd] at h1; simp at h1
  ·rcases h1 w hw k hk with h2 | h2
   ·exact h2
   ·simp at h2
def usedTo (used : List Bool) (v : Nat) : List Nat := (List.range v).filter fun i => used.getD i false
theorem usedTo_succ (used : List Bool) (v : Nat) : usedTo used (v + 1) = usedTo used v ++ if used.getD v false = true then [v] else [] := by
 unfold usedTo
 rw [List.range_succ, List.filter_append]
 congr 1
 rw [List.filter_cons]
 split <;> rfl
theorem usedTo_mem {used : List Bool} {v i : Nat} : i ∈ usedTo used v ↔ i < v ∧ used.getD i false = true := by
 unfold usedTo
 rw [List.mem_filter, List.mem_range]
theorem usedTo_get {used : List Bool} : ∀ {v i : Nat}, i < v → used.getD i false = true → (usedTo used v).getD (usedTo used i).length 0 = i ∧ (usedTo used i).length < (usedTo used v).length
 | 0, _, h, _ => absurd h (by omega)
 | v + 1, i, h, hu => by
  rw [usedTo_succ]
  by_cases hi : i = v
  ·subst hi
   rw [if_pos hu]
   refine ⟨?_, by simp⟩
   rw [getD_append_r' (Nat.le_refl _), Nat.sub_self]
   rfl
  ·obtain ⟨h1, h2⟩ := usedTo_get (v := v) (i := i) (by omega) hu
   refine ⟨by rw [getD_append_l' h2]; exact h1, ?_⟩
   rw [List.length_append]; omega
theorem usedTo_le (used : List Bool) (v : Nat) : (usedTo used v).length ≤ v := by
 unfold usedTo
 have := List.length_filter_le (fun i => used.getD i false) (List.range v)
 rwa [List.length_range] at this
def numU (used : List Bool) (i : Nat) : Int := ((usedTo used i).length : Int)
def renW (used : List Bool) (w : List Int) : List Int := w.take 1 ++ (w.drop 1).map fun k => numU used k.toNat
def renS (t : Th) (L : List (List (List Int))) (used : List Bool) (i : Nat) : Sp := ((t.1.getD i zS).1, ((t.1.getD i zS).2.1, ((t.1.getD i zS).2.2.1, (L.getD i []).map (renW used))))
theorem VC29_rows {t : Th} {L : List (List (List Int))} (hn : t.1.length ≤ 200) (hL : LOk t.1.length L) {used : List Bool} {number : List Int} (hul : used.length = t.1.length) (hnl : number.length = t.1.length) (hnum : ∀ i, i < t.1.length → number.getD i 0 = numU used i)
  {v : Nat} (hv : v < t.1.length) {l6280 : List Sp} {X1 : Int × List Sp → Prop} (h : VC29_k5 t (v : Int) l6280 X1 ((L.getD v []).map (renW used))) :
  Loop (σ := Int × List (List Int)) (fun s X => VC29_l2 t L number (v : Int) l6280 X1 s.1 s.2 X) (0, ([] : List (List Int))) := by
 have hf := hL.few v
 have hw := hL.way v
 obtain ⟨W, hW⟩ : ∃ W, L.getD v [] = W := ⟨_, rfl⟩
 rw [hW] at hf hw h
 refine loop_state W.length (fun i => (W.take i).map (renW used)) (fun _ => True) trivial ?_
 intro i hi _ X hX
 unfold VC29_l2
 simp only [Int.toNat_natCast, hW]
 refine ⟨fun hb => ?_, fun hb => ?_⟩
 ·simp only [decide_eq_true_eq] at hb
  have hiW : i < W.length := by omega
  obtain ⟨w, hwe⟩ : ∃ w, W.getD i [] = w := ⟨_, rfl⟩
  have hwm : w ∈ W := by rw [← hwe]; exact getD_mem hiW
  obtain ⟨h1, h2, h3⟩ := hw w hwm
  have hpos : 0 < w.length := List.length_pos_iff.2 h1
  simp only [hwe]
  refine ⟨⟨by omega, by omega⟩, VC54_of (by omega) ?_⟩
  have hout : (W.take (i + 1)).map (renW used) = (W.take i).map (renW used) ++ [renW used w] := by
   rw [List.take_add_one, List.getElem?_eq_getElem hiW, ← hwe, getD_lt _ hiW, List.map_append]
   rfl
  rw [hout] at hX
  refine Loop.by (fun s : Int × List Int => ∃ m : Nat, s.1 = (m : Int) ∧ 1 ≤ m ∧ m ≤ w.length ∧ s.2.length = w.length ∧ ∀ j, j < w.length → s.2.getD j 0 = if 1 ≤ j ∧ j < m then numU used (w.getD j 0).toNat else w.getD j 0) (fun s => ((w.length : Int) - s.1).toNat) ⟨1, rfl, by omega, by omega, rfl, fun j hj => by rw [if_neg (by omega)]⟩ ?_
  rintro ⟨m', row⟩ ⟨m, hm, hm1, hml, hrl, hrow⟩ X3 hX3
  dsimp only at hm hrl hrow hX3
  subst hm
  dsimp only
  unfold VC29_l3
  simp only [Int.toNat_natCast]
  refine ⟨fun hb3 => ?_, fun hb3 => ?_⟩
  ·simp only [decide_eq_true_eq] at hb3
   have hmw : m < w.length := by omega
   have hr := hrow m hmw
   rw [if_neg (by omega)] at hr
   have hmd : w.getD m 0 ∈ w.drop 1 := by
    rw [getD_lt _ hmw]
    have : w[m] = (w.drop 1)[m - 1]'(by rw [List.length_drop]; omega) := by
     rw [List.getElem_drop]; congr 1; omega
    rw [this]
    exact List.getElem_mem _
   obtain ⟨k0, k1⟩ := h3 _ hmd
   obtain ⟨k, hk⟩ := Int.eq_ofNat_of_zero_le k0
   rw [hr, hk]
   simp only [Int.toNat_natCast]
   refine ⟨⟨by omega, by omega⟩, ⟨by omega, by omega⟩, ⟨by omega, by omega⟩, by unfold InR; omega, hX3 _ ⟨m + 1, by simp, by omega, by omega, by rw [List.length_set]; exact hrl, fun j hj => ?_⟩ (by dsimp only; omega)⟩
   dsimp only
   rw [getD_set2 (by omega)]
   by_cases hjm : j = m
   ·subst hjm
    rw [if_pos rfl, if_pos (by omega), hk, Int.toNat_natCast]
    exact hnum k (by omega)
   ·rw [if_neg hjm, hrow j hj]
    by_cases hc : 1 ≤ j ∧ j < m
    ·rw [if_pos hc, if_pos (by omega)]
    ·rw [if_neg hc, if_neg (by omega)]
  ·simp only [decide_eq_false_iff_not] at hb3
   have hmw : m = w.length := by omega
   subst hmw
   have hrw : row = renW used w := by
    refine ext_getD 0 (by unfold renW; rw [List.length_append, List.length_map, List.length_take, List.length_drop]; omega) fun j hj => ?_
    rw [hrl] at hj
    rw [hrow j hj]
    unfold renW
    by_cases hj0 : 1 ≤ j
    ·rw [if_pos ⟨hj0, hj⟩, getD_append_r' (by rw [List.length_take]; omega)]
     have e1 : (w.take 1).length = 1 := by rw [List.length_take]; omega
     rw [e1]
     have e2 : ((w.drop 1).map fun k => numU used k.toNat).getD (j - 1) 0 = numU used ((w.drop 1)[j - 1]'(by rw [List.length_drop]; omega)).toNat := by
      rw [getD_lt _ (by rw [List.length_map, List.length_drop]; omega), List.getElem_map]
     rw [e2, List.getElem_drop, getD_lt _ hj]
     congr 3
     omega
    ·have : j = 0 := by omega
     subst this
     rw [if_neg (by omega), getD_append_l' (by rw [List.length_take]; omega)]
     cases w with
     | nil => simp at hj
     | cons a l => rfl
   subst hrw
   unfold VC29_k6
   have hl1 : ((W.take i).map (renW used)).length ≤ 300000 := by rw [List.length_map, List.length_take]; omega
   exact ⟨by unfold roomN; simp only [List.length_singleton]; omega, by unfold InR; omega, hX hiW trivial⟩
 ·simp only [decide_eq_false_iff_not] at hb
  have : i = W.length := by omega
  subst this
  rw [List.take_length]
  exact h
theorem VC29_of {t : Th} {L : List (List (List Int))} (hn : t.1.length ≤ 200) (hr : 0 ≤ t.2 ∧ t.2 < t.1.length) (hL : LOk t.1.length L) {P : Nat → Prop} (hP0 : P t.2.toNat) (hP : ∀ i, i < t.1.length → P i → ∀ w ∈ L.getD i [], ∀ k ∈ w.drop 1, P k.toNat)
  {K : Th → Prop} (h : ∀ used : List Bool, used.length = t.1.length → used.getD t.2.toNat false = true → (∀ i, i < t.1.length → used.getD i false = true → P i ∧ ∀ w ∈ L.getD i [], ∀ k ∈ w.drop 1, used.getD k.toNat false = true) → K ((usedTo used t.1.length).map (renS t L used), numU used t.2.toNat)) : VC29 t L K := by
 refine VC29_bfs hn hr hL hP0 hP fun used hul hroot hall => ?_
 have h := h used hul hroot hall
 unfold VC29_k1
 refine ⟨⟨by omega, by omega⟩, ?_⟩
 refine Loop.by (fun s : Int × Int × List Int => ∃ v : Nat, s.2.1 = (v : Int) ∧ v ≤ t.1.length ∧ s.1 = numU used v ∧ s.2.2.length = t.1.length ∧ ∀ i, i < v → s.2.2.getD i 0 = numU used i) (fun s => ((t.1.length : Int) - s.2.1).toNat) ⟨0, rfl, by omega, rfl, by simp, fun i hi => by omega⟩ ?_
 rintro ⟨many, v', number⟩ ⟨v, hv, hvl, hm, hnl, hnum⟩ X hX
 dsimp only at hv hm hnl hnum hX
 subst hv hm
 dsimp only
 unfold VC29_l4
 simp only [Int.toNat_natCast]
 have hmv : numU used v ≤ v := by unfold numU; have := usedTo_le used v; omega
 have hm0 : 0 ≤ numU used v := by unfold numU; omega
 refine ⟨fun hb => ?_, fun hb => ?_⟩
 ·simp only [decide_eq_true_eq] at hb
  have hvt : v < t.1.length := by omega
  have key : ∀ many2, many2 = numU used (v + 1) → VC29_k7 (numU used v) (v : Int) number X many2 := fun many2 he => by
   unfold VC29_k7
   simp only [Int.toNat_natCast]
   refine ⟨by unfold InR; omega, hX _ ⟨v + 1, by simp, by omega, he, by rw [List.length_set]; exact hnl, fun i hi => ?_⟩ (by dsimp only; omega)⟩
   dsimp only
   rw [getD_set2 (by omega)]
   split
   ·rename_i e; rw [e]
   ·exact hnum i (by omega)
  have hs : numU used (v + 1) = numU used v + if used.getD v false = true then 1 else 0 := by
   unfold numU
   rw [usedTo_succ, List.length_append]
   split <;> simp
  refine ⟨⟨by omega, by omega⟩, ⟨by omega, by omega⟩, fun hu => ⟨by unfold InR; omega, key _ ?_⟩, fun hu => key _ ?_⟩
  ·rw [hs, if_pos hu]
  ·rw [hs, hu, if_neg (by simp), Int.add_zero]
 ·simp only [decide_eq_false_iff_not] at hb
  have hvt : v = t.1.length := by omega
  subst hvt
  unfold VC29_k2
  refine ⟨⟨by omega, by omega⟩, ?_⟩
  refine Loop.by (fun s : Int × List Sp => ∃ v : Nat, s.1 = (v : Int) ∧ v ≤ t.1.length ∧ s.2 = (usedTo used v).map (renS t L used)) (fun s => ((t.1.length : Int) - s.1).toNat) ⟨0, rfl, by omega, rfl⟩ ?_
  rintro ⟨v', out⟩ ⟨v, hv, hvl, ho⟩ X2 hX2
  dsimp only at hv ho hX2
  subst hv ho
  dsimp only
  unfold VC29_l1
  simp only [Int.toNat_natCast]
  refine ⟨fun hb => ?_, fun hb => ?_⟩
  ·simp only [decide_eq_true_eq] at hb
   have hvt : v < t.1.length := by omega
   have hLl := hL.len
   refine ⟨⟨by omega, by omega⟩, ⟨by omega, by omega⟩, fun hu => ?_, fun hu => ⟨⟨by omega, by omega⟩, ?_⟩⟩
   ·have hu' : used.getD v false = false := by simpa using hu
    unfold VC29_k4
    refine ⟨by unfold InR; omega, hX2 _ ⟨v + 1, by simp, by omega, ?_⟩ (by dsimp only; omega)⟩
    rw [usedTo_succ, hu', if_neg (by simp), List.append_nil]
   ·have hu' : used.getD v false = true := by simpa using hu
    refine VC29_rows hn hL hul hnl (fun i hi => hnum i hi) hvt ?_
    unfold VC29_k5 VC29_k4
    simp only [Int.toNat_natCast]
    have := usedTo_le used v
    refine ⟨by unfold roomN; simp only [List.length_map, List.length_singleton]; omega, by unfold InR; omega, hX2 _ ⟨v + 1, by simp, by omega, ?_⟩ (by dsimp only; omega)⟩
    rw [usedTo_succ, hu', if_pos rfl, List.map_append]
    rfl
  ·simp only [decide_eq_false_iff_not] at hb
   have hvt : v = t.1.length := by omega
   subst hvt
   unfold VC29_k3
   obtain ⟨r, hr2⟩ := Int.eq_ofNat_of_zero_le hr.1
   rw [hr2] at h ⊢
   simp only [Int.toNat_natCast] at h ⊢
   rw [hnum r (by omega)]
   exact h
end Dec
namespace Dec
open Go Go.Proofs
def keepW (rule : Int) (cn : Nat → Nat) (w : List Int) : Bool := !(decide (w.getD 0 0 = rule)) && (w.drop 1).all fun k => decide (cn k.toNat ≠ 0)
def leftOf (t : Th) (rule : Int) (cn : Nat → Nat) (i : Nat) : List (List Int) := (waysI t i).filter (keepW rule cn)
def Cuts (t : Th) (kk : Int) (rule : Int) (cn : Nat → Nat) : Prop := ∀ i, i < t.1.length → (cn i = 0 ↔ (leftOf t rule cn i = [] ∧ kk ≤ (t.1.getD i zS).1))
theorem getD_setL {α : Type} {l : List α} {i j : Nat} {v d : α} (hi : i < l.length) : (l.set i v).getD j d = if j = i then v else l.getD j d := by
 rw [List.getD_eq_getElem?_getD, List.getElem?_set, List.getD_eq_getElem?_getD]
 by_cases h : i = j
 ·subst h; simp [hi]
 ·have h2 : ¬ j = i := fun e => h e.symm
  rw [if_neg h, if_neg h2]
theorem take_succ_getD' {l : List Int} {k : Nat} (hk : k < l.length) : l.take (k + 1) = l.take k ++ [l.getD k 0] := by
 rw [List.take_add_one, List.getElem?_eq_getElem hk, getD_lt _ hk]; rfl
theorem not_mem_take' {l : List Int} (hn : l.Nodup) {k : Nat} (hk : k < l.length) : l.getD k 0 ∉ l.take k := by
 have h1 : (l.take (k + 1)).Nodup := hn.sublist (List.take_sublist _ _)
 rw [take_succ_getD' hk, List.nodup_append] at h1
 exact fun hm => h1.2.2 _ hm _ (List.mem_singleton.2 rfl) rfl
set_option maxHeartbeats 1000000 in
theorem VC11_of {g : Gr} (hg : GoodG g) {t : Th} {rk : Nat → Nat} (hs : SoundT t rk) {rule : Nat} (hr : rule < g.2.2.2.length) {cn : Nat → Nat} (hc : Cuts t g.1 rule cn) {K : Th × Int → Prop} (hgone : cn t.2.toNat = 0 → K (([], 0), 5))
  (hleft : cn t.2.toNat ≠ 0 → VC29 t ((List.range t.1.length).map (leftOf t rule cn)) (fun c => K (c, 0))) : VC11 g t rule K := by
 have hfew := hs.few
 have hroot := hs.root
 have hgf := hg.few
 unfold VC11
 refine VC26_of (fun e _ hb => absurd hg hb) (fun _ => ⟨fun h => (by simp at h), fun _ => ?_⟩)
 have hrc : (decide ((rule : Int) < 0) || decide ((g.2.2.2.length : Int) ≤ (rule : Int))) = false := by
  simp only [Bool.or_eq_false_iff, decide_eq_false_iff_not]; omega
 refine ⟨fun h => (by rw [hrc] at h; cases h), fun _ => ?_⟩
 refine VC23_of hs fun out hO => ⟨fun h => (by simp at h), fun _ => ⟨⟨by omega, by omega⟩, ⟨by omega, by omega⟩, ?_⟩⟩
 have hol := hO.few
 refine Loop.by (fun s : Int × List (List (List Int)) × List Bool => ∃ v : Nat, s.1 = (v : Int) ∧ v ≤ out.length ∧ s.2.1.length = t.1.length ∧ s.2.2.length = t.1.length ∧ ∀ x : Nat, x < t.1.length → ((x : Int) ∈ out.take v → s.2.1.getD x [] = leftOf t rule cn x ∧ s.2.2.getD x false = decide (cn x = 0)) ∧ ((x : Int) ∉ out.take v → s.2.1.getD x [] = [])) (fun s => ((out.length : Int) - s.1).toNat) ⟨0, rfl, by omega, by simp, by simp, fun x hx => ⟨fun h => (by simp at h), fun _ => ?_⟩⟩ ?_
 ·dsimp only; rw [getD_lt _ (by simpa using hx)]; simp
 rintro ⟨v', left, gone⟩ ⟨v, hv, hvl, hll, hgl, hM⟩ X hX
 dsimp only at hv hll hgl hM hX
 subst hv
 dsimp only
 unfold VC11_l1
 dsimp only
 simp only [Int.toNat_natCast]
 refine ⟨fun hb => ?_, fun hb => ?_⟩
 ·simp only [decide_eq_true_eq] at hb
  have hvo : v < out.length := by omega
  obtain ⟨i0, i1⟩ := hO.rng _ (getD_mem (d := (0 : Int)) hvo)
  obtain ⟨i, hi⟩ := Int.eq_ofNat_of_zero_le i0
  rw [hi] at i1
  have hit : i < t.1.length := by omega
  have hnt : (i : Int) ∉ out.take v := by rw [← hi]; exact not_mem_take' hO.nd hvo
  have hts : out.take (v + 1) = out.take v ++ [(i : Int)] := by rw [take_succ_getD' hvo, hi]
  obtain ⟨W, hW⟩ : ∃ W, waysI t i = W := ⟨_, rfl⟩
  have hkid := hs.kid i hit
  have hmany := hs.many i hit
  have hlong := hs.long i hit
  have hci := hc i hit
  have hlo : leftOf t rule cn i = W.filter (keepW rule cn) := by unfold leftOf; rw [hW]
  rw [hW] at hkid hmany hlong
  have hWW : (t.1.getD i ((0 : Int), ((0 : Int), ((0 : Int), ([] : List (List Int)))))).2.2.2 = W := hW
  have htop := hO.top v hvo
  rw [hi, Int.toNat_natCast] at htop
  simp only [hi, Int.toNat_natCast]
  refine ⟨⟨by omega, by omega⟩, ⟨by omega, by omega⟩, ?_⟩
  refine Loop.by (fun s : Int × List (List (List Int)) => ∃ u : Nat, s.1 = (u : Int) ∧ u ≤ W.length ∧ s.2.length = t.1.length ∧ s.2.getD i [] = (W.take u).filter (keepW rule cn) ∧ ∀ x, x ≠ i → s.2.getD x [] = left.getD x []) (fun s => ((W.length : Int) - s.1).toNat) ⟨0, rfl, by omega, hll, by simpa using (hM i hit).2 hnt, fun _ _ => rfl⟩ ?_
  rintro ⟨u', left2⟩ ⟨u, hu, hul, hl2, hli, hlo2⟩ X2 hX2
  dsimp only at hu hl2 hli hlo2 hX2
  subst hu
  dsimp only
  unfold VC11_l2
  dsimp only
  simp only [hi, Int.toNat_natCast, hWW]
  refine ⟨fun hb2 => ?_, fun hb2 => ?_⟩
  ·simp only [decide_eq_true_eq] at hb2
   have huW : u < W.length := by omega
   obtain ⟨w, hw⟩ : ∃ w, W.getD u [] = w := ⟨_, rfl⟩
   have hwm : w ∈ W := by rw [← hw]; exact getD_mem huW
   obtain ⟨hne, hw5⟩ := hlong w hwm
   have hpos : 0 < w.length := List.length_pos_iff.2 hne
   have hd1 : decide ((0 : Int) < (w.length : Int)) = true := decide_eq_true (by omega)
   have hz : (0 : Int).toNat = 0 := rfl
   have hWs : (W.take (u + 1)).filter (keepW rule cn) = (W.take u).filter (keepW rule cn) ++ if keepW rule cn w = true then [w] else [] := by
    rw [List.take_add_one, List.getElem?_eq_getElem huW, List.filter_append, ← hw, getD_lt _ huW]
    congr 1
    show List.filter _ [W[u]] = _
    rw [List.filter_cons]
    split <;> rfl
   have skip : keepW rule cn w = false → VC11_k3 (u : Int) X2 left2 := fun hk => by
    unfold VC11_k3
    refine ⟨by unfold InR; omega, hX2 _ ⟨u + 1, by simp, by omega, hl2, ?_, hlo2⟩ (by dsimp only; omega)⟩
    rw [hWs, hk, if_neg (by simp), List.append_nil]
    exact hli
   have take : keepW rule cn w = true → inIdx (i : Int) left2.length ∧ (roomN ((left2.getD i ([] : List (List Int))).length + [w].length) ∧ inIdx (i : Int) left2.length ∧ VC11_k3 (u : Int) X2 (left2.set i ((left2.getD i ([] : List (List Int))) ++ [w]))) := fun hk => by
    unfold VC11_k3
    have h1 : ((W.take u).filter (keepW rule cn)).length ≤ 300000 := Nat.le_trans (List.length_filter_le _ _) (by rw [List.length_take]; omega)
    refine ⟨⟨by omega, by omega⟩, by unfold roomN; rw [hli, List.length_singleton]; omega, ⟨by omega, by omega⟩, by unfold InR; omega, hX2 _ ⟨u + 1, by simp, by omega, by rw [List.length_set]; exact hl2, ?_, fun x hx => ?_⟩ (by dsimp only; omega)⟩
    ·dsimp only
     rw [getD_setL (by omega), if_pos rfl, hWs, hk, if_pos rfl, hli]
    ·dsimp only
     rw [getD_setL (by omega), if_neg hx]
     exact hlo2 x hx
   simp only [hw, hd1, hz, Bool.true_and]
   refine ⟨⟨by omega, by omega⟩, fun _ => ⟨by omega, by omega⟩, fun _ _ => ⟨by omega, by omega⟩, fun hc1 => ?_, fun hc1 => ?_⟩
   ·have hr0 : ¬ w.getD 0 0 = (rule : Int) := by simpa using hc1
    have hr1 : decide (w.getD 0 0 = (rule : Int)) = false := decide_eq_false hr0
    obtain ⟨ks, hks⟩ : ∃ ks, w.drop 1 = ks := ⟨_, rfl⟩
    have hk1 : w.drop (1 : Int).toNat = ks := hks
    have hkl : ks.length = w.length - 1 := by rw [← hks, List.length_drop]
    refine Loop.by (fun s : Int => ∃ m : Nat, s = (m : Int) ∧ m ≤ ks.length ∧ ∀ q, q < m → cn (ks.getD q 0).toNat ≠ 0) (fun s => ((ks.length : Int) - s).toNat) ⟨0, rfl, by omega, fun q hq => by omega⟩ ?_
    rintro m' ⟨m, rfl, hml, hq⟩ X3 hX3
    unfold VC11_l3
    dsimp only
    simp only [hi, Int.toNat_natCast, hWW, hw, hk1]
    refine ⟨fun hb3 => ?_, fun hb3 => ?_⟩
    ·simp only [decide_eq_true_eq] at hb3
     have hmk : m < ks.length := by omega
     have hkm : ks.getD m 0 ∈ w.drop 1 := by rw [hks]; exact getD_mem hmk
     obtain ⟨k0, k1, k2⟩ := hkid w hwm _ hkm
     have hkt : ks.getD m 0 ∈ out.take v := htop _ (by unfold kidsI; rw [hW]; exact List.mem_flatMap.2 ⟨w, hwm, hkm⟩)
     obtain ⟨k, hk⟩ := Int.eq_ofNat_of_zero_le k0
     rw [hk] at k1 hkt
     have hgk := ((hM k (by omega)).1 hkt).2
     simp only [hk, Int.toNat_natCast, hgk]
     refine ⟨⟨by omega, by omega⟩, ⟨by omega, by omega⟩, fun hg1 => ?_, fun hg0 => ?_⟩
     ·simp only [decide_eq_true_eq] at hg1
      unfold VC11_k4 VC11_k5
      dsimp only
      simp only [hi, Int.toNat_natCast, hWW, hw, hd1, hz, Bool.true_and]
      have hcc : (!(decide (w.getD 0 0 = (rule : Int)) || decide (0 ≤ (m : Int)))) = false := by
       have : decide (0 ≤ (m : Int)) = true := decide_eq_true (by omega)
       rw [this]; simp
      refine ⟨fun h => (by rw [hcc] at h; cases h), fun _ => skip ?_⟩
      unfold keepW
      rw [Bool.and_eq_false_iff]
      right
      rw [List.all_eq_false]
      refine ⟨ks.getD m 0, hkm, ?_⟩
      rw [hk, Int.toNat_natCast, hg1]
      simp
     ·simp only [decide_eq_false_iff_not] at hg0
      refine ⟨by unfold InR; omega, hX3 _ ⟨m + 1, by simp, by omega, fun q hqm => ?_⟩ (by omega)⟩
      by_cases hqe : q = m
      ·subst hqe
       rw [hk, Int.toNat_natCast]
       exact hg0
      ·exact hq q (by omega)
    ·simp only [decide_eq_false_iff_not] at hb3
     have hmk : m = ks.length := by omega
     unfold VC11_k6 VC11_k4 VC11_k5
     dsimp only
     simp only [hi, Int.toNat_natCast, hWW, hw, hd1, hz, Bool.true_and]
     have hcc : (!(decide (w.getD 0 0 = (rule : Int)) || decide (0 ≤ (-1 : Int)))) = true := by
      rw [hr1]; simp
     refine ⟨fun _ => take ?_, fun h => (by rw [hcc] at h; cases h)⟩
     unfold keepW
     rw [hr1, hks]
     simp only [Bool.not_false, Bool.true_and]
     rw [List.all_eq_true]
     intro k hk
     obtain ⟨q, hqk, e⟩ := List.mem_iff_getElem.1 hk
     have := hq q (by omega)
     rw [getD_lt _ hqk, e] at this
     simpa using this
   ·have hr0 : w.getD 0 0 = (rule : Int) := by simpa using hc1
    have hcc : (!(decide (w.getD 0 0 = (rule : Int)) || false)) = false := by rw [hr0]; simp
    unfold VC11_k7
    refine ⟨fun h => (by rw [hcc] at h; cases h), fun _ => skip ?_⟩
    unfold keepW
    rw [hr0]
    simp
  ·simp only [decide_eq_false_iff_not] at hb2
   have huW : u = W.length := by omega
   rw [huW, List.take_length, ← hlo] at hli
   unfold VC11_k2
   dsimp only
   simp only [hi, Int.toNat_natCast, hli]
   refine ⟨⟨by omega, by omega⟩, fun _ => ⟨by omega, by omega⟩, ⟨by omega, by omega⟩, by unfold InR; omega, hX _ ⟨v + 1, by simp, by omega, hl2, by rw [List.length_set]; exact hgl, fun x hx => ⟨fun hm => ?_, fun hm => ?_⟩⟩ (by dsimp only; omega)⟩
   ·dsimp only at hm ⊢
    rw [hts] at hm
    by_cases hxi : x = i
    ·subst hxi
     refine ⟨hli, ?_⟩
     rw [getD_setL (by omega), if_pos rfl, Bool.eq_iff_iff]
     simp only [Bool.and_eq_true, decide_eq_true_eq]
     rw [hci]
     constructor
     ·rintro ⟨h1, h2⟩
      exact ⟨List.length_eq_zero_iff.1 (by omega), h2⟩
     ·rintro ⟨h1, h2⟩
      exact ⟨by rw [h1]; rfl, h2⟩
    ·have hm' : (x : Int) ∈ out.take v := by
      rcases List.mem_append.1 hm with h | h
      ·exact h
      ·exact absurd (by have := List.mem_singleton.1 h; omega) hxi
     refine ⟨by rw [hlo2 x hxi]; exact ((hM x hx).1 hm').1, ?_⟩
     rw [getD_setL (by omega), if_neg hxi]
     exact ((hM x hx).1 hm').2
   ·dsimp only at hm ⊢
    rw [hts] at hm
    have hxi : x ≠ i := fun e => hm (List.mem_append_right _ (by rw [e]; exact List.mem_singleton.2 rfl))
    rw [hlo2 x hxi]
    exact (hM x hx).2 fun h => hm (List.mem_append_left _ h)
 ·simp only [decide_eq_false_iff_not] at hb
  have hvo : v = out.length := by omega
  unfold VC11_k1
  obtain ⟨r, hr2⟩ := Int.eq_ofNat_of_zero_le hroot.1
  have hrt : r < t.1.length := by omega
  have hall : ∀ x : Nat, x < t.1.length → left.getD x [] = leftOf t rule cn x ∧ gone.getD x false = decide (cn x = 0) := fun x hx => (hM x hx).1 (by rw [hvo, List.take_length]; exact hO.all x hx)
  have hL : left = (List.range t.1.length).map (leftOf t rule cn) := by
   refine ext_getD [] (by rw [hll, List.length_map, List.length_range]) fun j hj => ?_
   rw [hll] at hj
   rw [(hall j hj).1, getD_lt _ (by simpa using hj)]
   simp
  rw [hr2] at hgone hleft ⊢
  simp only [Int.toNat_natCast] at hgone hleft ⊢
  rw [(hall r hrt).2]
  refine ⟨⟨by omega, by omega⟩, fun h => hgone (by simpa using h), fun h => ?_⟩
  rw [hL]
  exact hleft (by simpa using h)
end Dec
namespace Dec
open Go Go.Proofs Cfg
theorem prodL_ne {l : List Nat} (h : ∀ x ∈ l, x ≠ 0) : prodL l ≠ 0 := by
 unfold prodL
 induction l with
 | nil => simp
 | cons x l ih =>
  rw [List.foldr_cons]
  exact Nat.mul_ne_zero (h x (by simp)) (ih fun y hy => h y (by simp [hy]))
theorem prodL_zero {l : List Nat} (h : ∃ x ∈ l, x = 0) : prodL l = 0 := by
 unfold prodL
 induction l with
 | nil => obtain ⟨x, hx, _⟩ := h; simp at hx
 | cons x l ih =>
  rw [List.foldr_cons]
  obtain ⟨y, hy, rfl⟩ := h
  rcases List.mem_cons.1 hy with e | hy
  ·rw [← e, Nat.zero_mul]
  ·rw [ih ⟨_, hy, rfl⟩, Nat.mul_zero]
theorem sum_filter {α : Type} (p : α → Bool) (f : α → Nat) : ∀ l : List α, ((l.filter p).map f).sum = (l.map fun x => if p x = true then f x else 0).sum
 | [] => rfl
 | x :: l => by
  rw [List.filter_cons, List.map_cons, List.sum_cons, ← sum_filter p f l]
  split <;> simp
theorem sum_pos {α : Type} {f : α → Nat} : ∀ {l : List α}, (∃ x ∈ l, f x ≠ 0) → (l.map f).sum ≠ 0
 | [], ⟨x, hx, _⟩ => by simp at hx
 | y :: l, ⟨x, hx, h⟩ => by
  rw [List.map_cons, List.sum_cons]
  rcases List.mem_cons.1 hx with rfl | hx
  ·omega
  ·have := sum_pos ⟨x, hx, h⟩
   omega
theorem cut_count {t : Th} {rk : Nat → Nat} (hs : SoundT t rk) {kk rule : Int} {cn : Nat → Nat} (hc : Cuts t kk rule cn) (hsum : ∀ i, i < t.1.length → leftOf t rule cn i ≠ [] → cn i = ((leftOf t rule cn i).map (wayN cn)).sum)
  (hone : ∀ i, i < t.1.length → cn i ≠ 0 → leftOf t rule cn i = [] → cn i = 1) (hroot : cn t.2.toNat ≠ 0) {K : Th → Prop}
  (h : ∀ (c : Th) (rk' cn' : Nat → Nat), SoundT c rk' → Counts c cn' → cn' c.2.toNat = cn t.2.toNat → c.1.length ≤ t.1.length → K c) : VC29 t ((List.range t.1.length).map (leftOf t rule cn)) K := by
 obtain ⟨L, hLe⟩ : ∃ L, (List.range t.1.length).map (leftOf t rule cn) = L := ⟨_, rfl⟩
 rw [hLe]
 have hLg : ∀ i, i < t.1.length → L.getD i [] = leftOf t rule cn i := fun i hi => by
  rw [← hLe, getD_lt _ (by simpa using hi)]; simp
 have hLo : ∀ i, ¬ i < t.1.length → L.getD i [] = [] := fun i hi => by rw [← hLe, getD_ge _ (by simp; omega)]
 have hsub : ∀ i, i < t.1.length → ∀ w ∈ leftOf t rule cn i, w ∈ waysI t i := fun i hi w hw => (List.mem_filter.1 hw).1
 have hL : LOk t.1.length L := by
  refine ⟨by rw [← hLe]; simp, fun i => ?_, fun i w hw => ?_⟩
  ·by_cases hi : i < t.1.length
   ·rw [hLg i hi]
    exact Nat.le_trans (List.length_filter_le _ _) (hs.many i hi)
   ·rw [hLo i hi]; simp
  ·by_cases hi : i < t.1.length
   ·rw [hLg i hi] at hw
    have hw' := hsub i hi w hw
    obtain ⟨h1, h2⟩ := hs.long i hi w hw'
    exact ⟨h1, h2, fun k hk => ⟨(hs.kid i hi w hw' k hk).1, (hs.kid i hi w hw' k hk).2.1⟩⟩
   ·rw [hLo i hi] at hw; simp at hw
 have hkeep : ∀ i, i < t.1.length → ∀ w ∈ leftOf t rule cn i, ∀ k ∈ w.drop 1, cn k.toNat ≠ 0 := fun i hi w hw k hk => by
  have := (List.mem_filter.1 hw).2
  unfold keepW at this
  rw [Bool.and_eq_true] at this
  simpa using List.all_eq_true.1 this.2 k hk
 refine VC29_of hs.few hs.root hL (P := fun i => cn i ≠ 0) hroot (fun i hi hp w hw k hk => hkeep i hi w (by rw [hLg i hi] at hw; exact hw) k hk) fun used hul hru hall => ?_
 obtain ⟨r, hr⟩ := Int.eq_ofNat_of_zero_le hs.root.1
 have hrt : r < t.1.length := by have := hs.root.2; omega
 rw [hr] at hru hroot ⊢
 simp only [Int.toNat_natCast] at hru hroot ⊢
 obtain ⟨U, hU⟩ : ∃ U, usedTo used t.1.length = U := ⟨_, rfl⟩
 have hUm : ∀ i, i ∈ U ↔ i < t.1.length ∧ used.getD i false = true := fun i => by rw [← hU]; exact usedTo_mem
 have hUg : ∀ i, i < t.1.length → used.getD i false = true → ∃ p : Nat, numU used i = (p : Int) ∧ p < U.length ∧ U.getD p 0 = i := fun i hi hu => by
  obtain ⟨h1, h2⟩ := usedTo_get hi hu
  rw [hU] at h1 h2
  exact ⟨_, rfl, h2, h1⟩
 have hUl : U.length ≤ t.1.length := by rw [← hU]; exact usedTo_le _ _
 rw [hU]
 have hUj : ∀ j, j < U.length → U.getD j 0 < t.1.length ∧ used.getD (U.getD j 0) false = true := fun j hj => (hUm _).1 (getD_mem hj)
 have hways : ∀ j, j < U.length → waysI (U.map (renS t L used), numU used r) j = (leftOf t rule cn (U.getD j 0)).map (renW used) := fun j hj => by
  have e : (U.map (renS t L used)).getD j zS = renS t L used (U.getD j 0) := by
   rw [getD_lt _ (by simpa using hj), List.getElem_map, getD_lt _ hj]
  show ((U.map (renS t L used)).getD j zS).2.2.2 = _
  rw [e]
  unfold renS
  dsimp only
  rw [hLg _ (hUj j hj).1]
 have hdrop : ∀ w : List Int, w ≠ [] → (renW used w).drop 1 = (w.drop 1).map fun k => numU used k.toNat := fun w hw => by
  unfold renW
  cases w with
  | nil => exact absurd rfl hw
  | cons a l => rfl
 have hfew := hs.few
 refine h _ (fun j => rk (U.getD j 0)) (fun j => cn (U.getD j 0)) ⟨by simp; omega, ?_, fun j hj w hw k hk => ?_, fun j hj => ?_, fun j hj w hw => ?_⟩ (fun j hj => ?_) ?_ (by simpa using hUl)
 ·obtain ⟨p, h1, h2, _⟩ := hUg r hrt hru
  dsimp only
  rw [h1]
  simp
  omega
 ·have hj' : j < U.length := by simpa using hj
  rw [hways j hj'] at hw
  obtain ⟨w0, hw0, rfl⟩ := List.mem_map.1 hw
  obtain ⟨u1, u2⟩ := hUj j hj'
  have hw1 := hsub _ u1 w0 hw0
  obtain ⟨l1, l2⟩ := hs.long _ u1 w0 hw1
  rw [hdrop w0 l1] at hk
  obtain ⟨k0, hk0, rfl⟩ := List.mem_map.1 hk
  obtain ⟨q0, q1, q2⟩ := hs.kid _ u1 w0 hw1 k0 hk0
  obtain ⟨x, hx⟩ := Int.eq_ofNat_of_zero_le q0
  have hku := (hall _ u1 u2).2 w0 (by rw [hLg _ u1]; exact hw0) k0 hk0
  rw [hx] at q1 q2 hku ⊢
  simp only [Int.toNat_natCast] at q2 hku ⊢
  obtain ⟨p, h1, h2, h3⟩ := hUg x (by omega) hku
  rw [h1]
  refine ⟨by omega, by show (p : Int) < ((U.map (renS t L used)).length : Int); rw [List.length_map]; omega, ?_⟩
  rw [Int.toNat_natCast, h3]
  exact q2
 ·have hj' : j < U.length := by simpa using hj
  rw [hways j hj', List.length_map]
  exact Nat.le_trans (List.length_filter_le _ _) (hs.many _ (hUj j hj').1)
 ·have hj' : j < U.length := by simpa using hj
  rw [hways j hj'] at hw
  obtain ⟨w0, hw0, rfl⟩ := List.mem_map.1 hw
  obtain ⟨u1, u2⟩ := hUj j hj'
  obtain ⟨l1, l2⟩ := hs.long _ u1 w0 (hsub _ u1 w0 hw0)
  have hl : (renW used w0).length = w0.length := by unfold renW; rw [List.length_append, List.length_map, List.length_take, List.length_drop]; omega
  refine ⟨fun e => ?_, by rw [hl]; exact l2⟩
  rw [e] at hl
  exact l1 (List.length_eq_zero_iff.1 hl.symm)
 ·have hj' : j < U.length := by simpa using hj
  rw [hways j hj']
  obtain ⟨u1, u2⟩ := hUj j hj'
  have hne := (hall _ u1 u2).1
  dsimp only
  by_cases he : leftOf t rule cn (U.getD j 0) = []
  ·rw [he, List.map_nil, if_pos rfl]
   exact hone _ u1 hne he
  ·rw [if_neg (by simpa using he), hsum _ u1 he]
   refine Eq.trans ?_ (sumTo_list ([] : List Int) (wayN fun j => cn (U.getD j 0)) _).symm
   rw [List.map_map]
   congr 1
   refine List.map_congr_left fun w hw => ?_
   obtain ⟨l1, l2⟩ := hs.long _ u1 w (hsub _ u1 w hw)
   show wayN cn w = wayN (fun j => cn (U.getD j 0)) (renW used w)
   rw [wayN_eq, wayN_eq, hdrop w l1, List.map_map]
   congr 1
   refine List.map_congr_left fun k hk => ?_
   obtain ⟨q0, q1, _⟩ := hs.kid _ u1 w (hsub _ u1 w hw) k hk
   obtain ⟨x, hx⟩ := Int.eq_ofNat_of_zero_le q0
   have hku := (hall _ u1 u2).2 w (by rw [hLg _ u1]; exact hw) k hk
   show cn k.toNat = cn (U.getD (numU used k.toNat).toNat 0)
   rw [hx] at q1 hku ⊢
   simp only [Int.toNat_natCast] at hku ⊢
   obtain ⟨p, h1, h2, h3⟩ := hUg x (by omega) hku
   rw [h1, Int.toNat_natCast, h3]
 ·obtain ⟨p, h1, h2, h3⟩ := hUg r hrt hru
  dsimp only
  rw [h1, Int.toNat_natCast, h3, hr, Int.toNat_natCast]
/-! ### the trees without a rule -/
abbrev lessG (g : Gr) (rule : Nat) : Gr := (g.1, (g.2.1, (g.2.2.1, ((([] : List Rl) ++ g.2.2.2.take rule) ++ g.2.2.2.drop (rule + 1)))))
theorem less_mem {g : Gr} {rule : Nat} {r : Rl} (h : r ∈ (lessG g rule).2.2.2) : r ∈ g.2.2.2 := by
 have h' : r ∈ (([] : List Rl) ++ g.2.2.2.take rule) ++ g.2.2.2.drop (rule + 1) := h
 simp only [List.nil_append, List.mem_append] at h'
 rcases h' with h | h
 ·exact List.mem_of_mem_take h
 ·exact List.mem_of_mem_drop h
theorem less_len {g : Gr} {rule : Nat} (hr : rule < g.2.2.2.length) : (lessG g rule).2.2.2.length + 1 = g.2.2.2.length := by
 show ((([] : List Rl) ++ g.2.2.2.take rule) ++ g.2.2.2.drop (rule + 1)).length + 1 = _
 simp only [List.nil_append, List.length_append, List.length_take, List.length_drop]
 omega
theorem less_good {g : Gr} {rule : Nat} (hr : rule < g.2.2.2.length) (hg : GoodG g) : GoodG (lessG g rule) := by
 have := less_len hr
 have := hg.few
 exact ⟨hg.k, hg.n, by omega, fun r h => hg.short r (less_mem h), hg.start, fun r h => hg.left r (less_mem h), fun r h => hg.right r (less_mem h)⟩
theorem less_prop {g : Gr} {rule : Nat} (hp : Prop1 g) : Prop1 (lessG g rule) := fun r h => hp r (less_mem h)
theorem Row.more {K : Int} {R R' : Rules} {w : List Int} (h : ∀ r ∈ R, r ∈ R') {l : List Int} {i j : Nat} (hr : Row K R w l i j) : Row K R' w l i j := by
 induction hr with
 | nil i hi => exact .nil i hi
 | sym s l i j hs hi _ ih => exact .sym s l i j hs hi ih
 | name s l r i m j hs hr _ _ ih1 ih2 => exact .name s l r i m j hs (h _ hr) ih1 ih2
section
variable {g : Gr} {w : List Int} {root : Key} {S : List Key} {num : Key → Int} {out : List Sp} {rule : Nat}
theorem less_zero (hp : Prop1 g) {s : Int} {i j : Nat} (hj : j ≤ w.length) (h : drv g w s i j = false) : cntS (lessG g rule) w s i j = 0 := by
 have h1 := (drv_iff (less_prop (rule := rule) hp) (w := w) (s := s) (i := i) hj)
 by_cases h0 : 0 < cntS (lessG g rule) w s i j
 ·exfalso
  have h2 := h1.2 h0
  have h3 : drv g w s i j = true := by
   unfold drv at h2 ⊢
   simp only [decide_eq_true_eq] at h2 ⊢
   unfold SignS at h2 ⊢
   split at h2
   ·rename_i hs
    rw [if_pos hs]; exact h2
   ·rename_i hs
    rw [if_neg hs]
    obtain ⟨l, hl, hr⟩ := h2
    exact ⟨l, less_mem hl, Row.more (fun r hr => less_mem hr) hr⟩
  rw [h] at h3
  cases h3
 ·omega
theorem rows_sumD {h : Gr} {D : Int → Nat → Nat → Bool} (hD : ∀ s i j, j ≤ w.length → D s i j = false → cntS h w s i j = 0) : ∀ (l : List Int) (i j : Nat), l ≠ [] → j ≤ w.length → ((rowsL D l i j).map fun r => prodL (r.map (cntK h w))).sum = cntR h w l i j
 | [], _, _, h, _ => absurd rfl h
 | [s], i, j, _, hj => by
  rw [cnt_one, rowsL]
  split
  ·simp [prodL, cntK]
  ·rename_i hd
   rw [hD s i j hj (by simpa using hd)]
   rfl
 | s :: t :: l, i, j, _, hj => by
  rw [rows_two, cnt_two, sum_flat, List.map_map]
  show sumTo _ _ = _
  refine sumTo_congr fun q hq => ?_
  have hd := hD s i (q + (i + 1)) (show q + (i + 1) ≤ w.length by omega)
  have ih := rows_sumD hD (t :: l) (q + (i + 1)) j (by simp) hj
  show ((if D s i (q + (i + 1)) = true then _ else _ : List (List Key)).map _).sum = _
  split
  ·rw [List.map_map]
   show ((rowsL D (t :: l) (q + (i + 1)) j).map fun r => cntK h w (s, ((i : Int), ((q + (i + 1) : Nat) : Int))) * prodL (r.map (cntK h w))).sum = _
   rw [sum_mul', ih]
   unfold cntK
   simp only [Int.toNat_natCast]
  ·rename_i h0
   rw [hd (by simpa using h0)]
   simp
theorem skip_sum {α : Type} (d : α) (F : α → Nat) : ∀ (l : List α) (rule : Nat), rule < l.length → sumTo (fun k => if k = rule then 0 else F (l.getD k d)) l.length = ((l.take rule ++ l.drop (rule + 1)).map F).sum
 | [], _, h => by simp at h
 | x :: l, 0, _ => by
  rw [List.length_cons, sumTo_cons, if_pos rfl]
  simp only [List.take_zero, List.nil_append, Nat.zero_add, List.drop_succ_cons, List.drop_zero]
  rw [← sumTo_list d F l]
  exact sumTo_congr fun i hi => by rw [if_neg (by omega)]; rfl
 | x :: l, rule + 1, h => by
  rw [List.length_cons, sumTo_cons, if_neg (by omega)]
  have ih := skip_sum d F l rule (by simpa using h)
  simp only [List.take_succ_cons, List.drop_succ_cons, List.cons_append, List.map_cons, List.sum_cons]
  rw [← ih]
  congr 1
  refine sumTo_congr fun i hi => ?_
  by_cases e : i = rule
  ·rw [if_pos (by omega), if_pos e]
  ·rw [if_neg (by omega), if_neg e]; rfl
theorem less_sum (hg : GoodG g) (hp : Prop1 g) (hr : rule < g.2.2.2.length) {s : Int} {i j : Nat} (hs : ¬ s < g.1) (hj : j ≤ w.length) :
  ((waysOf g w (s, ((i : Int), (j : Int)))).map fun x => if x.1 = (rule : Int) then 0 else prodL (x.2.map (cntK (lessG g rule) w))).sum = cntS (lessG g rule) w s i j := by
 have hcn := cnt_name (w := w) (i := i) (less_prop (rule := rule) hp) (s := s) hs hj
 have e1 : cntS (lessG g rule) w s i j = ((g.2.2.2.take rule ++ g.2.2.2.drop (rule + 1)).map fun r : Rl => if r.1 = s - g.1 then cntR (lessG g rule) w r.2 i j else 0).sum := by
  rw [hcn]
  exact sumTo_list ((0 : Int), ([] : List Int)) (fun r : Rl => if r.1 = s - g.1 then cntR (lessG g rule) w r.2 i j else 0) (([] ++ g.2.2.2.take rule) ++ g.2.2.2.drop (rule + 1))
 rw [e1, ← skip_sum ((0 : Int), ([] : List Int)) _ _ _ hr]
 unfold waysOf
 rw [sum_flat]
 show sumTo _ _ = _
 refine sumTo_congr fun k hk => ?_
 unfold waysAt
 dsimp only
 simp only [Int.toNat_natCast]
 have hne := (hp _ (getD_mem (d := ((0 : Int), ([] : List Int))) hk)).1
 by_cases h : (g.2.2.2.getD k (0, [])).1 = s - g.1
 ·rw [if_pos (show s = g.1 + (g.2.2.2.getD k (0, [])).1 by omega), List.map_map, if_pos h]
  by_cases hkr : k = rule
  ·rw [if_pos hkr]
   have : ∀ r : List Key, (((fun x : Int × List Key => if x.1 = (rule : Int) then 0 else prodL (x.2.map (cntK (lessG g rule) w))) ∘ fun r => ((k : Int), r)) r) = 0 := fun r => by
    show (if (k : Int) = (rule : Int) then 0 else _) = 0
    rw [if_pos (by omega)]
   rw [List.map_congr_left fun r _ => this r]
   generalize rowsL (drv g w) (g.2.2.2.getD k (0, [])).2 i j = l
   induction l with
   | nil => rfl
   | cons a l ih => rw [List.map_cons, List.sum_cons, ih]
  ·rw [if_neg hkr]
   have : ∀ r : List Key, (((fun x : Int × List Key => if x.1 = (rule : Int) then 0 else prodL (x.2.map (cntK (lessG g rule) w))) ∘ fun r => ((k : Int), r)) r) = prodL (r.map (cntK (lessG g rule) w)) := fun r => by
    show (if (k : Int) = (rule : Int) then 0 else _) = _
    rw [if_neg (by omega)]
   rw [List.map_congr_left fun r _ => this r]
   exact rows_sumD (fun s i j hj hd => less_zero hp hj hd) _ i j hne hj
 ·rw [if_neg (show ¬ s = g.1 + (g.2.2.2.getD k (0, [])).1 by omega), if_neg h]
  split <;> rfl
theorem less_cuts (hg : GoodG g) (hp : Prop1 g) (hF : ForOk g w root S num out) (hr : rule < g.2.2.2.length) :
  Cuts (out, num root) g.1 (rule : Int) (fun i => cntK (lessG g rule) w (S.getD i z3)) ∧
  (∀ i, i < out.length → leftOf (out, num root) (rule : Int) (fun i => cntK (lessG g rule) w (S.getD i z3)) i ≠ [] → cntK (lessG g rule) w (S.getD i z3) = ((leftOf (out, num root) (rule : Int) (fun i => cntK (lessG g rule) w (S.getD i z3)) i).map (wayN fun i => cntK (lessG g rule) w (S.getD i z3))).sum) ∧
  (∀ i, i < out.length → cntK (lessG g rule) w (S.getD i z3) ≠ 0 → leftOf (out, num root) (rule : Int) (fun i => cntK (lessG g rule) w (S.getD i z3)) i = [] → cntK (lessG g rule) w (S.getD i z3) = 1) := by
 obtain ⟨cn, hcn⟩ : ∃ cn : Nat → Nat, (fun i => cntK (lessG g rule) w (S.getD i z3)) = cn := ⟨_, rfl⟩
 have hcv : ∀ i, cntK (lessG g rule) w (S.getD i z3) = cn i := fun i => by rw [← hcn]
 have key : ∀ i, i < out.length → ((S.getD i z3).1 < g.1 → cn i = 1 ∧ waysI (out, num root) i = []) ∧ (¬ (S.getD i z3).1 < g.1 → cn i = ((leftOf (out, num root) (rule : Int) cn i).map (wayN cn)).sum) ∧ (out.getD i zS).1 = (S.getD i z3).1 := by
  intro i hi
  have hl := hF.len
  have hiS : i < S.length := by omega
  obtain ⟨rows, hspot, hrows⟩ := hF.spot i hiS
  have hWr : waysI (out, num root) i = rows := by show (out.getD i zS).2.2.2 = rows; rw [hspot]
  obtain ⟨key, hkey⟩ : ∃ key, S.getD i z3 = key := ⟨_, rfl⟩
  have hkS : key ∈ S := by rw [← hkey]; exact getD_mem hiS
  rw [hkey] at hrows hspot
  obtain ⟨hk1, i1, j1, e1, hij, hj1, hd⟩ := hF.ok _ hkS
  have hck : cn i = cntS (lessG g rule) w key.1 i1 j1 := by
   rw [← hcv, hkey]
   unfold cntK
   rw [e1]
   simp only [Int.toNat_natCast]
  rw [hkey]
  refine ⟨fun hs => ⟨?_, ?_⟩, fun hs => ?_, by rw [hspot]⟩
  ·have hpos := (drv_iff hp hj1).1 hd
   rw [cnt_sym hs] at hpos
   rw [hck, cnt_sym (g := lessG g rule) hs]
   split at hpos
   ·rename_i h; rw [if_pos h]
   ·omega
  ·rw [hWr]
   have h1 := hrows.length_eq
   rw [ways_sym hg hs, List.map_nil] at h1
   exact List.length_eq_zero_iff.1 h1
  ·have e5 : key = (key.1, ((i1 : Int), (j1 : Int))) := Prod.ext rfl e1
   rw [hck, ← less_sum hg hp hr hs hj1, ← e5]
   unfold leftOf
   rw [hWr, sum_filter, (hrows.map _).sum_nat, List.map_map]
   congr 1
   refine List.map_congr_left fun x hx => ?_
   show (if x.1 = (rule : Int) then 0 else prodL (x.2.map (cntK (lessG g rule) w))) = if keepW (rule : Int) cn (x.1 :: x.2.map num) = true then wayN cn (x.1 :: x.2.map num) else 0
   have hpr : wayN cn (x.1 :: x.2.map num) = prodL (x.2.map (cntK (lessG g rule) w)) := by
    rw [wayN_eq, List.drop_succ_cons, List.drop_zero, List.map_map]
    congr 1
    refine List.map_congr_left fun y hy => ?_
    have hyS : y ∈ S := hF.shut _ hkS y (List.mem_flatMap.2 ⟨x, hx, hy⟩)
    obtain ⟨q, hq, e, e4, _⟩ := hF.find hyS
    show cn (num y).toNat = cntK (lessG g rule) w y
    rw [e, Int.toNat_natCast, ← hcv, e4]
   rw [hpr]
   unfold keepW
   by_cases hx0 : x.1 = (rule : Int)
   ·rw [if_pos hx0]
    have : decide ((x.1 :: x.2.map num).getD 0 0 = (rule : Int)) = true := decide_eq_true hx0
    rw [this]
    simp
   ·rw [if_neg hx0]
    have : decide ((x.1 :: x.2.map num).getD 0 0 = (rule : Int)) = false := decide_eq_false hx0
    rw [this]
    simp only [Bool.not_false, Bool.true_and]
    split
    ·rfl
    ·rename_i hall
     refine prodL_zero ?_
     have hall' : ((x.1 :: x.2.map num).drop 1).all (fun k => decide (cn k.toNat ≠ 0)) = false := by simpa using hall
     rw [List.all_eq_false] at hall'
     obtain ⟨k, hk, hk0⟩ := hall'
     rw [List.drop_succ_cons, List.drop_zero] at hk
     obtain ⟨y, hy, rfl⟩ := List.mem_map.1 hk
     have hyS : y ∈ S := hF.shut _ hkS y (List.mem_flatMap.2 ⟨x, hx, hy⟩)
     obtain ⟨q, hq, e, e4, _⟩ := hF.find hyS
     rw [e, Int.toNat_natCast, ← hcv, e4] at hk0
     exact ⟨_, List.mem_map.2 ⟨y, hy, rfl⟩, by simpa using hk0⟩
 simp only [hcv]
 rw [show (fun i => cn i) = cn from rfl]
 refine ⟨fun i hi => ?_, fun i hi hne => ?_, fun i hi hne he => ?_⟩
 ·obtain ⟨k1, k2, k3⟩ := key i hi
  show cn i = 0 ↔ (_ ∧ g.1 ≤ (out.getD i zS).1)
  rw [k3]
  by_cases hs : (S.getD i z3).1 < g.1
  ·rw [(k1 hs).1]
   constructor
   ·intro h; omega
   ·rintro ⟨_, h⟩; omega
  ·rw [k2 hs]
   constructor
   ·intro h
    refine ⟨?_, by omega⟩
    cases hl : leftOf (out, num root) (rule : Int) cn i with
    | nil => rfl
    | cons a l =>
     exfalso
     have ham : a ∈ leftOf (out, num root) (rule : Int) cn i := by rw [hl]; simp
     have hk := (List.mem_filter.1 ham).2
     refine sum_pos ⟨a, ham, ?_⟩ h
     rw [wayN_eq]
     refine prodL_ne fun x hx => ?_
     obtain ⟨k, hk1, rfl⟩ := List.mem_map.1 hx
     unfold keepW at hk
     rw [Bool.and_eq_true] at hk
     simpa using List.all_eq_true.1 hk.2 k hk1
   ·rintro ⟨h, _⟩
    rw [h]
    rfl
 ·obtain ⟨k1, k2, k3⟩ := key i hi
  by_cases hs : (S.getD i z3).1 < g.1
  ·exfalso
   refine hne ?_
   unfold leftOf
   rw [(k1 hs).2]
   rfl
  ·exact k2 hs
 ·obtain ⟨k1, k2, k3⟩ := key i hi
  by_cases hs : (S.getD i z3).1 < g.1
  ·exact (k1 hs).1
  ·exfalso
   rw [k2 hs, he] at hne
   exact hne rfl
end
end Dec
namespace Dec
open Go Go.Proofs Cfg
theorem thicketCut (g : Gr) (w : List Int) (k : Int) (hk : 0 ≤ k) : VC5 g w k (fun b => b = true) := by
 unfold VC5
 refine VC6_of (fun e he hno => ?_) (fun hall hz => ?_) (fun hall hpos => ?_) (fun hall hpos S num out hF => ?_)
 ·refine VC7_of (fun _ => ⟨fun _ => by simp [he], fun h => (by simp at h)⟩) (fun h => absurd h hno)
 ·refine VC7_of (fun h => absurd hall h) (fun _ v hv => ?_)
  have : v = 0 := by unfold CapV at hv; omega
  subst this
  exact ⟨fun _ => by simp, fun h => (by simp at h)⟩
 ·refine VC7_of (fun h => absurd hall h) (fun _ v hv => ?_)
  exact ⟨fun h => by simp, fun _ => ⟨fun _ => by simp, fun h => (by simp at h)⟩⟩
 ·have hall0 := hall
  obtain ⟨hg, hw, hp⟩ := hall
  refine VC7_of (fun h => absurd hall0 h) (fun _ v hv => ?_)
  have hne : v ≠ 0 := by unfold CapV at hv; omega
  refine ⟨fun h => ?_, fun hcond => ⟨fun h => (by simp at h), fun _ => ?_⟩⟩
  ·-- a word with trees has rules
   exfalso
   simp only [Bool.not_true, Bool.false_or, Bool.or_eq_true, decide_eq_true_eq] at h
   rcases h with h | h
   ·exact hne h
   ·have hs : ¬ g.1 + g.2.2.1 < g.1 := by have := hg.start; omega
    have h0 := hpos
    rw [show cntW g w = cntS g w (g.1 + g.2.2.1) 0 w.length from rfl, cnt_name hp hs (Nat.le_refl _), show g.2.2.2.length = 0 by omega] at h0
    exact absurd h0 (by simp [sumTo])
  have hlen : 0 < g.2.2.2.length := by
   by_cases h0 : g.2.2.2.length = 0
   ·rw [h0] at hcond; simp at hcond
   ·omega
  have hfew := hg.few
  obtain ⟨rule, hrule⟩ := Int.eq_ofNat_of_zero_le (Int.emod_nonneg k (show (g.2.2.2.length : Int) ≠ 0 by omega))
  have hlt := Int.emod_lt_of_pos k (show (0 : Int) < (g.2.2.2.length : Int) by omega)
  dsimp only
  rw [hrule] at hlt ⊢
  have hr : rule < g.2.2.2.length := by omega
  refine ⟨⟨hk, by omega⟩, ?_⟩
  have hs := sound_of hg hw hp hF
  obtain ⟨c1, c2, c3⟩ := less_cuts hg hp hF hr
  have hg' := less_good hr hg
  have hp' := less_prop (rule := rule) hp
  have hroot : cntK (lessG g rule) w (S.getD (num (rootK g w)).toNat z3) = cntW (lessG g rule) w := by
   obtain ⟨q, hq, e, e4, _⟩ := hF.find hF.root
   rw [e, Int.toNat_natCast, e4]
   unfold cntK
   simp
  have rest : ∀ (c : Th) (e : Int), (cntW (lessG g rule) w = 0 → e = 5 ∧ c.1.length = 0) → (cntW (lessG g rule) w ≠ 0 → e = 0 ∧ ∃ rk' cn', SoundT c rk' ∧ Counts c cn' ∧ cn' c.2.toNat = cntW (lessG g rule) w ∧ c.1.length ≤ out.length) →
    ((0 ≤ (rule : Int) ∧ (rule : Int) ≤ (g.2.2.2.length : Int)) ∧ InR ((rule : Int) + (1 : Int)) ∧ (0 ≤ ((rule : Int) + (1 : Int)) ∧ ((rule : Int) + (1 : Int)) ≤ (g.2.2.2.length : Int)) ∧ (roomN (([] : List (Int × List Int)).length + (g.2.2.2.take ((rule : Int)).toNat).length) ∧ (roomN ((([] : List (Int × List Int)) ++ (g.2.2.2.take ((rule : Int)).toNat)).length + (g.2.2.2.drop (((rule : Int) + (1 : Int))).toNat).length) ∧ VC9 (g.1, (g.2.1, (g.2.2.1, ((([] : List (Int × List Int)) ++ (g.2.2.2.take ((rule : Int)).toNat)) ++ (g.2.2.2.drop (((rule : Int) + (1 : Int))).toNat))))) w (fun (r : Int × Int) => (((!decide (r.2 = (0 : Int))) = true → decide (r.2 = (1 : Int)) = true) ∧ ((!decide (r.2 = (0 : Int))) = false → (((decide (r.1 = (0 : Int))) = true → ((decide (e = (5 : Int))) && (decide ((c.1.length : Int) = (0 : Int)))) = true) ∧ ((decide (r.1 = (0 : Int))) = false → VC10 c (fun (r2 : Int × Int) => ((((decide (e = (0 : Int))) && (decide (r2.2 = (0 : Int)))) && (decide (r2.1 = r.1))) && (decide ((c.1.length : Int) ≤ (out.length : Int)))) = true))))))))) := by
   intro c e hz hnz
   have e1 : ((rule : Int) + 1).toNat = rule + 1 := by omega
   simp only [Int.toNat_natCast, e1]
   refine ⟨⟨by omega, by omega⟩, by unfold InR; omega, ⟨by omega, by omega⟩, ?_, ?_, ?_⟩
   ·unfold roomN; simp only [List.length_nil, List.length_take]; omega
   ·unfold roomN; simp only [List.nil_append, List.length_take, List.length_drop]; omega
   refine VC9_of (g := lessG g rule) (fun e2 _ h => absurd ⟨hg', hw, hp'⟩ h) (fun _ _ => ⟨fun _ => by simp, fun h => (by simp at h)⟩) (fun _ hle => ⟨fun h => (by simp at h), fun _ => ⟨fun h => ?_, fun h => ?_⟩⟩)
   ·simp only [decide_eq_true_eq] at h
    obtain ⟨h1, h2⟩ := hz (by omega)
    simp [h1, h2]
   ·simp only [decide_eq_false_iff_not] at h
    obtain ⟨h1, rk', cn', h2, h3, h4, h5⟩ := hnz (by omega)
    refine VC10_of h2 h3 (fun hb => ?_) (fun _ => ?_)
    ·exfalso
     rw [h4] at hb
     omega
    ·rw [h4, h1]
     simp only [decide_true, Bool.true_and, decide_eq_true_eq]
     omega
  refine VC11_of hg hs hr c1 (fun h0 => ?_) (fun h0 => ?_)
  ·dsimp only at h0
   rw [hroot] at h0
   exact rest ([], 0) 5 (fun _ => ⟨rfl, rfl⟩) (fun h => absurd h0 h)
  ·have h1 := h0
   dsimp only at h1
   rw [hroot] at h1
   refine cut_count hs c1 c2 c3 h0 fun c rk' cn' k1 k2 k3 k4 => ?_
   refine rest c 0 (fun h => absurd h h1) (fun _ => ⟨rfl, rk', cn', k1, k2, ?_, k4⟩)
   rw [k3]
   exact hroot
end Dec
