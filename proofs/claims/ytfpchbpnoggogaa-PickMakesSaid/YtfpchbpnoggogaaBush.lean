/-
  coppicerref Bush.Trees counts trees (plain).
-/
import Derived.Test.YtfpchbpnoggogaaPkB
set_option linter.unusedSimpArgs false
set_option linter.unusedVariables false
namespace Dec
open Go Go.Proofs Cfg
abbrev Kb := List (List Int × Int)
def Cap2 (v : Int) (n : Nat) : Prop := 0 ≤ v ∧ min v 1099511627777 = min (n : Int) 1099511627777
section
variable {g : Gr} {w : List Int}
def KbOk (g : Gr) (w : List Int) (kn : Kb) : Prop := ∀ s i j v, mget kn [s, i, j] = some v → CapV v (cntS g w s i.toNat j.toNat)
theorem kbOk_nil : KbOk g w [] := by intro s i j v h; cases h
theorem kbOk_mset {kn : Kb} (h : KbOk g w kn) {s i j v : Int} (hv : CapV v (cntS g w s i.toNat j.toNat)) : KbOk g w (mset kn [s, i, j] v) := by
  intro s' i' j' v' h'
  rw [mget_mset] at h'
  split at h'
  · rename_i e
    cases e
    cases h'
    exact hv
  · exact h s' i' j' v' h'
theorem bsign_loop (hg : GoodG g) (hp : Prop1 g) {s : Int} {i j : Nat} (hs : ¬ s < g.1) (hj : j ≤ w.length) {kn0 : Kb} (h0 : KbOk g w kn0) {B : Int × Int × Kb → (Int × Int × Kb → Prop) → Prop}
    (step : ∀ (n : Int) (v : Nat) (kn : Kb) (X : Int × Int × Kb → Prop), v < g.2.2.2.length → KbOk g w kn → ((g.2.2.2.getD v (0, [])).1 = s - g.1 → (∀ r kn', KbOk g w kn' → CapV r (cntR g w (g.2.2.2.getD v (0, [])).2 i j) → InR (n + r) ∧ X (n + r, (v : Int) + 1, kn'))) → ((g.2.2.2.getD v (0, [])).1 ≠ s - g.1 → X (n, (v : Int) + 1, kn)) → B (n, (v : Int), kn) X)
    (stop : ∀ (n : Int) (kn : Kb) (X : Int × Int × Kb → Prop), KbOk g w kn → Cap2 n (cntS g w s i j) → B (n, (g.2.2.2.length : Int), kn) X) : Loop B (0, 0, kn0) := by
  have hfew := hg.few
  refine Loop.by (fun t => ∃ v : Nat, t.2.1 = (v : Int) ∧ v ≤ g.2.2.2.length ∧ KbOk g w t.2.2 ∧ t.1 ≤ 1099511627777 * (v : Int) ∧ Cap2 t.1 (sumTo (fun k => if (g.2.2.2.getD k (0, [])).1 = s - g.1 then cntR g w (g.2.2.2.getD k (0, [])).2 i j else 0) v)) (fun t => ((g.2.2.2.length : Int) - t.2.1).toNat) ⟨0, rfl, by omega, h0, by simp, by unfold Cap2 sumTo; simp⟩ ?_
  rintro ⟨n, v', kn⟩ ⟨v, e, hv, hk, hle, hn⟩ X hX
  dsimp only at e hk hn hle hX
  subst e
  by_cases hlt : v < g.2.2.2.length
  · refine step n v kn X hlt hk (fun hname r kn' hk' hr => ?_) (fun hname => hX _ ⟨v + 1, by simp, by omega, hk, by dsimp only; push_cast; omega, ?_⟩ (by dsimp only; omega))
    · have hr1 : 0 ≤ r ∧ r ≤ 1099511627777 := by unfold CapV at hr; omega
      have hn0 := hn.1
      refine ⟨by unfold InR; omega, hX _ ⟨v + 1, by simp, by omega, hk', by dsimp only; push_cast; omega, ?_⟩ (by dsimp only; omega)⟩
      rw [sumTo_succ, if_pos hname]
      unfold Cap2 CapV at *
      dsimp only
      push_cast
      omega
    · rw [sumTo_succ, if_neg hname]; exact hn
  · have e : v = g.2.2.2.length := by omega
    subst e
    exact stop n kn X hk (by rw [cnt_name hp hs hj]; exact hn)
theorem capped {n : Int} {m : Nat} (h : Cap2 n m) {K : Int → Prop} (hK : ∀ v, CapV v m → K v) : ((decide ((1099511627776 : Int) < n)) = true → K 1099511627777) ∧ ((decide ((1099511627776 : Int) < n)) = false → K n) := by
  unfold Cap2 at h
  refine ⟨fun hc => hK _ ?_, fun hc => hK _ ?_⟩
  · simp only [decide_eq_true_eq] at hc
    unfold CapV; omega
  · simp only [decide_eq_false_iff_not] at hc
    unfold CapV; omega
theorem VC125_cap {a b : Int} {m n : Nat} (ha : CapV a m) (hb : CapV b n) {K : Int → Prop} (h : ∀ v, CapV v (m * n) → K v) : VC125 a b K := by
  have ha0 : 0 ≤ a := by unfold CapV at ha; omega
  have hb0 : 0 ≤ b := by unfold CapV at hb; omega
  unfold VC125 InR
  refine ⟨fun hz => h _ ?_, fun hz => ⟨⟨by omega, ?_⟩, fun hlt => h _ ?_, fun hge => ?_⟩⟩
  · simp only [Bool.or_eq_true, decide_eq_true_eq] at hz
    unfold CapV at *
    have : m = 0 ∨ n = 0 := by omega
    rcases this with e | e <;> subst e <;> simp <;> omega
  · simp only [Bool.or_eq_false_iff, decide_eq_false_iff_not] at hz
    omega
  · simp only [Bool.or_eq_false_iff, decide_eq_false_iff_not] at hz
    simp only [decide_eq_true_eq] at hlt
    exact (mul_cap ha hb (by omega) (by omega)).1 hlt
  · simp only [Bool.or_eq_false_iff, decide_eq_false_iff_not] at hz
    simp only [decide_eq_false_iff_not] at hge
    obtain ⟨h1, h2⟩ := (mul_cap ha hb (by omega) (by omega)).2 hge
    have h3 : 0 < a * b := Int.mul_pos (by omega) (by omega)
    exact ⟨⟨by omega, by omega⟩, h _ h2⟩
def lone (k : Int) (b : List Int) : Nat := if b.length = 1 ∧ k ≤ b.getD 0 0 then 1 else 0
theorem bush_sym {s : Int} {i j : Nat} (hs : s < g.1) (hi : j = i + 1 → i < w.length) {P : Int → Prop} (h : ∀ v, CapV v (cntS g w s i j) → P v) :
    ((decide ((j : Int) = (i : Int) + 1) && decide (w.getD i 0 = s)) = true → P 1) ∧ ((decide ((j : Int) = (i : Int) + 1) && decide (w.getD i 0 = s)) = false → P 0) := sym_ok hs hi h
set_option maxHeartbeats 4000000 in
theorem bush_of (hg : GoodG g) (hw : GoodW g.1 w) (hp : Prop1 g) : ∀ (f : Nat) (b : List Int) (i j : Nat) (kn : Kb) (K : Int × Kb → Prop), 2 * (j - i) + lone g.1 b < f → b ≠ [] → b.length ≤ 4 → (∀ s ∈ b, 0 ≤ s ∧ s < g.1 + g.2.1) → i ≤ j → j ≤ w.length → KbOk g w kn →
    (∀ v kn', KbOk g w kn' → CapV v (cntR g w b i j) → K (v, kn')) → VCc99_it g.1 g.2.1 g.2.2.1 g.2.2.2 w f b (i : Int) (j : Int) kn K := by
  intro f
  induction f with
  | zero => intro b i j kn K h; omega
  | succ f ih =>
    intro b i j kn K hf hb0 hb4 hsub hij hj hk hK
    have hk3 := hg.k
    have hn5 := hg.n
    have hfew := hg.few
    have hw12 := hw.1
    -- the rules of a name
    have rules : ∀ (s : Int) (i j : Nat) (kn : Kb) (B : Int × Int × Kb → (Int × Int × Kb → Prop) → Prop), ¬ s < g.1 → i ≤ j → j ≤ w.length → 2 * (j - i) < f → KbOk g w kn →
        (∀ n v kn X, v < g.2.2.2.length → ((g.2.2.2.getD v (0, [])).1 = s - g.1 → VCc99_it g.1 g.2.1 g.2.2.1 g.2.2.2 w f (g.2.2.2.getD v (0, [])).2 (i : Int) (j : Int) kn (fun r => InR (n + r.1) ∧ X (n + r.1, (v : Int) + 1, r.2))) → ((g.2.2.2.getD v (0, [])).1 ≠ s - g.1 → X (n, (v : Int) + 1, kn)) → B (n, (v : Int), kn) X) →
        (∀ n kn X, KbOk g w kn → Cap2 n (cntS g w s i j) → B (n, (g.2.2.2.length : Int), kn) X) → Loop B (0, 0, kn) := by
      intro s i j kn B hs hij hj hf hk hstep hstop
      refine bsign_loop hg hp hs hj hk (fun n v kn X hv hk' hhit hmiss => hstep n v kn X hv (fun he => ?_) hmiss) hstop
      have hvm : g.2.2.2.getD v (0, []) ∈ g.2.2.2 := getD_mem hv
      obtain ⟨hne, hl⟩ := hp _ hvm
      refine ih _ i j kn _ ?_ hne (hg.short _ hvm) (hg.right _ hvm) hij hj hk' (fun r kn' hk'' hr => hhit he r kn' hk'' hr)
      have : lone g.1 (g.2.2.2.getD v (0, [])).2 = 0 := by
        unfold lone
        rw [if_neg]
        rintro ⟨h1, h2⟩
        obtain ⟨x, hx⟩ := List.length_eq_one_iff.1 h1
        have := hl x hx
        rw [hx] at h2
        simp at h2
        omega
      omega
    show VCc99 g.1 g.2.1 g.2.2.1 g.2.2.2 w (VCc99_it g.1 g.2.1 g.2.2.1 g.2.2.2 w f) b (i : Int) (j : Int) kn K
    unfold VCc99
    simp only [Int.toNat_natCast]
    refine ⟨by unfold InR; omega, fun hshort => ?_, fun hlong => ⟨fun h0 => ?_, fun _ => ⟨fun hone => ?_, fun hmany => ?_⟩⟩⟩
    · simp only [decide_eq_true_eq] at hshort
      refine hK 0 kn hk ?_
      rw [cnt_short hp (by omega)]
      exact capV_zero
    · simp only [decide_eq_true_eq] at h0
      exact absurd (List.length_eq_zero_iff.1 (by omega)) hb0
    · simp only [decide_eq_true_eq] at hone
      simp only [decide_eq_false_iff_not] at hlong
      obtain ⟨s, rfl⟩ := List.length_eq_one_iff.1 (show b.length = 1 by omega)
      simp only [Int.toNat_zero, List.getD_cons_zero]
      have hsr := hsub s List.mem_cons_self
      refine ⟨⟨by omega, by simp⟩, fun hsym => ?_, fun hname => ?_⟩
      · simp only [decide_eq_true_eq] at hsym
        refine ⟨by unfold InR; omega, fun he => ?_, ?_⟩
        · simp only [decide_eq_true_eq] at he
          exact ⟨by omega, by omega⟩
        · exact bush_sym (P := fun v => VCc99_k1 K v kn) hsym (by omega) (fun v hv => hK v kn hk (by rw [cnt_one]; exact hv))
      · simp only [decide_eq_false_iff_not] at hname
        have hl1 : lone g.1 [s] = 1 := by unfold lone; rw [if_pos ⟨rfl, by simp; omega⟩]
        rw [hl1] at hf
        refine ⟨fun hsame => ?_, fun hne => ⟨fun hsome => ?_, fun hnone => ?_⟩⟩
        · simp only [decide_eq_true_eq] at hsame
          simp only [List.length_singleton] at hlong
          omega
        · obtain ⟨v, hv⟩ := Option.isSome_iff_exists.1 hsome
          rw [hv]
          have := hk _ _ _ _ hv
          rw [Int.toNat_natCast, Int.toNat_natCast] at this
          exact hK v kn hk (by rw [cnt_one]; exact this)
        · have hnn : mget kn [s, (i : Int), (j : Int)] = none := by
            cases h : mget kn [s, (i : Int), (j : Int)] with
            | none => rfl
            | some v => rw [h] at hnone; cases hnone
          rw [hnn]
          refine rules s i j kn _ hname hij hj (by omega) hk ?_ ?_
          · intro n v kn X hv hhit hmiss
            dsimp only
            unfold VCc99_l1 VCc99_k4
            simp only [Int.toNat_natCast, Int.toNat_zero, List.getD_cons_zero]
            refine ⟨fun hb => ⟨⟨by omega, by omega⟩, by unfold InR; omega, fun he => ?_, fun hne => ?_⟩, fun hb => ?_⟩
            · simp only [decide_eq_true_eq] at he
              have hvR : InR ((v : Int) + 1) := by unfold InR; omega
              have := hhit he
              simp only [hvR, true_and]
              exact this
            · simp only [decide_eq_false_iff_not] at hne
              exact ⟨by unfold InR; omega, hmiss hne⟩
            · simp only [decide_eq_false_iff_not] at hb
              omega
          · intro n kn X hk' hn
            dsimp only
            unfold VCc99_l1
            refine ⟨fun hb => ?_, fun _ => ?_⟩
            · simp only [decide_eq_true_eq] at hb
              omega
            · unfold VCc99_k2 VCc99_k3 VCc99_k1
              simp only [Int.toNat_zero, List.getD_cons_zero]
              exact capped hn (K := fun v => K (v, mset kn [s, (i : Int), (j : Int)] v)) (fun v hv => hK v _ (kbOk_mset hk' (by rw [Int.toNat_natCast, Int.toNat_natCast]; exact hv)) (by rw [cnt_one]; exact hv))
    · simp only [decide_eq_false_iff_not] at hmany hlong
      have hl0 : lone g.1 b = 0 := by unfold lone; rw [if_neg]; omega
      refine ⟨by unfold InR; omega, ?_⟩
      obtain ⟨s, b', rfl⟩ := List.exists_cons_of_ne_nil hb0
      cases b' with
      | nil => simp at hmany
      | cons t l =>
      have hsr := hsub s List.mem_cons_self
      simp only [List.length_cons] at hlong hb4
      refine Loop.by (fun q => ∃ e : Nat, q.2.1 = (e : Int) ∧ i + 1 ≤ e ∧ e ≤ j ∧ KbOk g w q.2.2 ∧ CapV q.1 (sumTo (fun q => cntS g w s i (q + (i + 1)) * cntR g w (t :: l) (q + (i + 1)) j) (e - (i + 1)))) (fun q => ((j : Int) - q.2.1).toNat) ⟨i + 1, by simp, by omega, by omega, hk, by rw [Nat.sub_self]; exact capV_zero⟩ ?_
      rintro ⟨n, e', kn1⟩ ⟨e, he, hie, hej, hk1, hn⟩ X hX
      dsimp only at he hk1 hn hX
      subst he
      dsimp only
      unfold VCc99_l2
      simp only [Int.toNat_natCast, Int.toNat_zero, List.getD_cons_zero, Int.toNat_one, List.drop_succ_cons, List.drop_zero]
      refine ⟨fun hb => ⟨⟨by omega, by simp only [List.length_cons]; omega⟩, ?_⟩, fun hb => ?_⟩
      · simp only [decide_eq_true_eq] at hb
        have hsum : sumTo (fun q => cntS g w s i (q + (i + 1)) * cntR g w (t :: l) (q + (i + 1)) j) (e + 1 - (i + 1)) = sumTo (fun q => cntS g w s i (q + (i + 1)) * cntR g w (t :: l) (q + (i + 1)) j) (e - (i + 1)) + cntS g w s i e * cntR g w (t :: l) e j := by
          rw [show e + 1 - (i + 1) = (e - (i + 1)) + 1 by omega, sumTo_succ, show e - (i + 1) + (i + 1) = e by omega]
        refine ih (t :: l) e j kn1 _ (by
          have : lone g.1 (t :: l) ≤ 1 := by unfold lone; split <;> omega
          omega) (by simp) (by simp only [List.length_cons]; omega) (fun x hx => hsub x (List.mem_cons_of_mem _ hx)) hej hj hk1 (fun r kn2 hk2 hr => ?_)
        dsimp only
        have hk6 : ∀ (v : Int) (kn3 : Kb), KbOk g w kn3 → Cap2 v (sumTo (fun q => cntS g w s i (q + (i + 1)) * cntR g w (t :: l) (q + (i + 1)) j) (e - (i + 1)) + cntS g w s i e * cntR g w (t :: l) e j) → VCc99_k6 (e : Int) X v kn3 := by
          intro v kn3 hk3' hv
          unfold VCc99_k6 VCc99_k7
          refine capped hv (K := fun v => InR ((e : Int) + 1) ∧ X (v, (e : Int) + 1, kn3)) (fun v' hv' => ⟨by unfold InR; omega, hX _ ⟨e + 1, by simp, by omega, by omega, hk3', ?_⟩ (by dsimp only; omega)⟩)
          dsimp only
          rw [hsum]
          exact hv'
        have hk8 : ∀ (v : Int) (kn3 : Kb), KbOk g w kn3 → CapV v (cntS g w s i e) → VCc99_k8 n (e : Int) X (r, kn2) v kn3 := by
          intro v kn3 hk3' hv
          unfold VCc99_k8
          refine VC125_cap hv hr fun x hx => ⟨?_, hk6 _ kn3 hk3' ?_⟩
          · unfold CapV at hx hn
            unfold InR
            omega
          · unfold CapV at hx hn
            unfold Cap2
            push_cast
            push_cast at hx
            omega
        refine ⟨fun hpos => ⟨⟨by omega, by simp only [List.length_cons]; omega⟩, fun hsym => ?_, fun hname => ?_⟩, fun hz => ?_⟩
        · simp only [decide_eq_true_eq] at hsym
          refine ⟨by unfold InR; omega, fun he => ?_, ?_⟩
          · simp only [decide_eq_true_eq] at he
            exact ⟨by omega, by omega⟩
          · exact bush_sym (P := fun v => VCc99_k8 n (e : Int) X (r, kn2) v kn2) hsym (by omega) (fun v hv => hk8 v kn2 hk2 hv)
        · simp only [decide_eq_false_iff_not] at hname
          refine ⟨fun hsame => ?_, fun hne => ⟨fun hsome => ?_, fun hnone => ?_⟩⟩
          · simp only [decide_eq_true_eq] at hsame
            omega
          · obtain ⟨v, hv⟩ := Option.isSome_iff_exists.1 hsome
            rw [hv]
            have := hk2 _ _ _ _ hv
            rw [Int.toNat_natCast, Int.toNat_natCast] at this
            exact hk8 v kn2 hk2 this
          · have hnn : mget kn2 [s, (i : Int), (e : Int)] = none := by
              cases h : mget kn2 [s, (i : Int), (e : Int)] with
              | none => rfl
              | some v => rw [h] at hnone; cases hnone
            rw [hnn]
            refine rules s i e kn2 _ hname (by omega) (by omega) (by omega) hk2 ?_ ?_
            · intro n2 v kn X3 hv hhit hmiss
              dsimp only
              unfold VCc99_l3 VCc99_k11
              simp only [Int.toNat_natCast, Int.toNat_zero, List.getD_cons_zero]
              refine ⟨fun hb => ⟨⟨by omega, by omega⟩, by unfold InR; omega, fun he => ?_, fun hne => ?_⟩, fun hb => ?_⟩
              · simp only [decide_eq_true_eq] at he
                have hvR : InR ((v : Int) + 1) := by unfold InR; omega
                have := hhit he
                simp only [hvR, true_and]
                exact this
              · simp only [decide_eq_false_iff_not] at hne
                exact ⟨by unfold InR; omega, hmiss hne⟩
              · simp only [decide_eq_false_iff_not] at hb
                omega
            · intro n2 kn X3 hk' hn2
              dsimp only
              unfold VCc99_l3
              refine ⟨fun hb => ?_, fun _ => ?_⟩
              · simp only [decide_eq_true_eq] at hb
                omega
              · unfold VCc99_k9 VCc99_k10
                simp only [Int.toNat_zero, List.getD_cons_zero]
                exact capped hn2 (K := fun v => VCc99_k8 n (e : Int) X (r, kn2) v (mset kn [s, (i : Int), (e : Int)] v)) (fun v hv => hk8 v _ (kbOk_mset hk' (by rw [Int.toNat_natCast, Int.toNat_natCast]; exact hv)) hv)
        · simp only [decide_eq_false_iff_not] at hz
          have h0 : cntR g w (t :: l) e j = 0 := by unfold CapV at hr; omega
          refine hk6 n kn2 hk2 ?_
          rw [h0, Nat.mul_zero, Nat.add_zero]
          unfold CapV at hn
          unfold Cap2
          omega
      · simp only [decide_eq_false_iff_not] at hb
        have ej : e = j := by omega
        subst ej
        unfold VCc99_k5
        exact hK n _ hk1 (by rw [cnt_two]; exact hn)
theorem VC34_of {K : Int × Bool → Prop} (hno : ¬ All g w → K (0, false)) (hyes : All g w → ∀ v, CapV v (cntW g w) → K (v, true)) : VC34 g w K := by
  unfold VC34
  refine VC21_of fun b hb => ?_
  cases b with
  | false =>
    refine gcall_both (fun h => (by cases h)) (fun _ => ⟨fun _ => hno fun h => ?_, fun h => (by cases h)⟩)
    have := hb.2 ⟨h.1, h.2.1⟩
    cases this
  | true =>
    obtain ⟨hg, hw⟩ := hb.1 rfl
    refine gcall_both (fun _ => VC28_of hg fun r hr => ?_) (fun h => (by cases h))
    cases r with
    | false =>
      refine ⟨fun _ => hno fun h => ?_, fun h => (by cases h)⟩
      have := hr.2 h.2.2
      cases this
    | true =>
      have hp := hr.1 rfl
      have hk := hg.k
      have hn := hg.n
      have hst := hg.start
      have hfew := hg.few
      have hw12 := hw.1
      have hs : ¬ g.1 + g.2.2.1 < g.1 := by omega
      refine ⟨fun h => (by cases h), fun _ => ⟨by unfold InR; omega, fun hc => ?_, fun _ => ⟨fun h0 => ?_, fun _ => ⟨fun hsome => (by cases hsome), fun _ => ?_⟩⟩⟩⟩
      · simp only [decide_eq_true_eq] at hc
        omega
      · simp only [decide_eq_true_eq] at h0
        have e0 : cntW g w = 0 := by
          show cntS g w (g.1 + g.2.2.1) 0 w.length = 0
          rw [← cnt_one]
          exact cnt_short hp (by simp only [List.length_singleton]; omega)
        unfold VC34_k1
        refine hyes ⟨hg, hw, hp⟩ 0 ?_
        rw [e0]
        exact capV_zero
      · refine bsign_loop hg (w := w) hp (s := g.1 + g.2.2.1) (i := 0) (j := w.length) hs (Nat.le_refl _) kbOk_nil ?_ ?_
        · intro n v kn X hv hk' hhit hmiss
          dsimp only
          unfold VC34_l1 VC34_k4
          simp only [Int.toNat_natCast]
          refine ⟨fun hb => ⟨⟨by omega, by omega⟩, by unfold InR; omega, fun he => ?_, fun hne => ?_⟩, fun hb => ?_⟩
          · simp only [decide_eq_true_eq] at he
            have hvm : g.2.2.2.getD v (0, []) ∈ g.2.2.2 := getD_mem hv
            have hne := (hp _ hvm).1
            refine ⟨2 * w.length + 2, bush_of hg hw hp _ _ 0 w.length kn _ (by
              have : lone g.1 (g.2.2.2.getD v (0, [])).2 ≤ 1 := by unfold lone; split <;> omega
              omega) hne (hg.short _ hvm) (hg.right _ hvm) (by omega) (by omega) hk' (fun r kn' hk'' hr' => ?_)⟩
            have := hhit he r kn' hk'' hr'
            exact ⟨this.1, by unfold InR; omega, this.2⟩
          · simp only [decide_eq_false_iff_not] at hne
            exact ⟨by unfold InR; omega, hmiss hne⟩
          · simp only [decide_eq_false_iff_not] at hb
            omega
        · intro n kn X hk' hn'
          dsimp only
          unfold VC34_l1
          refine ⟨fun hb => ?_, fun _ => ?_⟩
          · simp only [decide_eq_true_eq] at hb
            omega
          · unfold VC34_k2 VC34_k3 VC34_k1
            exact capped hn' (K := fun v => K (v, true)) (fun v hv => hyes ⟨hg, hw, hp⟩ v hv)
end
end Dec
namespace Dec
open Go Go.Proofs Cfg
theorem VC22_of {a b : List Int} (hl : a.length ≤ 1000) {K : Bool → Prop} (h : K (decide (a = b))) : VC22 a b K := by
  unfold VC22
  refine ⟨fun hne => ?_, fun heq => ?_⟩
  · have : a ≠ b := by
      intro e
      simp only [Bool.not_eq_true', decide_eq_false_iff_not] at hne
      exact hne (by rw [e])
    rwa [decide_eq_false this] at h
  · have hlen : a.length = b.length := by
      simp only [Bool.not_eq_false', decide_eq_true_eq] at heq
      omega
    refine loop_count a.length (fun i => ∀ j, j < i → a.getD j 0 = b.getD j 0) (by intro j hj; omega) ?_
    intro i hi hP X hX
    unfold VC22_l1
    simp only [Int.toNat_natCast]
    refine ⟨fun hb => ?_, fun hb => ?_⟩
    · simp only [decide_eq_true_eq] at hb
      refine ⟨⟨by omega, by omega⟩, ⟨by omega, by omega⟩, fun hd => ?_, fun hs => ⟨by unfold InR; omega, hX (by omega) fun j hj => ?_⟩⟩
      · simp only [Bool.not_eq_true', decide_eq_false_iff_not] at hd
        have : a ≠ b := fun e => hd (by rw [e])
        rwa [decide_eq_false this] at h
      · simp only [Bool.not_eq_false', decide_eq_true_eq] at hs
        by_cases e : j < i
        · exact hP j e
        · have : j = i := by omega
          subst this
          exact hs
    · simp only [decide_eq_false_iff_not] at hb
      unfold VC22_k1
      have : a = b := ext_getD 0 hlen fun j hj => hP j (by omega)
      rwa [decide_eq_true this] at h
end Dec
