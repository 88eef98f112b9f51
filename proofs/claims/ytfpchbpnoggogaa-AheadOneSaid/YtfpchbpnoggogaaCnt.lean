/-
  Counter.Row, Trees and the tests for proper grammars (plain).
-/
import Derived.Test.YtfpchbpnoggogaaLead
set_option linter.unusedSimpArgs false
set_option linter.unusedVariables false
namespace Dec
open Go Go.Proofs Cfg

abbrev Kn := List ((Int × (Int × (Int × Int))) × Int)

def OkV (cl : Prop) (v : Int) (P : Prop) : Prop := 0 ≤ v ∧ v ≤ 1099511627777 ∧ (0 < v ↔ P) ∧ (cl → v ≤ 1)

theorem OkV.iff {cl : Prop} {v : Int} {P Q : Prop} (h : OkV cl v P) (e : P ↔ Q) : OkV cl v Q := ⟨h.1, h.2.1, h.2.2.1.trans e, h.2.2.2⟩

theorem okV_zero {cl P : Prop} (h : ¬ P) : OkV cl 0 P := ⟨by omega, by omega, ⟨fun h => absurd h (by decide), fun h' => absurd h' h⟩, fun _ => by decide⟩

theorem okV_one {cl P : Prop} (h : P) : OkV cl 1 P := ⟨by omega, by omega, ⟨fun _ => h, fun _ => by decide⟩, fun _ => by decide⟩

theorem VC109_of {cl P Q : Prop} {a b : Int} (ha : OkV cl a P) (hb : OkV cl b Q) (hx : cl → ¬ (P ∧ Q)) {K : Int → Prop} (h : ∀ v, OkV cl v (P ∨ Q) → K v) : VC109 a b K := by
  obtain ⟨a1, a2, a3, a4⟩ := ha
  obtain ⟨b1, b2, b3, b4⟩ := hb
  unfold VC109 InR
  refine ⟨by omega, h _ ?_⟩
  unfold imin
  refine ⟨by omega, by omega, ?_, ?_⟩
  · rw [← a3, ← b3]; omega
  · intro hc
    have h1 := a4 hc
    have h2 := b4 hc
    have h3 := hx hc
    rw [← a3, ← b3] at h3
    omega

theorem VC124_of {cl P Q : Prop} {a b : Int} (ha : OkV cl a P) (hb : OkV cl b Q) {K : Int → Prop} (h : ∀ v, OkV cl v (P ∧ Q) → K v) : VC124 a b K := by
  obtain ⟨a1, a2, a3, a4⟩ := ha
  obtain ⟨b1, b2, b3, b4⟩ := hb
  unfold VC124 InR
  refine ⟨fun hz => h _ (okV_zero ?_), fun hz => ⟨⟨by omega, ?_⟩, fun hlt => h _ ?_, fun hge => ?_⟩⟩
  · rw [← a3, ← b3]
    simp only [Bool.or_eq_true, decide_eq_true_eq] at hz
    omega
  · simp only [Bool.or_eq_false_iff, decide_eq_false_iff_not] at hz
    omega
  · simp only [Bool.or_eq_false_iff, decide_eq_false_iff_not] at hz
    simp only [decide_eq_true_eq] at hlt
    refine ⟨by omega, by omega, ?_, ?_⟩
    · rw [← a3, ← b3]; omega
    · intro hc
      have h1 := a4 hc
      have h2 := b4 hc
      have e1 : b = 1 := by omega
      subst e1
      omega
  · simp only [Bool.or_eq_false_iff, decide_eq_false_iff_not] at hz
    simp only [decide_eq_false_iff_not] at hge
    have hb0 : 0 < b := by omega
    have h1 : a ≤ 1099511627777 / b := by omega
    have h2 : a * b ≤ 1099511627777 := (Int.le_ediv_iff_mul_le hb0).1 h1
    have h3 : 0 < a * b := Int.mul_pos (by omega) hb0
    unfold imin
    refine ⟨⟨by omega, by omega⟩, h _ ⟨by omega, by omega, ?_, ?_⟩⟩
    · rw [← a3, ← b3]; omega
    · intro hc
      have h1 := a4 hc
      have h2 := b4 hc
      have e1 : b = 1 := by omega
      have e2 : a = 1 := by omega
      subst e1 e2
      omega

section
variable {g : Gr} {w : List Int}

abbrev ClG (g : Gr) : Prop := Clear g.1 g.2.2.2

def Mean (g : Gr) (w : List Int) (c x i j : Int) : Prop := if c = -1 then Row g.1 g.2.2.2 w [x] i.toNat j.toNat else Row g.1 g.2.2.2 w ((g.2.2.2.getD c.toNat (0, [])).2.drop x.toNat) i.toNat j.toNat

def KnOk (g : Gr) (w : List Int) (kn : Kn) : Prop := ∀ c x i j v, mget kn (c, (x, (i, j))) = some v → OkV (ClG g) v (Mean g w c x i j)

theorem knOk_nil : KnOk g w [] := by intro c x i j v h; cases h

theorem knOk_mset {kn : Kn} (h : KnOk g w kn) {c x i j v : Int} (hv : OkV (ClG g) v (Mean g w c x i j)) : KnOk g w (mset kn (c, (x, (i, j))) v) := by
  intro c' x' i' j' v' h'
  rw [mget_mset] at h'
  split at h'
  · rename_i e
    cases e
    cases h'
    exact hv
  · exact h c' x' i' j' v' h'

/-- the sum over the rules of a name -/
theorem sign_loop (hp : Prop1 g.1 g.2.2.2) {s : Int} {i j : Nat} (hs : ¬ s < g.1) {kn0 : Kn} (h0 : KnOk g w kn0) {B : Int × Int × Kn → (Int × Int × Kn → Prop) → Prop}
    (step : ∀ (n : Int) (v : Nat) (kn : Kn) (X : Int × Int × Kn → Prop), v < g.2.2.2.length → KnOk g w kn → ((g.2.2.2.getD v (0, [])).1 = s - g.1 → (∀ r kn', KnOk g w kn' → OkV (ClG g) r (Row g.1 g.2.2.2 w (g.2.2.2.getD v (0, [])).2 i j) → VC109 n r (fun n' => X (n', (v : Int) + 1, kn')))) → ((g.2.2.2.getD v (0, [])).1 ≠ s - g.1 → X (n, (v : Int) + 1, kn)) → B (n, (v : Int), kn) X)
    (stop : ∀ (n : Int) (kn : Kn) (X : Int × Int × Kn → Prop), KnOk g w kn → OkV (ClG g) n (Row g.1 g.2.2.2 w [s] i j) → B (n, (g.2.2.2.length : Int), kn) X) : Loop B (0, 0, kn0) := by
  refine Loop.by (fun t => ∃ v : Nat, t.2.1 = (v : Int) ∧ v ≤ g.2.2.2.length ∧ KnOk g w t.2.2 ∧ OkV (ClG g) t.1 (∃ a, a < v ∧ (g.2.2.2.getD a (0, [])).1 = s - g.1 ∧ Row g.1 g.2.2.2 w (g.2.2.2.getD a (0, [])).2 i j)) (fun t => ((g.2.2.2.length : Int) - t.2.1).toNat) ⟨0, rfl, by omega, h0, okV_zero (by rintro ⟨a, ha, _⟩; omega)⟩ ?_
  rintro ⟨n, v', kn⟩ ⟨v, e, hv, hk, hn⟩ X hX
  dsimp only at e hk hn hX
  subst e
  by_cases hlt : v < g.2.2.2.length
  · refine step n v kn X hlt hk (fun hname r kn' hk' hr => VC109_of hn hr ?_ fun v' hv' => hX _ ⟨v + 1, by simp, by omega, hk', hv'.iff ?_⟩ (by dsimp only; omega)) (fun hname => hX _ ⟨v + 1, by simp, by omega, hk, hn.iff ?_⟩ (by dsimp only; omega))
    · rintro hc ⟨⟨a, ha, h1, h2⟩, h3⟩
      have := Clear.fit hp hc (a := a) (b := v) (by omega) hlt (by rw [h1, hname]) h2 h3
      omega
    · constructor
      · rintro (⟨a, ha, h1, h2⟩ | h3)
        · exact ⟨a, by omega, h1, h2⟩
        · exact ⟨v, by omega, hname, h3⟩
      · rintro ⟨a, ha, h1, h2⟩
        by_cases e : a = v
        · subst e; exact Or.inr h2
        · exact Or.inl ⟨a, by omega, h1, h2⟩
    · constructor
      · rintro ⟨a, ha, h1, h2⟩
        exact ⟨a, by omega, h1, h2⟩
      · rintro ⟨a, ha, h1, h2⟩
        by_cases e : a = v
        · subst e; exact absurd h1 hname
        · exact ⟨a, by omega, h1, h2⟩
  · have e : v = g.2.2.2.length := by omega
    subst e
    refine stop n kn X hk (hn.iff ?_)
    rw [row_name hs]

/-- a symbol's stretch -/
theorem sym_ok {s : Int} {i j : Nat} (hs : s < g.1) {cl : Prop} (hi : j = i + 1 → i < w.length) {P : Int → Prop} (h : ∀ v, OkV cl v (Row g.1 g.2.2.2 w [s] i j) → P v) :
    ((decide ((j : Int) = (i : Int) + 1) && decide (w.getD i 0 = s)) = true → P 1) ∧ ((decide ((j : Int) = (i : Int) + 1) && decide (w.getD i 0 = s)) = false → P 0) := by
  constructor
  · intro hc
    simp only [Bool.and_eq_true, decide_eq_true_eq] at hc
    refine h 1 (okV_one ((row_sym hs).2 ⟨by omega, ?_⟩))
    rw [getD_opt (d := 0) (hi (by omega)), hc.2]
  · intro hc
    refine h 0 (okV_zero fun hr => ?_)
    obtain ⟨h1, h2⟩ := (row_sym hs).1 hr
    rw [getD_opt (d := 0) (hi h1)] at h2
    have : ((decide ((j : Int) = (i : Int) + 1) && decide (w.getD i 0 = s)) = true) := by
      simp only [Bool.and_eq_true, decide_eq_true_eq]
      exact ⟨by omega, by simpa using h2⟩
    rw [this] at hc
    cases hc
end
end Dec
namespace Dec
open Go Go.Proofs Cfg
section
variable {g : Gr} {w : List Int}

theorem mean_sign {s : Int} {i j : Nat} : Mean g w (-1) s (i : Int) (j : Int) = Row g.1 g.2.2.2 w [s] i j := by
  unfold Mean
  rw [if_pos rfl, Int.toNat_natCast, Int.toNat_natCast]

theorem mean_row {c r i j : Nat} : Mean g w (c : Int) (r : Int) (i : Int) (j : Int) = Row g.1 g.2.2.2 w ((g.2.2.2.getD c (0, [])).2.drop r) i j := by
  unfold Mean
  rw [if_neg (by omega)]
  simp only [Int.toNat_natCast]

set_option maxHeartbeats 4000000 in
theorem row_of (hg : GoodG g) (hw : GoodW g.1 w) (hp : Prop1 g.1 g.2.2.2) : ∀ (f : Nat) (c rule i j : Nat) (kn : Kn) (K : Int × Kn → Prop), 2 * (j - i) + (if rule = 0 then 0 else 1) < f → c < g.2.2.2.length → rule < (g.2.2.2.getD c (0, [])).2.length → i ≤ j → j ≤ w.length → KnOk g w kn →
    (∀ v kn', KnOk g w kn' → OkV (ClG g) v (Row g.1 g.2.2.2 w ((g.2.2.2.getD c (0, [])).2.drop rule) i j) → K (v, kn')) → VCc100_it g.1 g.2.1 g.2.2.1 g.2.2.2 w f (c : Int) (rule : Int) (i : Int) (j : Int) kn K := by
  intro f
  induction f with
  | zero => intro c rule i j kn K h; omega
  | succ f ih =>
    intro c rule i j kn K hf hc hr hij hj hk hK
    have hk3 := hg.k
    have hn5 := hg.n
    have hfew := hg.few
    have hw12 := hw.1
    have hmem : g.2.2.2.getD c (0, []) ∈ g.2.2.2 := getD_mem hc
    have hshort := hg.short _ hmem
    have hright := hg.right _ hmem
    have hcp := hp _ hmem
    show VCc100 g.1 g.2.1 g.2.2.1 g.2.2.2 w (VCc100_it g.1 g.2.1 g.2.2.1 g.2.2.2 w f) (c : Int) (rule : Int) (i : Int) (j : Int) kn K
    unfold VCc100
    simp only [Int.toNat_natCast]
    have hdrop1 : (g.2.2.2.getD c (0, [])).2.drop (rule + 1) = ((g.2.2.2.getD c (0, [])).2.drop rule).drop 1 := by rw [List.drop_drop]
    have hlt : ((g.2.2.2.getD c (0, [])).2.drop rule).length = (g.2.2.2.getD c (0, [])).2.length - rule := List.length_drop
    have hsub : ∀ s ∈ (g.2.2.2.getD c (0, [])).2.drop rule, 0 ≤ s ∧ s < g.1 + g.2.1 := fun s hs => hright s (List.mem_of_mem_drop hs)
    have hlone : rule = 0 → ∀ s, (g.2.2.2.getD c (0, [])).2.drop rule = [s] → s < g.1 := by
      intro e s h
      rw [e, List.drop_zero] at h
      exact hcp.2 s h
    refine ⟨⟨by omega, by omega⟩, ⟨by omega, by omega⟩, by unfold InR; omega, fun hshorter => ?_, fun hlong => ?_⟩
    · simp only [decide_eq_true_eq] at hshorter
      refine hK 0 kn hk (okV_zero fun h => ?_)
      have := h.len hp
      omega
    simp only [decide_eq_false_iff_not] at hlong
    obtain ⟨t, ht⟩ : ∃ t, (g.2.2.2.getD c (0, [])).2.drop rule = t := ⟨_, rfl⟩
    rw [ht] at hdrop1 hlt hsub hlone hK hlong
    simp only [ht]
    cases t with
    | nil => simp only [List.length_nil] at hlt; omega
    | cons s l =>
    simp only [Int.toNat_zero, List.getD_cons_zero]
    simp only [List.drop_succ_cons, List.drop_zero] at hdrop1
    have hsr := hsub s (List.mem_cons_self)
    refine ⟨fun hone => ?_, fun hmany => ?_⟩
    · simp only [decide_eq_true_eq] at hone
      have hl : l = [] := by
        cases l with
        | nil => rfl
        | cons a b => simp only [List.length_cons] at hone; omega
      subst hl
      refine ⟨⟨by omega, by simp⟩, fun hsym => ?_, fun hname => ?_⟩
      · simp only [decide_eq_true_eq] at hsym
        refine ⟨by unfold InR; omega, fun he => ?_, ?_⟩
        · simp only [decide_eq_true_eq] at he
          exact ⟨by omega, by omega⟩
        · exact sym_ok (P := fun v => VCc100_k1 K v kn) hsym (cl := ClG g) (by omega) (fun v hv => hK v kn hk hv)
      · simp only [decide_eq_false_iff_not] at hname
        have hr0 : rule ≠ 0 := fun e => hname (hlone e s rfl)
        rw [if_neg hr0] at hf
        refine ⟨fun hsome => ?_, fun hnone => ?_⟩
        · obtain ⟨v, hv⟩ := Option.isSome_iff_exists.1 hsome
          rw [hv]
          have := hk _ _ _ _ _ hv
          rw [mean_sign] at this
          exact hK v kn hk this
        · refine sign_loop hp (s := s) (i := i) (j := j) hname hk ?_ ?_
          · intro n v kn X hv hk' hhit hmiss
            dsimp only
            unfold VCc100_l1
            simp only [Int.toNat_natCast]
            simp only [ht, Int.toNat_zero, List.getD_cons_zero]
            refine ⟨fun hb => ⟨⟨by omega, by omega⟩, by unfold InR; omega, fun he => ?_, fun hne => ?_⟩, fun hb => ?_⟩
            · simp only [decide_eq_true_eq] at he
              have hvm : g.2.2.2.getD v (0, []) ∈ g.2.2.2 := getD_mem hv
              have hne := (hp _ hvm).1
              refine ih v 0 i j kn _ (by rw [if_pos rfl]; omega) hv (List.length_pos_iff.2 hne) hij hj hk' (fun r kn' hk'' hr' => ?_)
              rw [List.drop_zero] at hr'
              have := hhit he r kn' hk'' hr'
              exact ⟨this.1, by unfold InR; omega, this.2⟩
            · simp only [decide_eq_false_iff_not] at hne
              exact ⟨by unfold InR; omega, hmiss hne⟩
            · simp only [decide_eq_false_iff_not] at hb
              omega
          · intro n kn X hk' hn
            dsimp only
            unfold VCc100_l1
            simp only [Int.toNat_natCast]
            refine ⟨fun hb => ?_, fun _ => ?_⟩
            · simp only [decide_eq_true_eq] at hb
              omega
            · unfold VCc100_k2 VCc100_k1
              simp only [Int.toNat_natCast]
              simp only [ht, Int.toNat_zero, List.getD_cons_zero]
              exact hK n _ (knOk_mset hk' (by rw [mean_sign]; exact hn)) hn
    · simp only [decide_eq_false_iff_not] at hmany
      have hl1 : 1 ≤ l.length := by
        cases l with
        | nil => exact absurd rfl hmany
        | cons a b => simp
      have hlen : (s :: l).length = l.length + 1 := rfl
      refine ⟨fun hsome => ?_, fun hnone => ⟨by unfold InR; omega, ?_⟩⟩
      · obtain ⟨v, hv⟩ := Option.isSome_iff_exists.1 hsome
        rw [hv]
        have := hk _ _ _ _ _ hv
        rw [mean_row, ht] at this
        exact hK v kn hk this
      · refine Loop.by (fun q => ∃ e : Nat, q.2.1 = (e : Int) ∧ i + 1 ≤ e ∧ e ≤ j ∧ KnOk g w q.2.2 ∧ OkV (ClG g) q.1 (∃ m, m < e ∧ Row g.1 g.2.2.2 w [s] i m ∧ Row g.1 g.2.2.2 w l m j)) (fun q => ((j : Int) - q.2.1).toNat) ⟨i + 1, by simp, by omega, by omega, hk, okV_zero (by
          rintro ⟨m, h1, h2, h3⟩
          have := h2.len hp
          simp only [List.length_cons, List.length_nil] at this
          omega)⟩ ?_
        rintro ⟨n, e', kn1⟩ ⟨e, he, hie, hej, hk1, hn⟩ X hX
        dsimp only at he hk1 hn hX
        subst he
        dsimp only
        have hk6 : ∀ (n' : Int) (kn' : Kn), e < j → KnOk g w kn' → OkV (ClG g) n' ((∃ m, m < e ∧ Row g.1 g.2.2.2 w [s] i m ∧ Row g.1 g.2.2.2 w l m j) ∨ (Row g.1 g.2.2.2 w [s] i e ∧ Row g.1 g.2.2.2 w l e j)) → VCc100_k6 (e : Int) X n' kn' := by
          intro n' kn' hlt hk' hn'
          unfold VCc100_k6
          refine ⟨by unfold InR; omega, hX _ ⟨e + 1, by simp, by omega, by omega, hk', hn'.iff ?_⟩ (by dsimp only; omega)⟩
          constructor
          · rintro (⟨m, h1, h2⟩ | h3)
            · exact ⟨m, by omega, h2⟩
            · exact ⟨e, by omega, h3⟩
          · rintro ⟨m, h1, h2⟩
            by_cases em : m = e
            · subst em; exact Or.inr h2
            · exact Or.inl ⟨m, by omega, h2⟩
        have hk5 : ∀ (v6 : Int) (kn' : Kn), e < j → KnOk g w kn' → OkV (ClG g) v6 (Row g.1 g.2.2.2 w [s] i e) → VCc100_k5 (VCc100_it g.1 g.2.1 g.2.2.1 g.2.2.2 w f) (c : Int) (rule : Int) (j : Int) n (e : Int) X v6 kn' := by
          intro v6 kn' hlt hk' hv6
          unfold VCc100_k5
          refine ⟨fun hpos => ⟨by unfold InR; omega, ?_⟩, fun hz => ?_⟩
          · refine ih c (rule + 1) e j kn' _ (by rw [if_neg (by omega)]; split at hf <;> omega) hc (by have h9 := hlen ▸ (show (s :: l).length = (g.2.2.2.getD c (0, [])).2.length - rule by rw [← ht, List.length_drop]); omega) hej hj hk' (fun r kn'' hk'' hr' => ?_)
            rw [hdrop1] at hr'
            refine VC124_of hv6 hr' fun v hv => ?_
            refine VC109_of hn hv ?_ fun v' hv' => hk6 v' kn'' hlt hk'' hv'
            rintro hcl ⟨⟨m, h1, h2, h3⟩, h4, h5⟩
            have := Clear.det hp hcl h2 _ h4
            omega
          · simp only [decide_eq_false_iff_not] at hz
            refine hk6 n kn' hlt hk' (hn.iff ⟨Or.inl, ?_⟩)
            rintro (h | h)
            · exact h
            · exact absurd (hv6.2.2.1.2 h.1) hz
        unfold VCc100_l2
        simp only [Int.toNat_natCast]
        simp only [ht, Int.toNat_zero, List.getD_cons_zero]
        refine ⟨fun hb => ⟨⟨by omega, by rw [hlen]; omega⟩, fun hsym => ?_, fun hname => ?_⟩, fun hb => ?_⟩
        · simp only [decide_eq_true_eq] at hsym hb
          refine ⟨by unfold InR; omega, fun he => ?_, ?_⟩
          · simp only [decide_eq_true_eq] at he
            exact ⟨by omega, by omega⟩
          · exact sym_ok (P := fun v => VCc100_k5 (VCc100_it g.1 g.2.1 g.2.2.1 g.2.2.2 w f) (c : Int) (rule : Int) (j : Int) n (e : Int) X v kn1) hsym (cl := ClG g) (by omega) (fun v hv => hk5 v kn1 (by omega) hk1 hv)
        · simp only [decide_eq_false_iff_not] at hname
          simp only [decide_eq_true_eq] at hb
          refine ⟨fun hsome => ?_, fun hnone => ?_⟩
          · obtain ⟨v, hv⟩ := Option.isSome_iff_exists.1 hsome
            rw [hv]
            have := hk1 _ _ _ _ _ hv
            rw [mean_sign] at this
            exact hk5 v kn1 (by omega) hk1 this
          · refine sign_loop hp (s := s) (i := i) (j := e) hname hk1 ?_ ?_
            · intro n2 v kn2 X3 hv hk' hhit hmiss
              dsimp only
              unfold VCc100_l3
              simp only [Int.toNat_natCast]
              simp only [ht, Int.toNat_zero, List.getD_cons_zero]
              refine ⟨fun hb => ⟨⟨by omega, by omega⟩, by unfold InR; omega, fun he => ?_, fun hne => ?_⟩, fun hb => ?_⟩
              · simp only [decide_eq_true_eq] at he
                have hvm : g.2.2.2.getD v (0, []) ∈ g.2.2.2 := getD_mem hv
                have hne := (hp _ hvm).1
                refine ih v 0 i e kn2 _ (by rw [if_pos rfl]; omega) hv (List.length_pos_iff.2 hne) (by omega) (by omega) hk' (fun r kn' hk'' hr' => ?_)
                rw [List.drop_zero] at hr'
                have := hhit he r kn' hk'' hr'
                exact ⟨this.1, by unfold InR; omega, this.2⟩
              · simp only [decide_eq_false_iff_not] at hne
                exact ⟨by unfold InR; omega, hmiss hne⟩
              · simp only [decide_eq_false_iff_not] at hb
                omega
            · intro n2 kn2 X3 hk' hn2
              dsimp only
              unfold VCc100_l3
              simp only [Int.toNat_natCast]
              refine ⟨fun hb => ?_, fun _ => ?_⟩
              · simp only [decide_eq_true_eq] at hb
                omega
              · unfold VCc100_k7
                simp only [Int.toNat_natCast]
                simp only [ht, Int.toNat_zero, List.getD_cons_zero]
                exact hk5 n2 _ (by omega) (knOk_mset hk' (by rw [mean_sign]; exact hn2)) hn2
        · simp only [decide_eq_false_iff_not] at hb
          have ej : e = j := by omega
          subst ej
          unfold VCc100_k4
          have hfin : OkV (ClG g) n (Row g.1 g.2.2.2 w (s :: l) i e) := by
            refine hn.iff ?_
            rw [row_cons]
            constructor
            · rintro ⟨m, h1, h2⟩; exact ⟨m, h2⟩
            · rintro ⟨m, h1, h2⟩
              have := h2.len hp
              exact ⟨m, by omega, h1, h2⟩
          exact hK n _ (knOk_mset hk1 (by rw [mean_row, ht]; exact hfin)) hfin
end
end Dec
namespace Dec
open Go Go.Proofs Cfg
section
variable {g : Gr} {w : List Int}

def badR (k : Int) (r : Rl) : Bool := decide ((r.2.length : Int) = 0) || (decide ((r.2.length : Int) = 1) && decide (k ≤ r.2.getD 0 0))

theorem badR_iff {k : Int} {r : Rl} : badR k r = false ↔ r.2 ≠ [] ∧ ∀ s, r.2 = [s] → s < k := by
  obtain ⟨A, l⟩ := r
  unfold badR
  rcases l with _ | ⟨x, _ | ⟨y, t⟩⟩
  · simp
  · simp
  · simp only [List.length_cons]
    constructor
    · intro _
      exact ⟨by simp, by intro s h; cases h⟩
    · intro _
      have h1 : decide (((t.length + 1 + 1 : Nat) : Int) = 0) = false := by simp only [decide_eq_false_iff_not]; omega
      have h2 : decide (((t.length + 1 + 1 : Nat) : Int) = 1) = false := by simp only [decide_eq_false_iff_not]; omega
      rw [h1, h2]; rfl

theorem VC84_of (hg : GoodG g) {K : Bool → Prop} (h : ∀ b : Bool, (b = true ↔ Prop1 g.1 g.2.2.2) → K b) : VC84 g K := by
  have hfew := hg.few
  unfold VC84
  refine VC77_of (badR g.1) (by omega) (fun x hx K' hK' => ?_) (h _ ?_)
  · unfold VC108
    refine ⟨fun _ h1 => ?_, hK'⟩
    simp only [decide_eq_true_eq] at h1
    exact ⟨by omega, by omega⟩
  · rw [Bool.not_eq_true', List.any_eq_false]
    unfold Prop1
    refine forall_congr' fun r => forall_congr' fun hr => ?_
    rw [Bool.not_eq_true, badR_iff]

theorem VC28_of (hg : GoodG g) {K : Bool → Prop} (h : ∀ b : Bool, (b = true ↔ Prop1 g.1 g.2.2.2) → K b) : VC28 g K := by
  have hfew := hg.few
  unfold VC28
  refine loop_count g.2.2.2.length (fun i => ∀ j, j < i → badR g.1 (g.2.2.2.getD j (0, [])) = false) (by intro j hj; omega) ?_
  intro i hi hP X hX
  unfold VC28_l1
  simp only [Int.toNat_natCast]
  refine ⟨fun hb => ?_, fun hb => ?_⟩
  · simp only [decide_eq_true_eq] at hb
    refine ⟨⟨by omega, by omega⟩, fun _ h1 => ?_, fun hbad => h _ ?_, fun hgood => ⟨by unfold InR; omega, hX (by omega) fun j hj => ?_⟩⟩
    · simp only [decide_eq_true_eq] at h1
      exact ⟨by omega, by omega⟩
    · refine ⟨fun h => (by cases h), fun hp => ?_⟩
      have := badR_iff.2 (hp _ (getD_mem (l := g.2.2.2) (i := i) (d := (0, [])) (by omega)))
      rw [show badR g.1 (g.2.2.2.getD i (0, [])) = true from hbad] at this
      cases this
    · by_cases e : j < i
      · exact hP j e
      · have : j = i := by omega
        subst this
        exact hgood
  · simp only [decide_eq_false_iff_not] at hb
    unfold VC28_k1
    refine h _ ⟨fun _ r hr => ?_, fun _ => rfl⟩
    obtain ⟨a, ha, ea⟩ := getD_of_mem hr
    rw [← ea]
    exact badR_iff.1 (hP a (by omega))

theorem VC27_of {K : Int × Int → Prop} (hbad : ∀ e, e ≠ 0 → ¬ (GoodG g ∧ GoodW g.1 w) → K (0, e)) (himp : GoodG g → GoodW g.1 w → ¬ Prop1 g.1 g.2.2.2 → K (0, 3))
    (h : GoodG g → GoodW g.1 w → Prop1 g.1 g.2.2.2 → ∀ v, OkV (ClG g) v (Row g.1 g.2.2.2 w [g.1 + g.2.2.1] 0 w.length) → (1099511627776 < v → K (0, 1)) ∧ (¬ 1099511627776 < v → K (v, 0))) : VC27 g w K := by
  unfold VC27
  refine VC44_of (fun e he hng => ⟨fun _ => hbad e he hng, fun h0 => ?_⟩) (fun hg hw => ⟨fun h0 => ?_, fun _ => VC84_of hg fun b hb => ⟨fun hb0 => ?_, fun hb1 => ?_⟩⟩)
  · simp at h0; exact absurd h0 he
  · simp at h0
  · refine himp hg hw fun hp => ?_
    rw [hb.2 hp] at hb0
    cases hb0
  have hp : Prop1 g.1 g.2.2.2 := hb.1 (by cases b with
    | true => rfl
    | false => cases hb1)
  have hk := hg.k
  have hn := hg.n
  have hst := hg.start
  have hfew := hg.few
  have hw12 := hw.1
  have hs : ¬ g.1 + g.2.2.1 < g.1 := by omega
  refine ⟨by unfold InR; omega, fun hc => ?_, fun _ => ⟨fun hsome => ?_, fun _ => ?_⟩⟩
  · simp only [decide_eq_true_eq] at hc
    omega
  · cases hsome
  · refine sign_loop (w := w) hp (s := g.1 + g.2.2.1) (i := 0) (j := w.length) hs knOk_nil ?_ ?_
    · intro n v kn X hv hk' hhit hmiss
      dsimp only
      unfold VC27_l1
      simp only [Int.toNat_natCast]
      refine ⟨fun hb => ⟨⟨by omega, by omega⟩, by unfold InR; omega, fun he => ?_, fun hne => ?_⟩, fun hb => ?_⟩
      · simp only [decide_eq_true_eq] at he
        have hvm : g.2.2.2.getD v (0, []) ∈ g.2.2.2 := getD_mem hv
        have hne := (hp _ hvm).1
        refine ⟨2 * w.length + 1, row_of hg hw hp _ v 0 0 w.length kn _ (by rw [if_pos rfl]; omega) hv (List.length_pos_iff.2 hne) (by omega) (by omega) hk' (fun r kn' hk'' hr' => ?_)⟩
        rw [List.drop_zero] at hr'
        have := hhit he r kn' hk'' hr'
        exact ⟨this.1, by unfold InR; omega, this.2⟩
      · simp only [decide_eq_false_iff_not] at hne
        exact ⟨by unfold InR; omega, hmiss hne⟩
      · simp only [decide_eq_false_iff_not] at hb
        omega
    · intro n kn X hk' hn'
      dsimp only
      unfold VC27_l1
      simp only [Int.toNat_natCast]
      refine ⟨fun hb => ?_, fun _ => ?_⟩
      · simp only [decide_eq_true_eq] at hb
        omega
      · unfold VC27_k3 VC27_k2 VC27_k1
        have := h hg hw hp n hn'
        refine ⟨fun hc => this.1 (by simpa using hc), fun hc => this.2 ?_⟩
        simp only [decide_eq_false_iff_not] at hc
        exact hc
end
end Dec
