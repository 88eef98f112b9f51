/-
  Counter.Row counts trees, up to a bound (plain).
-/
import Derived.Test.YtfpchbpnoggogaaGramZ
import Derived.Test.YtfpchbpnoggogaaCount
import Derived.Test.YtfpchbpnoggogaaMaps
set_option linter.unusedSimpArgs false
set_option linter.unusedVariables false
namespace Dec
open Go Go.Proofs Cfg
abbrev Kn := List ((Int × (Int × (Int × Int))) × Int)
def CapV (v : Int) (n : Nat) : Prop := v = min (n : Int) 1099511627777
theorem VC109_cap {a b : Int} {m n : Nat} (ha : CapV a m) (hb : CapV b n) {K : Int → Prop} (h : ∀ v, CapV v (m + n) → K v) : VC109 a b K := by
 unfold CapV at *
 unfold VC109 InR imin
 refine ⟨by omega, h _ ?_⟩
 omega
theorem mul_cap {m n : Nat} {a b : Int} (ha : CapV a m) (hb : CapV b n) (h0 : 0 < a) (h1 : 0 < b) : (1099511627777 / b < a → CapV 1099511627777 (m * n)) ∧ (¬ 1099511627777 / b < a → a * b ≤ 1099511627777 ∧ CapV (a * b) (m * n)) := by
 unfold CapV at *
 have hm : 0 < m := by omega
 have hn : 0 < n := by omega
 have ham : a ≤ (m : Int) := by omega
 have hbn : b ≤ (n : Int) := by omega
 have hle : a * b ≤ (m : Int) * (n : Int) := Int.mul_le_mul ham hbn (by omega) (by omega)
 constructor
 ·intro hlt
  have h2 : ¬ a * b ≤ 1099511627777 := fun h => by
   have := (Int.le_ediv_iff_mul_le h1).2 h
   omega
  push_cast
  omega
 ·intro hge
  have h2 : a * b ≤ 1099511627777 := (Int.le_ediv_iff_mul_le h1).1 (by omega)
  refine ⟨h2, ?_⟩
  push_cast
  by_cases ea : (m : Int) ≤ 1099511627777
  ·by_cases eb : (n : Int) ≤ 1099511627777
   ·have e1 : a = m := by omega
    have e2 : b = n := by omega
    rw [← e1, ← e2]; omega
   ·have e2 : b = 1099511627777 := by omega
    have e1 : a = 1 := by subst e2; omega
    have e3 : (m : Int) = 1 := by omega
    rw [e3, e1, e2]; omega
  ·have e1 : a = 1099511627777 := by omega
   have e2 : b = 1 := by subst e1; omega
   have e3 : (n : Int) = 1 := by omega
   rw [e3, e1, e2]; omega
theorem VC124_cap {a b : Int} {m n : Nat} (ha : CapV a m) (hb : CapV b n) {K : Int → Prop} (h : ∀ v, CapV v (m * n) → K v) : VC124 a b K := by
 have ha0 : 0 ≤ a := by unfold CapV at ha; omega
 have hb0 : 0 ≤ b := by unfold CapV at hb; omega
 unfold VC124 InR imin
 refine ⟨fun hz => h _ ?_, fun hz => ⟨⟨by omega, ?_⟩, fun hlt => h _ ?_, fun hge => ?_⟩⟩
 ·simp only [Bool.or_eq_true, decide_eq_true_eq] at hz
  unfold CapV at *
  have : m = 0 ∨ n = 0 := by omega
  rcases this with e | e <;> subst e <;> simp <;> omega
 ·simp only [Bool.or_eq_false_iff, decide_eq_false_iff_not] at hz
  omega
 ·simp only [Bool.or_eq_false_iff, decide_eq_false_iff_not] at hz
  simp only [decide_eq_true_eq] at hlt
  exact (mul_cap ha hb (by omega) (by omega)).1 hlt
 ·simp only [Bool.or_eq_false_iff, decide_eq_false_iff_not] at hz
  simp only [decide_eq_false_iff_not] at hge
  obtain ⟨h1, h2⟩ := (mul_cap ha hb (by omega) (by omega)).2 hge
  have h3 : 0 < a * b := Int.mul_pos (by omega) (by omega)
  refine ⟨⟨by omega, by omega⟩, h _ ?_⟩
  rw [Int.min_eq_left h1]
  exact h2
section
variable {g : Gr} {w : List Int}
def Prop1 (g : Gr) : Prop := ∀ r ∈ g.2.2.2, r.2 ≠ [] ∧ ∀ s, r.2 = [s] → s < g.1
abbrev SG (g : Gr) (w : List Int) : Int → Nat → Nat → List (List Int) := sgnT g.1 g.2.2.2 w (w.length + 1)
def cntS (g : Gr) (w : List Int) (s : Int) (i j : Nat) : Nat := (SG g w s i j).length
def cntR (g : Gr) (w : List Int) (l : List Int) (i j : Nat) : Nat := (rowT (SG g w) l i j).length
def sumTo (f : Nat → Nat) (v : Nat) : Nat := ((List.range v).map f).sum
theorem sumTo_succ (f : Nat → Nat) (v : Nat) : sumTo f (v + 1) = sumTo f v + f v := by
 unfold sumTo
 rw [List.range_succ, List.map_append, List.sum_append]
 simp
theorem row_stable (hp : Prop1 g) {r : Rl} (hr : r ∈ g.2.2.2) {i j f : Nat} (h : j - i ≤ f) : rowT (sgnT g.1 g.2.2.2 w f) r.2 i j = rowT (sgnT g.1 g.2.2.2 w (f + 1)) r.2 i j := by
 obtain ⟨h1, h2⟩ := hp r hr
 cases hl : r.2 with
 | nil => exact absurd hl h1
 | cons x l =>
  cases l with
  | nil =>
   have hx := h2 x hl
   unfold rowT
   simp [cutsL, prodT, sgnT_sym hx]
  | cons y l => exact rowT_two fun s a b h3 h4 h5 => (sgnT_stable hp f s a b (by omega)).symm
theorem cnt_name (hp : Prop1 g) {s : Int} {i j : Nat} (hs : ¬ s < g.1) (hj : j ≤ w.length) : cntS g w s i j = sumTo (fun k => if (g.2.2.2.getD k (0, [])).1 = s - g.1 then cntR g w (g.2.2.2.getD k (0, [])).2 i j else 0) g.2.2.2.length := by
 unfold cntS SG
 rw [sgnT_name hs, length_flatMap']
 unfold sumTo
 congr 1
 refine List.map_congr_left fun k hk => ?_
 have hk' := List.mem_range.1 hk
 split
 ·rw [List.length_map, row_stable hp (getD_mem hk') (by omega)]
  rfl
 ·rfl
theorem cnt_one (s : Int) (i j : Nat) : cntR g w [s] i j = cntS g w s i j := rowT_one _ s i j
theorem cnt_two (s t : Int) (l : List Int) (i j : Nat) : cntR g w (s :: t :: l) i j = sumTo (fun q => cntS g w s i (q + (i + 1)) * cntR g w (t :: l) (q + (i + 1)) j) (j - (i + 1)) := by
 unfold cntR
 rw [rowT_len, List.map_map]
 rfl
theorem cnt_sym {s : Int} {i j : Nat} (hs : s < g.1) : cntS g w s i j = if j = i + 1 ∧ w[i]? = some s then 1 else 0 := by
 unfold cntS SG
 rw [sgnT_sym hs]
 split <;> rfl
theorem prod_len {S : Int → Nat → Nat → List (List Int)} (hS : ∀ s i j a, a ∈ S s i j → i < j) : ∀ (l : List Int) (i j : Nat), ∀ es ∈ cutsL l.length i j, ∀ a, a ∈ prodT S l i es → i + l.length ≤ j
 | [], i, j, es, he, a, ha => by simp [cutsL] at he
 | [s], i, j, es, he, a, ha => by
  simp [cutsL] at he
  subst he
  simp only [prodT, List.mem_flatMap] at ha
  obtain ⟨b, hb, _⟩ := ha
  have := hS s i j b hb
  simp only [List.length_cons, List.length_nil]
  omega
 | s :: t :: l, i, j, es, he, a, ha => by
  rw [show (s :: t :: l).length = l.length + 2 from rfl, cutsL_succ, List.mem_flatMap] at he
  obtain ⟨m, hm, he⟩ := he
  obtain ⟨q, hq, rfl⟩ := List.mem_map.1 he
  obtain ⟨z, hz, rfl⟩ := List.mem_map.1 hm
  have ha' : a ∈ (S s i (z + (i + 1))).flatMap fun b => (prodT S (t :: l) (z + (i + 1)) q).map (b ++ ·) := ha
  obtain ⟨b, hb, h2⟩ := List.mem_flatMap.1 ha'
  obtain ⟨c, hc, _⟩ := List.mem_map.1 h2
  have := prod_len hS (t :: l) (z + (i + 1)) j q hq c hc
  simp only [List.length_cons] at this ⊢
  omega
theorem row_len' {S : Int → Nat → Nat → List (List Int)} (hS : ∀ s i j a, a ∈ S s i j → i < j) {l : List Int} {i j : Nat} {a : List Int} (h : a ∈ rowT S l i j) : i + l.length ≤ j := by
 unfold rowT at h
 obtain ⟨es, h1, h2⟩ := List.mem_flatMap.1 h
 exact prod_len hS l i j es h1 a h2
theorem sgn_lt (hp : Prop1 g) : ∀ (f : Nat) (s : Int) (i j : Nat) (a : List Int), a ∈ sgnT g.1 g.2.2.2 w f s i j → i < j
 | f, s, i, j, a, h => by
  by_cases hs : s < g.1
  ·rw [sgnT_sym hs] at h
   split at h
   ·omega
   ·cases h
  ·cases f with
   | zero => rw [sgnT, if_neg hs] at h; cases h
   | succ f =>
    obtain ⟨k, hk, _, a', h3, _⟩ := mem_name hs h
    have h4 := row_len' (sgn_lt hp f) h3
    have h5 := (hp _ (getD_mem (d := ((0 : Int), ([] : List Int))) hk)).1
    have h6 : 0 < (g.2.2.2.getD k (0, [])).2.length := List.length_pos_iff.2 h5
    omega
theorem cnt_short (hp : Prop1 g) {l : List Int} {i j : Nat} (h : j < i + l.length) : cntR g w l i j = 0 := by
 unfold cntR
 rw [List.length_eq_zero_iff, List.eq_nil_iff_forall_not_mem]
 intro a ha
 have := row_len' (sgn_lt hp _) ha
 omega
end
end Dec
namespace Dec
open Go Go.Proofs Cfg
section
variable {g : Gr} {w : List Int}
def MeanC (g : Gr) (w : List Int) (c x i j : Int) : Nat := if c = -1 then cntS g w x i.toNat j.toNat else cntR g w ((g.2.2.2.getD c.toNat (0, [])).2.drop x.toNat) i.toNat j.toNat
def KnOk (g : Gr) (w : List Int) (kn : Kn) : Prop := ∀ c x i j v, mget kn (c, (x, (i, j))) = some v → CapV v (MeanC g w c x i j)
theorem knOk_nil : KnOk g w [] := by intro c x i j v h; cases h
theorem knOk_mset {kn : Kn} (h : KnOk g w kn) {c x i j v : Int} (hv : CapV v (MeanC g w c x i j)) : KnOk g w (mset kn (c, (x, (i, j))) v) := by
 intro c' x' i' j' v' h'
 rw [mget_mset] at h'
 split at h'
 ·rename_i e
  cases e
  cases h'
  exact hv
 ·exact h c' x' i' j' v' h'
theorem capV_zero : CapV 0 0 := by unfold CapV; omega
theorem capV_one : CapV 1 1 := by unfold CapV; omega
theorem sign_loop (hp : Prop1 g) {s : Int} {i j : Nat} (hs : ¬ s < g.1) (hj : j ≤ w.length) {kn0 : Kn} (h0 : KnOk g w kn0) {B : Int × Int × Kn → (Int × Int × Kn → Prop) → Prop}
  (step : ∀ (n : Int) (v : Nat) (kn : Kn) (X : Int × Int × Kn → Prop), v < g.2.2.2.length → KnOk g w kn → ((g.2.2.2.getD v (0, [])).1 = s - g.1 → (∀ r kn', KnOk g w kn' → CapV r (cntR g w (g.2.2.2.getD v (0, [])).2 i j) → VC109 n r (fun n' => X (n', (v : Int) + 1, kn')))) → ((g.2.2.2.getD v (0, [])).1 ≠ s - g.1 → X (n, (v : Int) + 1, kn)) → B (n, (v : Int), kn) X)
  (stop : ∀ (n : Int) (kn : Kn) (X : Int × Int × Kn → Prop), KnOk g w kn → CapV n (cntS g w s i j) → B (n, (g.2.2.2.length : Int), kn) X) : Loop B (0, 0, kn0) := by
 refine Loop.by (fun t => ∃ v : Nat, t.2.1 = (v : Int) ∧ v ≤ g.2.2.2.length ∧ KnOk g w t.2.2 ∧ CapV t.1 (sumTo (fun k => if (g.2.2.2.getD k (0, [])).1 = s - g.1 then cntR g w (g.2.2.2.getD k (0, [])).2 i j else 0) v)) (fun t => ((g.2.2.2.length : Int) - t.2.1).toNat) ⟨0, rfl, by omega, h0, capV_zero⟩ ?_
 rintro ⟨n, v', kn⟩ ⟨v, e, hv, hk, hn⟩ X hX
 dsimp only at e hk hn hX
 subst e
 by_cases hlt : v < g.2.2.2.length
 ·refine step n v kn X hlt hk (fun hname r kn' hk' hr => VC109_cap hn hr fun v' hv' => hX _ ⟨v + 1, by simp, by omega, hk', ?_⟩ (by dsimp only; omega)) (fun hname => hX _ ⟨v + 1, by simp, by omega, hk, ?_⟩ (by dsimp only; omega))
  ·rw [sumTo_succ, if_pos hname]; exact hv'
  ·rw [sumTo_succ, if_neg hname]; exact hn
 ·have e : v = g.2.2.2.length := by omega
  subst e
  exact stop n kn X hk (by rw [cnt_name hp hs hj]; exact hn)
theorem sym_ok {s : Int} {i j : Nat} (hs : s < g.1) (hi : j = i + 1 → i < w.length) {P : Int → Prop} (h : ∀ v, CapV v (cntS g w s i j) → P v) :
  ((decide ((j : Int) = (i : Int) + 1) && decide (w.getD i 0 = s)) = true → P 1) ∧ ((decide ((j : Int) = (i : Int) + 1) && decide (w.getD i 0 = s)) = false → P 0) := by
 constructor
 ·intro hc
  simp only [Bool.and_eq_true, decide_eq_true_eq] at hc
  refine h 1 ?_
  rw [cnt_sym hs, if_pos ⟨by omega, by rw [getD_opt (d := 0) (hi (by omega)), hc.2]⟩]
  exact capV_one
 ·intro hc
  refine h 0 ?_
  rw [cnt_sym hs, if_neg]
  ·exact capV_zero
  ·rintro ⟨h1, h2⟩
   rw [getD_opt (d := 0) (hi h1)] at h2
   have : ((decide ((j : Int) = (i : Int) + 1) && decide (w.getD i 0 = s)) = true) := by
    simp only [Bool.and_eq_true, decide_eq_true_eq]
    exact ⟨by omega, by simpa using h2⟩
   rw [this] at hc
   cases hc
theorem mean_sign {s : Int} {i j : Nat} : MeanC g w (-1) s (i : Int) (j : Int) = cntS g w s i j := by
 unfold MeanC
 rw [if_pos rfl, Int.toNat_natCast, Int.toNat_natCast]
theorem mean_row {c r i j : Nat} : MeanC g w (c : Int) (r : Int) (i : Int) (j : Int) = cntR g w ((g.2.2.2.getD c (0, [])).2.drop r) i j := by
 unfold MeanC
 rw [if_neg (by omega)]
 simp only [Int.toNat_natCast]
set_option maxHeartbeats 4000000 in
theorem row_of (hg : GoodG g) (hw : GoodW g.1 w) (hp : Prop1 g) : ∀ (f : Nat) (c rule i j : Nat) (kn : Kn) (K : Int × Kn → Prop), 2 * (j - i) + (if rule = 0 then 0 else 1) < f → c < g.2.2.2.length → rule < (g.2.2.2.getD c (0, [])).2.length → i ≤ j → j ≤ w.length → KnOk g w kn →
  (∀ v kn', KnOk g w kn' → CapV v (cntR g w ((g.2.2.2.getD c (0, [])).2.drop rule) i j) → K (v, kn')) → VCc100_it g.1 g.2.1 g.2.2.1 g.2.2.2 w f (c : Int) (rule : Int) (i : Int) (j : Int) kn K := by
 intro f
 induction f with
 | zero => intro c rule i j kn K h; omega
 | succ f ih =>
  intro c rule i j kn K hf hc hr hij hj hk hK
  have hk3 := hg.k
  have hn5 := hg.n
  have hfew := hg.few
  have hw12 := hw.1
  have hmem : g.2.2.2.getD c (0, []) ∈ g.2.2.2 := getD_mem hc
  have hshort := hg.short _ hmem
  have hright := hg.right _ hmem
  have hcp := hp _ hmem
  show VCc100 g.1 g.2.1 g.2.2.1 g.2.2.2 w (VCc100_it g.1 g.2.1 g.2.2.1 g.2.2.2 w f) (c : Int) (rule : Int) (i : Int) (j : Int) kn K
  unfold VCc100
  simp only [Int.toNat_natCast]
  have hdrop1 : (g.2.2.2.getD c (0, [])).2.drop (rule + 1) = ((g.2.2.2.getD c (0, [])).2.drop rule).drop 1 := by rw [List.drop_drop]
  have hlt : ((g.2.2.2.getD c (0, [])).2.drop rule).length = (g.2.2.2.getD c (0, [])).2.length - rule := List.length_drop
  have hsub : ∀ s ∈ (g.2.2.2.getD c (0, [])).2.drop rule, 0 ≤ s ∧ s < g.1 + g.2.1 := fun s hs => hright s (List.mem_of_mem_drop hs)
  have hlone : rule = 0 → ∀ s, (g.2.2.2.getD c (0, [])).2.drop rule = [s] → s < g.1 := by
   intro e s h
   rw [e, List.drop_zero] at h
   exact hcp.2 s h
  refine ⟨⟨by omega, by omega⟩, ⟨by omega, by omega⟩, by unfold InR; omega, fun hshorter => ?_, fun hlong => ?_⟩
  ·simp only [decide_eq_true_eq] at hshorter
   refine hK 0 kn hk ?_
   rw [cnt_short hp (by omega)]
   exact capV_zero
  simp only [decide_eq_false_iff_not] at hlong
  obtain ⟨t, ht⟩ : ∃ t, (g.2.2.2.getD c (0, [])).2.drop rule = t := ⟨_, rfl⟩
  rw [ht] at hdrop1 hlt hsub hlone hK hlong
  simp only [ht]
  cases t with
  | nil => simp only [List.length_nil] at hlt; omega
  | cons s l =>
  simp only [Int.toNat_zero, List.getD_cons_zero]
  simp only [List.drop_succ_cons, List.drop_zero] at hdrop1
  have hsr := hsub s (List.mem_cons_self)
  refine ⟨fun hone => ?_, fun hmany => ?_⟩
  ·simp only [decide_eq_true_eq] at hone
   have hl : l = [] := by
    cases l with
    | nil => rfl
    | cons a b => simp only [List.length_cons] at hone; omega
   subst hl
   refine ⟨⟨by omega, by simp⟩, fun hsym => ?_, fun hname => ?_⟩
   ·simp only [decide_eq_true_eq] at hsym
    refine ⟨by unfold InR; omega, fun he => ?_, ?_⟩
    ·simp only [decide_eq_true_eq] at he
     exact ⟨by omega, by omega⟩
    ·exact sym_ok (P := fun v => VCc100_k1 K v kn) hsym (by omega) (fun v hv => hK v kn hk (by rw [cnt_one]; exact hv))
   ·simp only [decide_eq_false_iff_not] at hname
    have hr0 : rule ≠ 0 := fun e => hname (hlone e s rfl)
    rw [if_neg hr0] at hf
    refine ⟨fun hsome => ?_, fun hnone => ?_⟩
    ·obtain ⟨v, hv⟩ := Option.isSome_iff_exists.1 hsome
     rw [hv]
     have := hk _ _ _ _ _ hv
     rw [mean_sign] at this
     exact hK v kn hk (by rw [cnt_one]; exact this)
    ·refine sign_loop (w := w) hp (s := s) (i := i) (j := j) hname hj hk ?_ ?_
     ·intro n v kn X hv hk' hhit hmiss
      dsimp only
      unfold VCc100_l1
      simp only [Int.toNat_natCast]
      simp only [ht, Int.toNat_zero, List.getD_cons_zero]
      refine ⟨fun hb => ⟨⟨by omega, by omega⟩, by unfold InR; omega, fun he => ?_, fun hne => ?_⟩, fun hb => ?_⟩
      ·simp only [decide_eq_true_eq] at he
       have hvm : g.2.2.2.getD v (0, []) ∈ g.2.2.2 := getD_mem hv
       have hne := (hp _ hvm).1
       refine ih v 0 i j kn _ (by rw [if_pos rfl]; omega) hv (List.length_pos_iff.2 hne) hij hj hk' (fun r kn' hk'' hr' => ?_)
       rw [List.drop_zero] at hr'
       have := hhit he r kn' hk'' hr'
       exact ⟨this.1, by unfold InR; omega, this.2⟩
      ·simp only [decide_eq_false_iff_not] at hne
       exact ⟨by unfold InR; omega, hmiss hne⟩
      ·simp only [decide_eq_false_iff_not] at hb
       omega
     ·intro n kn X hk' hn
      dsimp only
      unfold VCc100_l1
      simp only [Int.toNat_natCast]
      refine ⟨fun hb => ?_, fun _ => ?_⟩
      ·simp only [decide_eq_true_eq] at hb
       omega
      ·unfold VCc100_k2 VCc100_k1
       simp only [Int.toNat_natCast]
       simp only [ht, Int.toNat_zero, List.getD_cons_zero]
       exact hK n _ (knOk_mset hk' (by rw [mean_sign]; exact hn)) (by rw [cnt_one]; exact hn)
  ·simp only [decide_eq_false_iff_not] at hmany
   have hl1 : 1 ≤ l.length := by
    cases l with
    | nil => exact absurd rfl hmany
    | cons a b => simp
   have hlen : (s :: l).length = l.length + 1 := rfl
   refine ⟨fun hsome => ?_, fun hnone => ⟨by unfold InR; omega, ?_⟩⟩
   ·obtain ⟨v, hv⟩ := Option.isSome_iff_exists.1 hsome
    rw [hv]
    have := hk _ _ _ _ _ hv
    rw [mean_row, ht] at this
    exact hK v kn hk this
   ·cases l with
    | nil => simp at hl1
    | cons t l =>
    refine Loop.by (fun q => ∃ e : Nat, q.2.1 = (e : Int) ∧ i + 1 ≤ e ∧ e ≤ j ∧ KnOk g w q.2.2 ∧ CapV q.1 (sumTo (fun q => cntS g w s i (q + (i + 1)) * cntR g w (t :: l) (q + (i + 1)) j) (e - (i + 1)))) (fun q => ((j : Int) - q.2.1).toNat) ⟨i + 1, by simp, by omega, by simp only [List.length_cons] at hlong; omega, hk, by rw [Nat.sub_self]; exact capV_zero⟩ ?_
    rintro ⟨n, e', kn1⟩ ⟨e, he, hie, hej, hk1, hn⟩ X hX
    dsimp only at he hk1 hn hX
    subst he
    dsimp only
    have hk6 : ∀ (n' : Int) (kn' : Kn), e < j → KnOk g w kn' → CapV n' (sumTo (fun q => cntS g w s i (q + (i + 1)) * cntR g w (t :: l) (q + (i + 1)) j) (e - (i + 1)) + cntS g w s i e * cntR g w (t :: l) e j) → VCc100_k6 (e : Int) X n' kn' := by
     intro n' kn' hlt hk' hn'
     unfold VCc100_k6
     refine ⟨by unfold InR; omega, hX _ ⟨e + 1, by simp, by omega, by omega, hk', ?_⟩ (by dsimp only; omega)⟩
     rw [show e + 1 - (i + 1) = (e - (i + 1)) + 1 by omega, sumTo_succ, show e - (i + 1) + (i + 1) = e by omega]
     exact hn'
    have hk5 : ∀ (v6 : Int) (kn' : Kn), e < j → KnOk g w kn' → CapV v6 (cntS g w s i e) → VCc100_k5 (VCc100_it g.1 g.2.1 g.2.2.1 g.2.2.2 w f) (c : Int) (rule : Int) (j : Int) n (e : Int) X v6 kn' := by
     intro v6 kn' hlt hk' hv6
     unfold VCc100_k5
     refine ⟨fun hpos => ⟨by unfold InR; omega, ?_⟩, fun hz => ?_⟩
     ·refine ih c (rule + 1) e j kn' _ (by rw [if_neg (by omega)]; split at hf <;> omega) hc (by have h9 : (s :: t :: l).length = (g.2.2.2.getD c (0, [])).2.length - rule := (by rw [← ht, List.length_drop]); simp only [List.length_cons] at h9; omega) hej hj hk' (fun r kn'' hk'' hr' => ?_)
      rw [hdrop1] at hr'
      refine VC124_cap hv6 hr' fun v hv => ?_
      exact VC109_cap hn hv fun v' hv' => hk6 v' kn'' hlt hk'' hv'
     ·simp only [decide_eq_false_iff_not] at hz
      have h0 : cntS g w s i e = 0 := by unfold CapV at hv6; omega
      refine hk6 n kn' hlt hk' ?_
      rw [h0, Nat.zero_mul, Nat.add_zero]
      exact hn
    unfold VCc100_l2
    simp only [Int.toNat_natCast]
    simp only [ht, Int.toNat_zero, List.getD_cons_zero]
    refine ⟨fun hb => ⟨⟨by omega, by simp only [List.length_cons]; omega⟩, fun hsym => ?_, fun hname => ?_⟩, fun hb => ?_⟩
    ·simp only [decide_eq_true_eq] at hsym hb
     refine ⟨by unfold InR; omega, fun he => ?_, ?_⟩
     ·simp only [decide_eq_true_eq] at he
      exact ⟨by omega, by omega⟩
     ·exact sym_ok (P := fun v => VCc100_k5 (VCc100_it g.1 g.2.1 g.2.2.1 g.2.2.2 w f) (c : Int) (rule : Int) (j : Int) n (e : Int) X v kn1) hsym (by omega) (fun v hv => hk5 v kn1 (by omega) hk1 hv)
    ·simp only [decide_eq_false_iff_not] at hname
     simp only [decide_eq_true_eq] at hb
     refine ⟨fun hsome => ?_, fun hnone => ?_⟩
     ·obtain ⟨v, hv⟩ := Option.isSome_iff_exists.1 hsome
      rw [hv]
      have := hk1 _ _ _ _ _ hv
      rw [mean_sign] at this
      exact hk5 v kn1 (by omega) hk1 this
     ·refine sign_loop (w := w) hp (s := s) (i := i) (j := e) hname (by omega) hk1 ?_ ?_
      ·intro n2 v kn2 X3 hv hk' hhit hmiss
       dsimp only
       unfold VCc100_l3
       simp only [Int.toNat_natCast]
       simp only [ht, Int.toNat_zero, List.getD_cons_zero]
       refine ⟨fun hb => ⟨⟨by omega, by omega⟩, by unfold InR; omega, fun he => ?_, fun hne => ?_⟩, fun hb => ?_⟩
       ·simp only [decide_eq_true_eq] at he
        have hvm : g.2.2.2.getD v (0, []) ∈ g.2.2.2 := getD_mem hv
        have hne := (hp _ hvm).1
        refine ih v 0 i e kn2 _ (by rw [if_pos rfl]; omega) hv (List.length_pos_iff.2 hne) (by omega) (by omega) hk' (fun r kn' hk'' hr' => ?_)
        rw [List.drop_zero] at hr'
        have := hhit he r kn' hk'' hr'
        exact ⟨this.1, by unfold InR; omega, this.2⟩
       ·simp only [decide_eq_false_iff_not] at hne
        exact ⟨by unfold InR; omega, hmiss hne⟩
       ·simp only [decide_eq_false_iff_not] at hb
        omega
      ·intro n2 kn2 X3 hk' hn2
       dsimp only
       unfold VCc100_l3
       simp only [Int.toNat_natCast]
       refine ⟨fun hb => ?_, fun _ => ?_⟩
       ·simp only [decide_eq_true_eq] at hb
        omega
       ·unfold VCc100_k7
        simp only [Int.toNat_natCast]
        simp only [ht, Int.toNat_zero, List.getD_cons_zero]
        exact hk5 n2 _ (by omega) (knOk_mset hk' (by rw [mean_sign]; exact hn2)) hn2
    ·simp only [decide_eq_false_iff_not] at hb
     have ej : e = j := by omega
     subst ej
     unfold VCc100_k4
     have hfin : CapV n (cntR g w (s :: t :: l) i e) := by
      rw [cnt_two]
      exact hn
     exact hK n _ (knOk_mset hk1 (by rw [mean_row, ht]; exact hfin)) hfin
end
end Dec
