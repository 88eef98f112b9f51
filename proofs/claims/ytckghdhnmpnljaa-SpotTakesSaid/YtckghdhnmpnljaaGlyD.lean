/-
  The position automaton of an expression, its net, and the law SpotTakes (Glushkov).
-/
import Derived.Test.YtckghdhnmpnljaaGlyC
import Derived.Test.YtckghdhnmpnljaaNetA
set_option linter.unusedSimpArgs false
set_option linter.unusedVariables false
namespace Dec
open Go Go.Proofs Rex Gly

abbrev AutoT := LI × (LL × LI)

/-- the positions of an expression -/
structure Aut (l : List Nd) (k : Int) (A : AutoT) : Prop where
  len : A.1.length = A.2.1.length
  few : 1 ≤ A.1.length ∧ A.1.length ≤ 320
  ok : ∀ q, q < A.2.1.length → SetOk (A.2.1.getD q D5)
  lok : SetOk A.2.2
  sgn : ∀ q, 1 ≤ q → q < A.1.length → 0 ≤ A.1.getD q 0 ∧ A.1.getD q 0 < k
  fol : ∀ q, q < A.1.length → ∀ r, Fol A.2.1 q r → 1 ≤ r ∧ r < A.1.length
  lst : ∀ q, mem A.2.2 q = true → q < A.1.length
  acc : ∀ w : List Int, ((w = [] ∧ mem A.2.2 0 = true) ∨ ∃ q r, Fol A.2.1 0 q ∧ Ch (Fol A.2.1) (fun q => A.1.getD q 0) w q 0 w.length r ∧ mem A.2.2 r = true) ↔ Mat l w (l.length - 1) 0 w.length

theorem VC60_of {k : Int} {l : List Nd} (hg : Good k l) {K : AutoT → Prop} (h : ∀ A, Aut l k A → K A) : VC60 l K := by
  have hm := hg.len
  unfold VC60
  refine VC49_of hg fun E NN hE hEm => ⟨⟨by omega, by omega⟩, l.length, ?_⟩
  have hp : 2 ^ (l.length - 1) ≤ 2 ^ 8 := Nat.pow_le_pow_right (by omega) (by omega)
  have hS0 : SInv ([-1] : LI) [emptyS] := ⟨rfl, fun q hq => by
    simp only [List.length_singleton] at hq
    have : q = 0 := by omega
    subst this
    exact empty_ok⟩
  refine build_of hg hE hEm 0 0 0 0 0 l.length (l.length - 1) _ [-1] [emptyS] (by omega) (by omega) (by omega) hS0 (by simp only [List.length_singleton]; omega) fun fi la sy fo b => ?_
  have hfl := b.inv.len
  have hm1 := b.more
  have hf1 := b.few
  simp only [List.length_singleton] at hm1 hf1
  have e1 := five b.fiok.len
  have e2 := five b.laok.len
  have hrt : l.length - 1 < l.length := by omega
  have main : ∀ la', SetOk la' → (∀ q, mem la' q = true ↔ mem la q = true ∨ (q = 0 ∧ E.getD (l.length - 1) false = true)) → K (sy, (fo.set 0 fi, la')) := by
    intro la' hla' hlm
    have hget : ∀ q, (fo.set 0 fi).getD q D5 = if 0 = q then fi else fo.getD q D5 := fun q => getD_setL (by omega)
    have hfr := b.frag
    have hla0 : mem la 0 = false := by
      cases hx : mem la 0 with
      | false => rfl
      | true => have := ((hfr []).lan 0 hx).1; simp at this
    have hF0 : ∀ r, Fol (fo.set 0 fi) 0 r ↔ mem fi r = true := fun r => by unfold Fol; rw [hget, if_pos rfl]
    have hFq : ∀ q r, 1 ≤ q → (Fol (fo.set 0 fi) q r ↔ Fol fo q r) := fun q r hq => by unfold Fol; rw [hget, if_neg (by omega)]
    refine h _ ⟨by simp only [List.length_set]; exact hfl, ⟨by simp only; omega, by simp only; omega⟩, fun q hq => ?_, hla', fun q hq1 hq2 => b.sgn q (by simpa using hq1) hq2, fun q hq r hr => ?_, fun q hq => ?_, fun w => ?_⟩
    · simp only [List.length_set] at hq
      simp only
      rw [hget]
      split
      · exact b.fiok
      · exact b.inv.ok q hq
    · simp only at hq hr ⊢
      by_cases hq0 : q = 0
      · subst hq0
        have := (hfr []).fin r ((hF0 r).1 hr)
        simpa using this
      · have := (hfr []).fol q (by simp only [List.length_singleton]; omega) hq r ((hFq q r (by omega)).1 hr)
        simpa using this
    · simp only at hq ⊢
      rcases (hlm q).1 hq with hq | ⟨rfl, _⟩
      · exact ((hfr []).lan q hq).2
      · omega
    · simp only
      have hfw : Frag (Fol (fo.set 0 fi)) (fun q => sy.getD q 0) w 1 sy.length (fun q => mem fi q = true) (fun q => mem la q = true) (Mat l w (l.length - 1)) :=
        (hfr w).congr (fun q r hq1 hq2 => (hFq q r (by simpa using hq1)).symm) (fun _ _ _ => rfl)
      have hla0' : ∀ r, 1 ≤ r → (mem la' r = true ↔ mem la r = true) := fun r hr => by
        rw [hlm]
        constructor
        · rintro (h | ⟨h, _⟩)
          · exact h
          · omega
        · exact fun h => .inl h
      cases w with
      | nil =>
        have h0 : mem la' 0 = true ↔ E.getD (l.length - 1) false = true := by
          rw [hlm, hla0]
          simp
        constructor
        · rintro (⟨_, hh⟩ | ⟨q, r, _, hc, _⟩)
          · exact (hEm _ hrt []).1 (h0.1 hh)
          · have := hc.lt; simp at this
        · intro hh
          exact .inl ⟨rfl, h0.2 ((hEm _ hrt []).2 hh)⟩
      | cons s v =>
        rw [← hfw.acc 0 (s :: v).length (by simp)]
        constructor
        · rintro (⟨hh, _⟩ | ⟨q, r, k1, k2, k3⟩)
          · simp at hh
          · have k1' := (hF0 q).1 k1
            have hq := hfw.fin q k1'
            have hr := hfw.inside k2 hq
            exact ⟨q, r, k1', k2, (hla0' r hr.1).1 k3⟩
        · rintro ⟨q, r, k1, k2, k3⟩
          have hr := hfw.lan r k3
          exact .inr ⟨q, r, (hF0 q).2 k1, k2, (hla0' r hr.1).2 k3⟩
  simp only [e1, e2, show ((0 : Int)).toNat = 0 from rfl]
  refine ⟨⟨by omega, by omega⟩, fun he => ?_, fun he => ?_⟩
  · refine VC88_of (p := 0) b.laok (by omega) fun r hr hmr => ?_
    unfold VC60_k1
    rw [five hr.len]
    simp only [e1, show ((0 : Int)).toNat = 0 from rfl]
    refine main r hr fun q => ?_
    rw [hmr, Bool.or_eq_true, decide_eq_true_eq]
    constructor
    · rintro (hh | hh)
      · exact .inl hh
      · exact .inr ⟨hh.symm, he⟩
    · rintro (hh | hh)
      · exact .inl hh
      · exact .inr hh.1.symm
  · unfold VC60_k1
    simp only [e1, e2, show ((0 : Int)).toNat = 0 from rfl]
    refine main la b.laok fun q => ?_
    constructor
    · exact fun hh => .inl hh
    · rintro (hh | hh)
      · exact hh
      · rw [he] at hh; cases hh.2

/-- the net of the positions -/
structure NetOf (A : AutoT) (k : Int) (n : Net) : Prop where
  cnt : n.1 = (A.1.length : Int)
  sym : n.2.1 = k
  arcs : ∀ a, a ∈ n.2.2.1 ↔ ∃ p q : Nat, p < A.1.length ∧ Fol A.2.1 p q ∧ a = ((p : Int), (A.1.getD q 0, (q : Int)))
  few : n.2.2.1.length ≤ 60
  start : n.2.2.2.1 = 1
  fu : U32 n.2.2.2.2
  fin : ∀ p, bt n.2.2.2.2 p = true ↔ p < A.1.length ∧ mem A.2.2 p = true

theorem VC31_of {k : Int} {l : List Nd} {K : Net × Int → Prop} (hbad : ¬ Good k l → ∀ e, e ≠ 0 → K ((0, (0, ([], (0, 0)))), e)) (hbig : Good k l → K ((0, (0, ([], (0, 0)))), 1))
    (h : Good k l → ∀ A n, Aut l k A → A.1.length ≤ 7 → NetOf A k n → K (n, 0)) : VC31 k l K := by
  unfold VC31
  refine VC45_of (fun e he hno => ⟨fun _ => hbad hno e he, fun hc => absurd (by simpa using hc) he⟩) (fun hg => ⟨fun hc => (by simp at hc), fun _ => VC60_of hg fun A hA => ⟨fun _ => hbig hg, fun hs => ?_⟩⟩)
  simp only [decide_eq_false_iff_not] at hs
  have h7 : A.1.length ≤ 7 := by omega
  have hlen := hA.len
  have hfew := hA.few
  have hlok := five hA.lok.len
  refine Loop.by (fun x => ∃ i : Nat, x.1 = (i : Int) ∧ i ≤ A.1.length ∧ U32 x.2.1 ∧ (∀ p, bt x.2.1 p = true ↔ p < i ∧ mem A.2.2 p = true) ∧ (∀ a, a ∈ x.2.2 ↔ ∃ p q : Nat, p < i ∧ Fol A.2.1 p q ∧ a = ((p : Int), (A.1.getD q 0, (q : Int)))) ∧ x.2.2.length ≤ i * 6) (fun x => ((A.1.length : Int) - x.1).toNat) ⟨0, rfl, by omega, u32_zero, fun p => by simp [bt_zero], fun a => by simp, by simp⟩ ?_
  rintro ⟨v, out, arcs⟩ ⟨i, rfl, hi, hu, hbt, harc, hal⟩ X hX
  simp only at hu hbt harc hal ⊢
  unfold VC31_l1
  refine ⟨fun hb => ?_, fun hb => ?_⟩
  · simp only [decide_eq_true_eq] at hb
    have hil : i < A.1.length := by omega
    have hok := five (hA.ok i (by omega)).len
    refine Loop.by (fun x => ∃ j : Nat, x.1 = (j : Int) ∧ j ≤ A.1.length ∧ (∀ a, a ∈ x.2 ↔ (∃ p q : Nat, p < i ∧ Fol A.2.1 p q ∧ a = ((p : Int), (A.1.getD q 0, (q : Int)))) ∨ ∃ q : Nat, q < j ∧ Fol A.2.1 i q ∧ a = ((i : Int), (A.1.getD q 0, (q : Int)))) ∧ x.2.length ≤ i * 6 + (j - 1)) (fun x => ((A.1.length : Int) - x.1).toNat) ⟨0, rfl, by omega, fun a => by simp only; rw [harc]; simp, by simpa using hal⟩ ?_
    rintro ⟨v, ar⟩ ⟨j, rfl, hj, har, hln⟩ X2 hX2
    simp only at har hln ⊢
    unfold VC31_l2
    simp only [Int.toNat_natCast, hok]
    refine ⟨fun hb2 => ?_, fun hb2 => ?_⟩
    · simp only [decide_eq_true_eq] at hb2
      have hjl : j < A.1.length := by omega
      refine ⟨⟨by omega, by omega⟩, ⟨by omega, by omega⟩, VC61_of (hA.ok i (by omega)) (by omega) ⟨fun hm => ?_, fun hm => ?_⟩⟩
      · have hj1 := (hA.fol i hil j hm).1
        unfold VC31_k4
        refine ⟨by unfold roomN; simp only [List.length_singleton]; omega, ⟨by omega, by omega⟩, hX2 _ ⟨j + 1, by simp, by omega, fun a => ?_, by simp only [List.length_append, List.length_singleton]; omega⟩ (by simp only; omega)⟩
        simp only [List.mem_append, List.mem_singleton]
        rw [har]
        constructor
        · rintro ((hh | ⟨q, h1, h2⟩) | hh)
          · exact .inl hh
          · exact .inr ⟨q, by omega, h2⟩
          · exact .inr ⟨j, by omega, hm, hh⟩
        · rintro (hh | ⟨q, h1, h2, h3⟩)
          · exact .inl (.inl hh)
          · by_cases hqj : q < j
            · exact .inl (.inr ⟨q, hqj, h2, h3⟩)
            · have : q = j := by omega
              subst this
              exact .inr h3
      · unfold VC31_k4
        refine ⟨⟨by omega, by omega⟩, hX2 _ ⟨j + 1, by simp, by omega, fun a => ?_, by simp only; omega⟩ (by simp only; omega)⟩
        simp only
        rw [har]
        constructor
        · rintro (hh | ⟨q, h1, h2⟩)
          · exact .inl hh
          · exact .inr ⟨q, by omega, h2⟩
        · rintro (hh | ⟨q, h1, h2, h3⟩)
          · exact .inl hh
          · by_cases hqj : q < j
            · exact .inr ⟨q, hqj, h2, h3⟩
            · have : q = j := by omega
              subst this
              unfold Fol at h2
              rw [hm] at h2; cases h2
    · simp only [decide_eq_false_iff_not] at hb2
      have hjN : j = A.1.length := by omega
      unfold VC31_k2
      rw [hlok]
      have next : ∀ out', U32 out' → (∀ p, bt out' p = true ↔ p < i + 1 ∧ mem A.2.2 p = true) → VC31_k3 (i : Int) X ar out' := by
        intro out' hu' hb'
        unfold VC31_k3
        refine ⟨⟨by omega, by omega⟩, hX _ ⟨i + 1, by simp, by omega, hu', hb', fun a => ?_, by simp only; omega⟩ (by simp only; omega)⟩
        simp only
        rw [har]
        constructor
        · rintro (⟨p, q, h1, h2, h3⟩ | ⟨q, h1, h2, h3⟩)
          · exact ⟨p, q, by omega, h2, h3⟩
          · exact ⟨i, q, by omega, h2, h3⟩
        · rintro ⟨p, q, h1, h2, h3⟩
          by_cases hpi : p < i
          · exact .inl ⟨p, q, hpi, h2, h3⟩
          · have : p = i := by omega
            subst this
            exact .inr ⟨q, by have := (hA.fol p hil q h2).2; omega, h2, h3⟩
      refine VC61_of hA.lok (by omega) ⟨fun hm => ⟨by omega, next _ (u32_or hu (u32_shl1 _)) fun p => ?_⟩, fun hm => next out hu fun p => ?_⟩
      · rw [bt_or hu (u32_shl1 _), bt_shl1 (by omega), Bool.or_eq_true, hbt, decide_eq_true_eq]
        constructor
        · rintro (⟨h1, h2⟩ | rfl)
          · exact ⟨by omega, h2⟩
          · exact ⟨by omega, hm⟩
        · rintro ⟨h1, h2⟩
          by_cases hpi : p < i
          · exact .inl ⟨hpi, h2⟩
          · exact .inr (by omega)
      · rw [hbt]
        constructor
        · rintro ⟨h1, h2⟩; exact ⟨by omega, h2⟩
        · rintro ⟨h1, h2⟩
          by_cases hpi : p < i
          · exact ⟨hpi, h2⟩
          · have : p = i := by omega
            subst this
            rw [hm] at h2; cases h2
  · simp only [decide_eq_false_iff_not] at hb
    have hiN : i = A.1.length := by omega
    subst hiN
    unfold VC31_k1
    exact h hg A _ hA h7 ⟨rfl, rfl, harc, by simp only; omega, rfl, hu, hbt⟩

theorem net_good {l : List Nd} {k : Int} {A : AutoT} {n : Net} (hg : Good k l) (hA : Aut l k A) (h7 : A.1.length ≤ 7) (hn : NetOf A k n) : GoodN n ∧ NU n := by
  have hk := hg.sym
  have hfew := hA.few
  refine ⟨⟨⟨by rw [hn.cnt]; omega, by rw [hn.cnt]; omega, by rw [hn.sym]; omega, by rw [hn.sym]; omega, hn.few⟩, fun a ha => ?_, ?_⟩, ?_⟩
  · obtain ⟨p, q, h1, h2, rfl⟩ := (hn.arcs a).1 ha
    have h3 := hA.fol p h1 q h2
    have h4 := hA.sgn q h3.1 h3.2
    unfold aOk
    rw [hn.cnt, hn.sym]
    simp only
    omega
  · unfold nC
    rw [hn.start, hn.cnt, Int.toNat_natCast]
    refine ⟨?_, (below_bt hn.fu).2 fun i hi => ?_⟩
    · have : 2 ^ 1 ≤ 2 ^ A.1.length := Nat.pow_le_pow_right (by omega) hfew.1
      omega
    · cases hx : bt n.2.2.2.2 i with
      | false => rfl
      | true => have := ((hn.fin i).1 hx).1; omega
  · refine ⟨?_, hn.fu⟩
    rw [hn.start]
    exact ⟨by omega, by omega⟩

theorem np_ch {l : List Nd} {k : Int} {A : AutoT} {n : Net} (hA : Aut l k A) (hn : NetOf A k n) {w : List Int} {p q : Nat} {u : List Int} (h : NP n p u q) : ∀ a, a ≤ w.length → u = w.drop a → (u = [] ∧ p = q) ∨ ∃ q1, Fol A.2.1 p q1 ∧ Ch (Fol A.2.1) (fun q => A.1.getD q 0) w q1 a w.length q := by
  induction h with
  | nil p => intro a ha hu; exact .inl ⟨rfl, rfl⟩
  | eps a ha hs hp h ih =>
    obtain ⟨p', q', h1, h2, rfl⟩ := (hn.arcs a).1 ha
    have h3 := hA.fol p' h1 q' h2
    have h4 := hA.sgn q' h3.1 h3.2
    simp only at hs
    omega
  | sym arc ha hs h0 hp h ih =>
    rename_i p q s u
    intro a hal hu
    obtain ⟨p', q', h1, h2, rfl⟩ := (hn.arcs arc).1 ha
    simp only [Int.toNat_natCast] at hs hp ih
    subst hp
    have ha2 : a < w.length := by
      by_cases hh : a < w.length
      · exact hh
      · rw [List.drop_of_length_le (by omega)] at hu; cases hu
    rw [List.drop_eq_getElem_cons ha2] at hu
    injection hu with hu1 hu2
    have hwa : w[a]? = some (A.1.getD q' 0) := by rw [List.getElem?_eq_getElem ha2, hs, hu1]
    right
    rcases ih (a + 1) (by omega) hu2 with ⟨k1, k2⟩ | ⟨q2, k1, k2⟩
    · subst k2
      have hlen : a + 1 = w.length := by
        have := congrArg List.length hu2
        rw [k1, List.length_drop, List.length_nil] at this
        omega
      refine ⟨q', h2, ?_⟩
      rw [← hlen]
      exact .one q' a hwa
    · exact ⟨q', h2, .step q' q2 a _ q hwa k1 k2⟩

theorem ch_np {l : List Nd} {k : Int} {A : AutoT} {n : Net} (hA : Aut l k A) (hn : NetOf A k n) {w : List Int} {q1 a b r : Nat} (h : Ch (Fol A.2.1) (fun q => A.1.getD q 0) w q1 a b r) : ∀ p, p < A.1.length → Fol A.2.1 p q1 → b = w.length → NP n p (w.drop a) r := by
  induction h with
  | one q a h =>
    intro p hp hf hb
    have hr := hA.fol p hp q hf
    have hsg := hA.sgn q hr.1 hr.2
    have ha2 := (List.getElem?_eq_some_iff.1 h)
    obtain ⟨ha3, ha4⟩ := ha2
    rw [List.drop_eq_getElem_cons ha3, List.drop_of_length_le (by omega), ha4]
    exact .sym ((p : Int), (A.1.getD q 0, (q : Int))) ((hn.arcs _).2 ⟨p, q, hp, hf, rfl⟩) rfl hsg.1 (by simp) (by simp only [Int.toNat_natCast]; exact .nil q)
  | step q q2 a b r h hf2 h2 ih =>
    intro p hp hf hb
    have hr := hA.fol p hp q hf
    have hsg := hA.sgn q hr.1 hr.2
    obtain ⟨ha3, ha4⟩ := (List.getElem?_eq_some_iff.1 h)
    rw [List.drop_eq_getElem_cons ha3, ha4]
    exact .sym ((p : Int), (A.1.getD q 0, (q : Int))) ((hn.arcs _).2 ⟨p, q, hp, hf, rfl⟩) rfl hsg.1 (by simp) (by simp only [Int.toNat_natCast]; exact ih q hr.2 hf2 hb)

/-- the net takes what the expression matches -/
theorem net_takes {l : List Nd} {k : Int} {A : AutoT} {n : Net} (hA : Aut l k A) (h7 : A.1.length ≤ 7) (hn : NetOf A k n) {w : List Int} {r : Int} (hr : IsRun n n.2.2.2.1 w r) : (!decide (bAnd .u32 r n.2.2.2.2 = 0)) = true ↔ Mat l w (l.length - 1) 0 w.length := by
  have hfew := hA.few
  rw [← hA.acc w]
  have hb1 : ∀ p, bt n.2.2.2.1 p = true ↔ p = 0 := by
    intro p
    rw [hn.start]
    have := bt_shl1 (n := 0) (by omega) p
    rw [shl1 (by omega)] at this
    simp only [Nat.pow_zero] at this
    rw [show ((1 : Nat) : Int) = 1 from rfl] at this
    rw [this, decide_eq_true_eq]
    exact eq_comm
  have hz := u32_eq_zero (u32_and hr.1 hn.fu)
  rw [Bool.not_eq_true', decide_eq_false_iff_not, hz]
  have key : ∀ q, bt r q = true ↔ (w = [] ∧ q = 0) ∨ ∃ q1, Fol A.2.1 0 q1 ∧ Ch (Fol A.2.1) (fun q => A.1.getD q 0) w q1 0 w.length q := by
    intro q
    rw [hr.2 q]
    constructor
    · rintro ⟨p, hp, hnp⟩
      have hp0 := (hb1 p).1 hp
      subst hp0
      rcases np_ch (w := w) hA hn hnp 0 (by omega) (by simp) with ⟨h1, h2⟩ | hh
      · exact .inl ⟨h1, h2.symm⟩
      · exact .inr hh
    · rintro (⟨rfl, rfl⟩ | ⟨q1, h1, h2⟩)
      · exact ⟨0, (hb1 0).2 rfl, .nil 0⟩
      · have := ch_np hA hn h2 0 (by omega) h1 rfl
        exact ⟨0, (hb1 0).2 rfl, by simpa using this⟩
  constructor
  · intro hno
    have : ∃ i, i < 32 ∧ bt (bAnd .u32 r n.2.2.2.2) i = true := by
      refine Classical.byContradiction fun hh => hno fun i hi => ?_
      cases hx : bt (bAnd .u32 r n.2.2.2.2) i with
      | false => rfl
      | true => exact absurd ⟨i, hi, hx⟩ hh
    obtain ⟨i, hi, hb⟩ := this
    rw [bt_and hr.1 hn.fu, Bool.and_eq_true] at hb
    have hl := ((hn.fin i).1 hb.2).2
    rcases (key i).1 hb.1 with ⟨h1, rfl⟩ | ⟨q1, h1, h2⟩
    · exact .inl ⟨h1, hl⟩
    · exact .inr ⟨q1, i, h1, h2, hl⟩
  · intro hh hall
    have fin : ∀ q, mem A.2.2 q = true → bt r q = true → False := by
      intro q hq hbq
      have hlq := hA.lst q hq
      have := hall q (by omega)
      rw [bt_and hr.1 hn.fu, hbq, (hn.fin q).2 ⟨hlq, hq⟩] at this
      cases this
    rcases hh with ⟨h1, h2⟩ | ⟨q, r', h1, h2, h3⟩
    · exact fin 0 h2 ((key 0).2 (.inl ⟨h1, rfl⟩))
    · exact fin r' h3 ((key r').2 (.inr ⟨q, h1, h2⟩))

/-- the law SpotTakes -/
theorem spotTakes (k : Int) (l : List Nd) (w : List Int) : VC10 k l w (fun b => b = true) := by
  unfold VC10
  have nogood : ¬ (Good k l ∧ GoodW k w) → ∀ x : Net × Int, VC23 k l w (fun (ret26v : Bool × Int) => VC24 k l w (fun (ret32v : Bool) => (((!ret32v) = true → (!decide (ret26v.2 = (0 : Int))) = true) ∧ ((!ret32v) = false → (((!decide (ret26v.2 = (0 : Int))) = true → false = true) ∧ ((!decide (ret26v.2 = (0 : Int))) = false → (((!decide (x.2 = (0 : Int))) = true → ((decide (x.2 = (1 : Int))) && (decide (x.1.1 = (0 : Int)))) = true) ∧ ((!decide (x.2 = (0 : Int))) = false → Loop (σ := Int) (fun s X => VC10_l1 w (fun b => b = true) x ret26v s X) (0 : Int))))))))) := by
    intro hno x
    refine VC23_of (fun e he _ => VC24_of fun b hb => ⟨fun _ => (by simpa using he), fun hc => ?_⟩) (fun hg hw => absurd ⟨hg, hw⟩ hno)
    simp only [Bool.not_eq_false'] at hc
    exact absurd (hb.1 hc) hno
  by_cases hgw : Good k l ∧ GoodW k w
  · obtain ⟨hg, hw⟩ := hgw
    refine VC31_of (fun hno => absurd hg hno) (fun _ => ?_) (fun _ A n hA h7 hn => ?_)
    · refine VC23_of (fun e he hno => absurd ⟨hg, hw⟩ hno) (fun _ _ b hb => VC24_of fun c hc => ⟨fun hcc => ?_, fun _ => ⟨fun hcc => (by simp at hcc), fun _ => ⟨fun _ => rfl, fun hcc => (by simp at hcc)⟩⟩⟩)
      rw [hc.2 ⟨hg, hw⟩] at hcc; cases hcc
    · refine VC23_of (fun e he hno => absurd ⟨hg, hw⟩ hno) (fun _ _ b hb => VC24_of fun c hc => ⟨fun hcc => ?_, fun _ => ⟨fun hcc => (by simp at hcc), fun _ => ⟨fun hcc => (by simp at hcc), fun _ => ?_⟩⟩⟩)
      · rw [hc.2 ⟨hg, hw⟩] at hcc; cases hcc
      · obtain ⟨hgn, hnu⟩ := net_good hg hA h7 hn
        have hfew := hn.few
        refine loop_count n.2.2.1.length (fun _ => True) trivial ?_
        intro i hi _ X hX
        unfold VC10_l1
        simp only [Int.toNat_natCast]
        refine ⟨fun hlt => ?_, fun hge => ?_⟩
        · simp only [decide_eq_true_eq] at hlt
          refine ⟨⟨by omega, by omega⟩, fun hneg => ?_, fun _ => ⟨⟨by omega, by omega⟩, hX (by omega) trivial⟩⟩
          have ha : n.2.2.1.getD i z3 ∈ n.2.2.1 := getD_mem (by omega)
          obtain ⟨p, q, h1, h2, h3⟩ := (hn.arcs _).1 ha
          have h4 := hA.fol p h1 q h2
          have h5 := hA.sgn q h4.1 h4.2
          simp only [decide_eq_true_eq] at hneg
          rw [h3] at hneg
          simp only at hneg
          omega
        · unfold VC10_k1
          refine VC32_of hnu (fun e he hno => absurd ⟨hgn, by rw [hn.sym]; exact hw⟩ hno) (fun _ _ r hr => ?_)
          have ht := net_takes hA h7 hn hr
          simp only
          have : (!decide (bAnd .u32 r n.2.2.2.2 = 0)) = b := by
            cases hx : (!decide (bAnd .u32 r n.2.2.2.2 = 0)) <;> cases hy : b
            · rfl
            · rw [ht.2 (hb.1 hy)] at hx; cases hx
            · rw [hb.2 (ht.1 hx)] at hy; cases hy
            · rfl
          rw [this]
          simp
  · exact VC31_of (fun _ e he => nogood hgw _) (fun hg => nogood hgw _) (fun hg A n _ _ _ => nogood hgw _)

end Dec
