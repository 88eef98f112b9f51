/-
  The plain contracts of store.Pack and store.Unpack; the laws StoreBack and StoreTold.
-/
import Derived.Test.YtfamoglamihdfaaStoreC
import Derived.Test.YtfamoglamihdfaaDecRw
set_option linter.unusedSimpArgs false
set_option linter.unusedVariables false
namespace Dec
open Go

theorem flat_take_le {α β : Type} (f : α → List β) (l : List α) (i : Nat) : ((l.take i).flatMap f).length ≤ (l.flatMap f).length := by
  conv => rhs; rw [← List.take_append_drop i l]
  rw [List.flatMap_append, List.length_append]
  omega

theorem flat_step {α β : Type} (f : α → List β) {l : List α} {i : Nat} (d : α) (h : i < l.length) : (l.take (i + 1)).flatMap f = (l.take i).flatMap f ++ f (l.getD i d) := by
  rw [List.take_add_one, List.getElem?_eq_getElem h, List.flatMap_append, getD_lt d h]
  simp

theorem VC47_of {t : Thk} {K : List Int → Prop} (hl : (nums t).length ≤ 2000000) (h : K (nums t)) : VC47 t K := by
  have hnl : (nums t).length = 2 + (t.1.flatMap spotN).length := by simp only [nums, List.length_cons]; omega
  have hsl : t.1.length ≤ (t.1.flatMap spotN).length := by
    have : ∀ l : List Spot, l.length ≤ (l.flatMap spotN).length := by
      intro l
      induction l with
      | nil => simp
      | cons s l ih => rw [List.flatMap_cons, List.length_append]; simp only [spotN, List.length_cons]; omega
    exact this _
  unfold VC47
  have h0 := loop_state (B := fun (s : Int × List Int) X => VC47_l1 t K s.1 s.2 X) t.1.length (fun i => t.2 :: (t.1.length : Int) :: (t.1.take i).flatMap spotN) (fun _ => True) trivial ?_
  · simpa using h0
  intro i hi _ X hX
  unfold VC47_l1
  simp only [Int.toNat_natCast]
  refine ⟨fun hb => ?_, fun hb => ?_⟩
  · simp only [decide_eq_true_eq] at hb
    have hil : i < t.1.length := by omega
    have hst := flat_step spotN (0, (0, (0, []))) hil
    have hle := flat_take_le spotN t.1 (i + 1)
    obtain ⟨sp, hsp⟩ : ∃ sp, t.1.getD i (0, (0, (0, []))) = sp := ⟨_, rfl⟩
    rw [hsp] at hst
    rw [hst, List.length_append] at hle
    have hspl : (spotN sp).length = 4 + (sp.2.2.2.flatMap wayN).length := by simp only [spotN, List.length_cons]; omega
    have hwl : sp.2.2.2.length ≤ (sp.2.2.2.flatMap wayN).length := by
      have : ∀ l : List (List Int), l.length ≤ (l.flatMap wayN).length := by
        intro l
        induction l with
        | nil => simp
        | cons s l ih => rw [List.flatMap_cons, List.length_append]; simp only [wayN, List.length_cons]; omega
      exact this _
    simp only [hsp]
    refine ⟨⟨by omega, by omega⟩, by unfold roomN; simp only [List.length_cons, List.length_nil]; omega, ?_⟩
    have h1 := loop_state (B := fun (s : Int × List Int) X2 => VC47_l2 t (i : Int) X s.1 s.2 X2) sp.2.2.2.length (fun j => (t.2 :: (t.1.length : Int) :: (t.1.take i).flatMap spotN) ++ [sp.1, sp.2.1, sp.2.2.1, (sp.2.2.2.length : Int)] ++ (sp.2.2.2.take j).flatMap wayN) (fun _ => True) trivial ?_
    · simpa using h1
    intro j hj _ X2 hX2
    unfold VC47_l2
    simp only [Int.toNat_natCast, hsp]
    refine ⟨fun hb2 => ?_, fun hb2 => ?_⟩
    · simp only [decide_eq_true_eq] at hb2
      have hjl : j < sp.2.2.2.length := by omega
      have hst2 := flat_step wayN [] hjl
      have hle2 := flat_take_le wayN sp.2.2.2 (j + 1)
      rw [hst2, List.length_append] at hle2
      have hwy : (wayN (sp.2.2.2.getD j [])).length = 1 + (sp.2.2.2.getD j []).length := by simp only [wayN, List.length_cons]; omega
      refine ⟨⟨by omega, by omega⟩, ?_, ?_, ⟨by omega, by omega⟩, ?_⟩
      · unfold roomN; simp only [List.length_append, List.length_cons, List.length_nil]; omega
      · unfold roomN; simp only [List.length_append, List.length_cons, List.length_nil]; omega
      · have := hX2 hjl trivial
        rw [hst2] at this
        simpa [wayN, -List.getD_eq_getElem?_getD] using this
    · simp only [decide_eq_false_iff_not] at hb2
      have hjN : sp.2.2.2.take j = sp.2.2.2 := List.take_of_length_le (by omega)
      unfold VC47_k2
      refine ⟨⟨by omega, by omega⟩, ?_⟩
      have := hX hil trivial
      rw [hst] at this
      rw [hjN]
      simpa [spotN] using this
  · simp only [decide_eq_false_iff_not] at hb
    unfold VC47_k1
    rw [List.take_of_length_le (by omega)]
    exact h

/-- Sorted's answer -/
def srtOk (t : Thk) : Prop := ∀ s ∈ t.1, s.2.2.2.length ≤ 4611686018427387904 ∧ ∀ w ∈ s.2.2.2, w.length ≤ 4611686018427387904

open Classical in
noncomputable def srt (t : Thk) : Bool := if h : srtOk t then (sorted_det h).choose.2 else false

theorem VC46_of {t : Thk} (ht : srtOk t) {K : List Int × Bool → Prop} (h : ∀ o, K (o, srt t)) : VC46 t K := by
  have e : srt t = (sorted_det ht).choose.2 := by unfold srt; rw [dif_pos ht]
  refine (sorted_det ht).choose_spec.2 K ?_
  have := h (sorted_det ht).choose.1
  rw [e] at this
  exact this

def sumOf (b : List Int) : List Int := sumB (sumF (0, 0) b)

theorem sumOf_len (b : List Int) : (sumOf b).length = 4 := rfl

/-- store.Pack -/
noncomputable def packRes (t : Thk) : List Int × Int :=
  if srt t = false then ([], 3)
  else if (nums t).any (fun x => decide (x < 0) || decide (65535 < x)) = true then ([], 3)
  else if 4000 < 2 * (nums t).length + 4 then ([], 1)
  else (encN (nums t) ++ sumOf (encN (nums t)), 0)

theorem VC26_of {t : Thk} (ht : srtOk t) (hl : (nums t).length ≤ 2000000) {K : List Int × Int → Prop} (h : K (packRes t)) : VC26 t K := by
  unfold VC26
  refine VC46_of ht fun o => ⟨fun hs => ?_, fun hs => VC47_of hl ?_⟩
  · simp only [Bool.not_eq_true'] at hs
    unfold packRes at h
    rw [if_pos hs] at h
    exact h
  · simp only [Bool.not_eq_false'] at hs
    unfold packRes at h
    rw [if_neg (by rw [hs]; simp)] at h
    refine VC48_of (fun x => decide (x < 0) || decide (65535 < x)) (by omega) (fun x _ K' hK => hK) ⟨fun hb => ?_, fun hb => ?_⟩
    · rw [if_pos hb] at h
      exact h
    · rw [if_neg (by rw [hb]; simp)] at h
      refine ⟨⟨by omega, by omega⟩, ⟨by omega, by omega⟩, fun hc => ?_, fun hc => ?_⟩
      · simp only [decide_eq_true_eq] at hc
        rw [if_pos (by omega)] at h
        exact h
      · simp only [decide_eq_false_iff_not] at hc
        rw [if_neg (by omega)] at h
        have hok : ∀ x ∈ nums t, OkNum x := by
          intro x hx
          have := List.any_eq_false.1 hb x hx
          simp only [Bool.or_eq_true, decide_eq_true_eq] at this
          unfold OkNum; omega
        generalize nums t = N at h hc hok
        have h0 := loop_state (B := fun (s : Int × List Int) X => VC26_l1 K N s.1 s.2 X) N.length (fun i => encN (N.take i)) (fun _ => True) trivial ?_
        · simpa [encN] using h0
        intro i hile _ X hX
        unfold VC26_l1
        simp only [Int.toNat_natCast]
        refine ⟨fun hb2 => ?_, fun hb2 => ?_⟩
        · simp only [decide_eq_true_eq] at hb2
          have hil : i < N.length := by omega
          have hx := hok _ (getD_mem (d := 0) hil)
          have hst : encN (N.take (i + 1)) = encN (N.take i) ++ [lo (N.getD i 0), hi (N.getD i 0)] := flat_step enc1 0 hil
          have hlen := encN_len (N.take i)
          rw [List.length_take] at hlen
          refine ⟨⟨by omega, by omega⟩, ⟨hx.1, by omega⟩, ?_, ⟨by omega, by omega⟩, ?_⟩
          · unfold roomN; simp only [List.length_cons, List.length_nil]; omega
          · have := hX hil trivial
            rw [hst] at this
            exact this
        · simp only [decide_eq_false_iff_not] at hb2
          unfold VC26_k1
          rw [List.take_of_length_le (by omega)]
          have hlen := encN_len N
          refine VC14_of (encN_byte hok) (by omega) ⟨?_, h⟩
          have : (sumB (sumF (0, 0) (encN N))).length = 4 := rfl
          unfold roomN; omega

theorem VC50_of {a b : List Int} (hl : a.length ≤ 1000000) {K : Bool → Prop} (h : K (decide (a = b))) : VC50 a b K := by
  unfold VC50
  refine ⟨fun hne => ?_, fun heq => ?_⟩
  · have : a ≠ b := by
      intro e; subst e; simp at hne
    simpa [this] using h
  · have hlen : a.length = b.length := by
      simp only [Bool.not_eq_false', decide_eq_true_eq] at heq; omega
    refine loop_count a.length (fun i => ∀ j, j < i → a.getD j 0 = b.getD j 0) (fun j hj => absurd hj (by omega)) ?_
    intro i hi hP X hX
    unfold VC50_l1
    refine ⟨fun hlt => ?_, fun hge => ?_⟩
    · simp only [decide_eq_true_eq] at hlt
      simp only [Int.toNat_natCast]
      refine ⟨⟨by omega, by omega⟩, ⟨by omega, by omega⟩, fun hne => ?_, fun he => ⟨⟨by omega, by omega⟩, hX (by omega) fun j hj => ?_⟩⟩
      · have : a ≠ b := by
          intro e; subst e; simp at hne
        simpa [this] using h
      · by_cases hji : j < i
        · exact hP j hji
        · have : j = i := by omega
          subst this
          simpa [-List.getD_eq_getElem?_getD] using he
    · simp only [decide_eq_false_iff_not] at hge
      have : a = b := ext_getD 0 hlen fun j hj => hP j (by omega)
      unfold VC50_k1
      simpa [this] using h

/-- store.reader.next -/
theorem rd_vc {C : Int → List Int → Bool → Prop} {r : List Int} {bad : Bool} (hr : ByteL r) (h : C (rd r bad).1 (rd r bad).2.1 (rd r bad).2.2) :
    (((decide ((r.length : Int) < (2 : Int))) = true → C (0 : Int) r true) ∧ ((decide ((r.length : Int) < (2 : Int))) = false → (inIdx (0 : Int) r.length ∧ inIdx (1 : Int) r.length ∧ 0 ≤ (8 : Int) ∧ InR ((r.getD ((0 : Int)).toNat (0 : Int)) + (bShl .i64 (r.getD ((1 : Int)).toNat (0 : Int)) (8 : Int))) ∧ ((0 ≤ (2 : Int) ∧ (2 : Int) ≤ (r.length : Int)) ∧ C ((r.getD ((0 : Int)).toNat (0 : Int)) + (bShl .i64 (r.getD ((1 : Int)).toNat (0 : Int)) (8 : Int))) (r.drop ((2 : Int)).toNat) bad)))) := by
  match r, hr, h with
  | [], _, h => exact ⟨fun _ => h, fun hc => (by simp at hc)⟩
  | [a], _, h => exact ⟨fun _ => h, fun hc => (by simp at hc)⟩
  | a :: b :: r, hr, h =>
    obtain ⟨h1, h2, h3⟩ := hr.tail
    refine ⟨fun hc => ?_, fun _ => ?_⟩
    · simp only [List.length_cons, decide_eq_true_eq] at hc; omega
    · have e1 : (a :: b :: r).getD ((0 : Int)).toNat 0 = a := rfl
      have e2 : (a :: b :: r).getD ((1 : Int)).toNat 0 = b := rfl
      have e3 : (a :: b :: r).drop ((2 : Int)).toNat = r := rfl
      rw [e1, e2, e3, shl_eq h2]
      simp only [List.length_cons]
      exact ⟨⟨by omega, by omega⟩, ⟨by omega, by omega⟩, by omega, ⟨by omega, by omega⟩, ⟨by omega, by omega⟩, h⟩

theorem rd_len (r : List Int) (bad : Bool) : (rd r bad).2.1.length + 2 ≤ r.length ∨ ((rd r bad).2.2 = true ∧ (rd r bad).2.1 = r) := by
  unfold rd
  split
  · left; simp
  · right; exact ⟨rfl, rfl⟩

theorem rd_bad (r : List Int) : (rd r true).2.2 = true := by
  unfold rd
  split <;> rfl

/-- the loop that reads one way -/
theorem way_loop {ways : Int} {ws : List (List Int)} {X2 : Int × List (List Int) × List Int × Bool → Prop} {long : Int} {r : List Int} {bad : Bool} (hL : OkNum long) (hr : ByteL r) (hrl : r.length ≤ 4000)
    (h : VC27_k10 ways ws X2 (pW long.toNat [] r bad).1 (pW long.toNat [] r bad).2.1 (pW long.toNat [] r bad).2.2) : VC27_k9 ways ws X2 long r bad := by
  unfold VC27_k9
  refine Loop.by (fun s => 0 ≤ s.1 ∧ s.1 ≤ 65535 ∧ ByteL s.2.2.1 ∧ pW s.1.toNat s.2.1 s.2.2.1 s.2.2.2 = pW long.toNat [] r bad ∧ 2 * s.2.1.length + s.2.2.1.length ≤ 4002 ∧ (s.2.2.2 = false → 2 * s.2.1.length + s.2.2.1.length ≤ 4000)) (fun s => s.1.toNat) ⟨hL.1, hL.2, hr, rfl, by simp; omega, fun _ => by simp; omega⟩ ?_
  rintro ⟨l, w, r1, b1⟩ ⟨h1, h2, h3, h4, h5, h6⟩ X3 hX3
  simp only at h1 h2 h3 h4 h5 h6 ⊢
  unfold VC27_l3
  refine ⟨fun hb => ?_, fun hb => ?_⟩
  · simp only [Bool.and_eq_true, decide_eq_true_eq, Bool.not_eq_true'] at hb
    obtain ⟨hb1, rfl⟩ := hb
    refine rd_vc (C := fun v r b => VC27_k11 l w X3 v r b) h3 ?_
    have hby := rd_byte (bad := false) h3
    have hln := rd_len r1 false
    have hstep : pW l.toNat w r1 false = pW (l - 1).toNat (w ++ [(rd r1 false).1]) (rd r1 false).2.1 (rd r1 false).2.2 := by
      rw [show l.toNat = (l - 1).toNat + 1 by omega]
      simp [pW]
    rw [hstep] at h4
    have h7 := h6 rfl
    generalize rd r1 false = q at hby hln h4 ⊢
    obtain ⟨x, r2, b2⟩ := q
    simp only at hby hln h4 ⊢
    unfold VC27_k11
    refine ⟨by unfold roomN; simp only [List.length_singleton]; omega, ⟨by omega, by omega⟩, hX3 _ ⟨by simp only; omega, by simp only; omega, hby.1, h4, ?_, fun hbf => ?_⟩ (by simp only; omega)⟩
    · simp only [List.length_append, List.length_singleton]
      rcases hln with hln | ⟨_, hln⟩
      · omega
      · rw [hln]; omega
    · simp only at hbf
      simp only [List.length_append, List.length_singleton]
      rcases hln with hln | ⟨hln, _⟩
      · omega
      · rw [hbf] at hln; cases hln
  · have e : pW l.toNat w r1 b1 = (w, r1, b1) := by
      simp only [Bool.and_eq_false_iff, decide_eq_false_iff_not, Bool.not_eq_false'] at hb
      rcases hb with hb | hb
      · rw [show l.toNat = 0 by omega]; rfl
      · subst hb
        cases l.toNat <;> simp [pW]
    rw [e] at h4
    rw [← h4] at h
    exact h

theorem pW_props : ∀ (n : Nat) (w r : List Int) (bad : Bool), ByteL r → ByteL (pW n w r bad).2.1 ∧ (pW n w r bad).2.1.length ≤ r.length ∧ (bad = true → (pW n w r bad) = (w, r, true))
  | 0, w, r, bad, hr => ⟨hr, Nat.le_refl _, fun h => by rw [h]; rfl⟩
  | n + 1, w, r, bad, hr => by
    cases bad with
    | true => simp [pW]; exact hr
    | false =>
      simp only [pW, Bool.false_eq_true, if_false]
      have hb := rd_byte (bad := false) hr
      have hl := rd_len r false
      obtain ⟨k1, k2, k3⟩ := pW_props n (w ++ [(rd r false).1]) _ (rd r false).2.2 hb.1
      refine ⟨k1, ?_, fun h => by cases h⟩
      rcases hl with hl | ⟨_, hl⟩
      · omega
      · rw [hl] at k2; exact Nat.le_trans (by rw [hl]; exact k2) (Nat.le_refl _)

/-- the loop that reads a spot's ways -/
theorem ways_loop {many : Int} {sp : List Spot} {X1 : Int × List Spot × List Int × Bool → Prop} {v23 v24 v25 : Int} {n : Int} {r : List Int} {bad : Bool} (hL : OkNum n) (hr : ByteL r) (hrl : r.length ≤ 4000)
    (h : VC27_k8 many sp X1 v23 v24 v25 (pWs n.toNat [] r bad).1 (pWs n.toNat [] r bad).2.1 (pWs n.toNat [] r bad).2.2) : VC27_k7 many sp X1 v23 v24 v25 n r bad := by
  unfold VC27_k7
  refine Loop.by (fun s => 0 ≤ s.1 ∧ s.1 ≤ 65535 ∧ ByteL s.2.2.1 ∧ pWs s.1.toNat s.2.1 s.2.2.1 s.2.2.2 = pWs n.toNat [] r bad ∧ 2 * s.2.1.length + s.2.2.1.length ≤ 4002 ∧ (s.2.2.2 = false → 2 * s.2.1.length + s.2.2.1.length ≤ 4000)) (fun s => s.1.toNat) ⟨hL.1, hL.2, hr, rfl, by simp; omega, fun _ => by simp; omega⟩ ?_
  rintro ⟨l, w, r1, b1⟩ ⟨h1, h2, h3, h4, h5, h6⟩ X3 hX3
  simp only at h1 h2 h3 h4 h5 h6 ⊢
  unfold VC27_l2
  refine ⟨fun hb => ?_, fun hb => ?_⟩
  · simp only [Bool.and_eq_true, decide_eq_true_eq, Bool.not_eq_true'] at hb
    obtain ⟨hb1, rfl⟩ := hb
    refine rd_vc (C := fun v r b => VC27_k9 l w X3 v r b) h3 ?_
    have hby := rd_byte (bad := false) h3
    have hln := rd_len r1 false
    have hstep : pWs l.toNat w r1 false = pWs (l - 1).toNat (w ++ [(pW (rd r1 false).1.toNat [] (rd r1 false).2.1 (rd r1 false).2.2).1]) (pW (rd r1 false).1.toNat [] (rd r1 false).2.1 (rd r1 false).2.2).2.1 (pW (rd r1 false).1.toNat [] (rd r1 false).2.1 (rd r1 false).2.2).2.2 := by
      rw [show l.toNat = (l - 1).toNat + 1 by omega]
      simp [pWs]
    rw [hstep] at h4
    have h7 := h6 rfl
    generalize rd r1 false = q at hby hln h4 ⊢
    obtain ⟨x, r2, b2⟩ := q
    simp only at hby hln h4 ⊢
    have hr2 : r2.length ≤ 4000 := by
      rcases hln with hln | ⟨_, hln⟩
      · omega
      · rw [hln]; omega
    refine way_loop hby.2 hby.1 hr2 ?_
    obtain ⟨p1, p2, p3⟩ := pW_props x.toNat [] r2 b2 hby.1
    have hbb : (pW x.toNat [] r2 b2).2.2 = false → b2 = false := by
      intro hh
      cases b2 with
      | false => rfl
      | true => rw [p3 rfl] at hh; cases hh
    generalize pW x.toNat [] r2 b2 = z at p1 p2 hbb h4 ⊢
    obtain ⟨y, r3, b3⟩ := z
    simp only at p1 p2 hbb h4 ⊢
    unfold VC27_k10
    refine ⟨by unfold roomN; simp only [List.length_singleton]; omega, ⟨by omega, by omega⟩, hX3 _ ⟨by simp only; omega, by simp only; omega, p1, h4, ?_, fun hbf => ?_⟩ (by simp only; omega)⟩
    · simp only [List.length_append, List.length_singleton]
      rcases hln with hln | ⟨_, hln⟩
      · omega
      · rw [hln] at p2; omega
    · simp only at hbf
      simp only [List.length_append, List.length_singleton]
      rcases hln with hln | ⟨hln, _⟩
      · omega
      · rw [hbb hbf] at hln; cases hln
  · have e : pWs l.toNat w r1 b1 = (w, r1, b1) := by
      simp only [Bool.and_eq_false_iff, decide_eq_false_iff_not, Bool.not_eq_false'] at hb
      rcases hb with hb | hb
      · rw [show l.toNat = 0 by omega]; rfl
      · subst hb
        cases l.toNat <;> simp [pWs]
    rw [e] at h4
    rw [← h4] at h
    exact h

theorem pWs_props : ∀ (n : Nat) (w : List (List Int)) (r : List Int) (bad : Bool), ByteL r → ByteL (pWs n w r bad).2.1 ∧ (pWs n w r bad).2.1.length ≤ r.length ∧ (bad = true → (pWs n w r bad) = (w, r, true))
  | 0, w, r, bad, hr => ⟨hr, Nat.le_refl _, fun h => by rw [h]; rfl⟩
  | n + 1, w, r, bad, hr => by
    cases bad with
    | true => simp [pWs]; exact hr
    | false =>
      simp only [pWs, Bool.false_eq_true, if_false]
      have hb := rd_byte (bad := false) hr
      have hl := rd_len r false
      obtain ⟨q1, q2, q3⟩ := pW_props (rd r false).1.toNat [] (rd r false).2.1 (rd r false).2.2 hb.1
      obtain ⟨k1, k2, k3⟩ := pWs_props n (w ++ [(pW (rd r false).1.toNat [] (rd r false).2.1 (rd r false).2.2).1]) _ (pW (rd r false).1.toNat [] (rd r false).2.1 (rd r false).2.2).2.2 q1
      refine ⟨k1, ?_, fun h => by cases h⟩
      have : (rd r false).2.1.length ≤ r.length := by
        rcases hl with hl | ⟨_, hl⟩
        · omega
        · rw [hl]; omega
      omega

/-- the loop that reads the spots -/
theorem spots_loop {K : Thk × Int → Prop} {root : Int} {n : Int} {r : List Int} {bad : Bool} (hL : OkNum n) (hr : ByteL r) (hrl : r.length ≤ 4000)
    (h : VC27_k3 K root (pS n.toNat [] r bad).1 (pS n.toNat [] r bad).2.1 (pS n.toNat [] r bad).2.2) : VC27_k2 K root n r bad := by
  unfold VC27_k2
  refine Loop.by (fun s => 0 ≤ s.1 ∧ s.1 ≤ 65535 ∧ ByteL s.2.2.1 ∧ pS s.1.toNat s.2.1 s.2.2.1 s.2.2.2 = pS n.toNat [] r bad ∧ 2 * s.2.1.length + s.2.2.1.length ≤ 4002 ∧ (s.2.2.2 = false → 2 * s.2.1.length + s.2.2.1.length ≤ 4000)) (fun s => s.1.toNat) ⟨hL.1, hL.2, hr, rfl, by simp; omega, fun _ => by simp; omega⟩ ?_
  rintro ⟨l, w, r1, b1⟩ ⟨h1, h2, h3, h4, h5, h6⟩ X3 hX3
  simp only at h1 h2 h3 h4 h5 h6 ⊢
  unfold VC27_l1
  refine ⟨fun hb => ?_, fun hb => ?_⟩
  · simp only [Bool.and_eq_true, decide_eq_true_eq, Bool.not_eq_true'] at hb
    obtain ⟨hb1, rfl⟩ := hb
    have h7 := h6 rfl
    have hstep : pS l.toNat w r1 false = pS (l - 1).toNat (w ++ [(pSp r1 false).1]) (pSp r1 false).2.1 (pSp r1 false).2.2 := by
      rw [show l.toNat = (l - 1).toNat + 1 by omega]
      simp [pS]
    rw [hstep] at h4
    simp only [pSp] at h4
    refine rd_vc (C := fun v r b => VC27_k4 l w X3 v r b) h3 ?_
    have hby0 := rd_byte (bad := false) h3
    have hln0 := rd_len r1 false
    generalize rd r1 false = q0 at hby0 hln0 h4 ⊢
    obtain ⟨x0, r2, b2⟩ := q0
    simp only at hby0 hln0 h4 ⊢
    have hrl2 : r2.length ≤ r1.length := by
      rcases hln0 with hh | ⟨_, hh⟩
      · omega
      · rw [hh]; omega
    unfold VC27_k4
    refine rd_vc (C := fun v r b => VC27_k5 l w X3 x0 v r b) hby0.1 ?_
    have hby1 := rd_byte (bad := b2) hby0.1
    have hln1 := rd_len r2 b2
    have hbd1 : (rd r2 b2).2.2 = false → b2 = false := fun hh => by cases b2 with | false => rfl | true => rw [rd_bad] at hh; cases hh
    generalize rd r2 b2 = q1 at hby1 hln1 hbd1 h4 ⊢
    obtain ⟨x1, r3, b3⟩ := q1
    simp only at hby1 hln1 hbd1 h4 ⊢
    have hrl3 : r3.length ≤ r2.length := by
      rcases hln1 with hh | ⟨_, hh⟩
      · omega
      · rw [hh]; omega
    unfold VC27_k5
    refine rd_vc (C := fun v r b => VC27_k6 l w X3 x0 x1 v r b) hby1.1 ?_
    have hby2 := rd_byte (bad := b3) hby1.1
    have hln2 := rd_len r3 b3
    have hbd2 : (rd r3 b3).2.2 = false → b3 = false := fun hh => by cases b3 with | false => rfl | true => rw [rd_bad] at hh; cases hh
    generalize rd r3 b3 = q2 at hby2 hln2 hbd2 h4 ⊢
    obtain ⟨x2, r4, b4⟩ := q2
    simp only at hby2 hln2 hbd2 h4 ⊢
    have hrl4 : r4.length ≤ r3.length := by
      rcases hln2 with hh | ⟨_, hh⟩
      · omega
      · rw [hh]; omega
    unfold VC27_k6
    refine rd_vc (C := fun v r b => VC27_k7 l w X3 x0 x1 x2 v r b) hby2.1 ?_
    have hby3 := rd_byte (bad := b4) hby2.1
    have hln3 := rd_len r4 b4
    have hbd3 : (rd r4 b4).2.2 = false → b4 = false := fun hh => by cases b4 with | false => rfl | true => rw [rd_bad] at hh; cases hh
    generalize rd r4 b4 = q3 at hby3 hln3 hbd3 h4 ⊢
    obtain ⟨x3, r5, b5⟩ := q3
    simp only at hby3 hln3 hbd3 h4 ⊢
    have hrl5 : r5.length ≤ r4.length := by
      rcases hln3 with hh | ⟨_, hh⟩
      · omega
      · rw [hh]; omega
    refine ways_loop hby3.2 hby3.1 (by omega) ?_
    obtain ⟨p1, p2, p3⟩ := pWs_props x3.toNat [] r5 b5 hby3.1
    have hbb : (pWs x3.toNat [] r5 b5).2.2 = false → b5 = false := by
      intro hh
      cases b5 with
      | false => rfl
      | true => rw [p3 rfl] at hh; cases hh
    generalize pWs x3.toNat [] r5 b5 = z at p1 p2 hbb h4 ⊢
    obtain ⟨y, r6, b6⟩ := z
    simp only at p1 p2 hbb h4 ⊢
    unfold VC27_k8
    refine ⟨by unfold roomN; simp only [List.length_singleton]; omega, ⟨by omega, by omega⟩, hX3 _ ⟨by simp only; omega, by simp only; omega, p1, h4, ?_, fun hbf => ?_⟩ (by simp only; omega)⟩
    · simp only [List.length_append, List.length_singleton]
      omega
    · simp only at hbf
      simp only [List.length_append, List.length_singleton]
      rcases hln0 with hh | ⟨hh, _⟩
      · omega
      · rw [hbd1 (hbd2 (hbd3 (hbb hbf)))] at hh; cases hh
  · have e : pS l.toNat w r1 b1 = (w, r1, b1) := by
      simp only [Bool.and_eq_false_iff, decide_eq_false_iff_not, Bool.not_eq_false'] at hb
      rcases hb with hb | hb
      · rw [show l.toNat = 0 by omega]; rfl
      · subst hb
        cases l.toNat <;> simp [pS]
    rw [e] at h4
    rw [← h4] at h
    exact h

end Dec
