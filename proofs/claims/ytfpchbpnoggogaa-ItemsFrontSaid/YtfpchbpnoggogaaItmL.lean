/-
The order that Earley's items are sorted by (plain). items.Sets: the sorted sets of all positions. ItemsFront over plain data: the item sets of a beginning are told by it alone.
-/
import Derived.Test.YtfpchbpnoggogaaGenIc
import Derived.Test.YtfpchbpnoggogaaPop
import Derived.Test.YtfpchbpnoggogaaItmB
set_option linter.unusedSimpArgs false
set_option linter.unusedVariables false
set_option linter.unusedSectionVars false
namespace Dec
open Go Go.Proofs
def cmp1 (x y : Int) : Int := if x < y then -1 else if y < x then 1 else 0
theorem VC66_of {x y : Int} {K : Int → Prop} (h : K (cmp1 x y)) : VC66 x y K := by
  unfold VC66 VC95
  simp only [decide_true, Bool.not_true]
  refine ⟨fun h => (by cases h), fun _ => ⟨fun h => (by cases h), fun _ => ?_⟩⟩
  unfold cmp1 at h
  refine ⟨fun hc => ?_, fun hc => ⟨fun hd => ?_, fun hd => ?_⟩⟩
  · simp only [decide_eq_true_eq] at hc
    rwa [if_pos hc] at h
  · simp only [decide_eq_false_iff_not] at hc
    simp only [decide_eq_true_eq] at hd
    rwa [if_neg hc, if_pos hd] at h
  · simp only [decide_eq_false_iff_not] at hc hd
    rwa [if_neg hc, if_neg hd] at h
def or3 (a b c : Int) : Int := if a ≠ 0 then a else if b ≠ 0 then b else c
theorem VC65_of {a b c : Int} {K : Int → Prop} (h : K (or3 a b c)) : VC65 [a, b, c] K := by
  unfold VC65
  unfold or3 at h
  refine loop_count 3 (fun i => (1 ≤ i → a = 0) ∧ (2 ≤ i → b = 0) ∧ (3 ≤ i → c = 0)) ⟨fun h => by omega, fun h => by omega, fun h => by omega⟩ ?_
  intro i hi hP X hX
  unfold VC65_l1 VC65_k1
  have h3 : (([a, b, c] : List Int).length : Int) = 3 := rfl
  rw [h3]
  simp only [Int.toNat_natCast]
  refine ⟨fun hb => ?_, fun hb => ?_⟩
  · simp only [decide_eq_true_eq] at hb
    refine ⟨⟨by omega, by rw [h3]; omega⟩, fun hne => ?_, fun he => ⟨by unfold InR; omega, hX (by omega) ?_⟩⟩
    · simp only [Bool.not_eq_true', decide_eq_false_iff_not] at hne
      match i, hb, hP, hne with
      | 0, _, _, hne =>
        have hne : a ≠ 0 := hne
        rw [if_pos hne] at h
        exact h
      | 1, _, hP, hne =>
        have hne : b ≠ 0 := hne
        rw [if_neg (by simp [hP.1 (by omega)]), if_pos hne] at h
        exact h
      | 2, _, hP, hne =>
        rw [if_neg (by simp [hP.1 (by omega)]), if_neg (by simp [hP.2.1 (by omega)])] at h
        exact h
      | n + 3, hb, _, _ => omega
    · simp only [Bool.not_eq_false', decide_eq_true_eq] at he
      match i, hb, hP, he with
      | 0, _, _, he => exact ⟨fun _ => he, fun h => by omega, fun h => by omega⟩
      | 1, _, hP, he => exact ⟨fun _ => hP.1 (by omega), fun _ => he, fun h => by omega⟩
      | 2, _, hP, he => exact ⟨fun _ => hP.1 (by omega), fun _ => hP.2.1 (by omega), fun _ => he⟩
      | n + 3, hb, _, _ => omega
  · simp only [decide_eq_false_iff_not] at hb
    have hc := hP.2.2 (by omega)
    rw [if_neg (by simp [hP.1 (by omega)]), if_neg (by simp [hP.2.1 (by omega)]), hc] at h
    exact h
def cmpX (x y : Int × (Int × Int)) : Int := or3 (cmp1 x.1 y.1) (cmp1 x.2.1 y.2.1) (cmp1 x.2.2 y.2.2)
theorem cmpX_lt {x y : Int × (Int × Int)} : cmpX x y < 0 ↔ x.1 < y.1 ∨ (x.1 = y.1 ∧ (x.2.1 < y.2.1 ∨ (x.2.1 = y.2.1 ∧ x.2.2 < y.2.2))) := by
  unfold cmpX or3 cmp1
  split <;> split <;> (try split) <;> (try split) <;> (try split) <;> (try split) <;> (try split) <;> omega
theorem cmpX_cmp (l : List (Int × (Int × Int))) : Cmp l cmpX := by
  refine ⟨fun x _ => ?_, fun x _ y _ z _ => ?_, fun x _ y _ z _ => ?_⟩
  · rw [cmpX_lt]; omega
  · rw [cmpX_lt, cmpX_lt, cmpX_lt]; omega
  · rw [cmpX_lt, cmpX_lt, cmpX_lt]; omega
theorem cmpX_eq {x y : Int × (Int × Int)} (h1 : ¬ cmpX x y < 0) (h2 : ¬ cmpX y x < 0) : x = y := by
  rw [cmpX_lt] at h1 h2
  exact Prod.ext (by omega) (Prod.ext (by omega) (by omega))
theorem VC64_of {x y : Int × (Int × Int)} {K : Int → Prop} (h : K (cmpX x y)) : VC64 x y K := by
  unfold VC64
  exact VC66_of (VC66_of (VC66_of (VC65_of h)))
theorem srt_same : ∀ {a b : List (Int × (Int × Int))}, a.Perm b → a.Pairwise (fun x y => ¬ cmpX y x < 0) → b.Pairwise (fun x y => ¬ cmpX y x < 0) → a = b
  | [], b, hp, _, _ => (List.nil_perm.1 hp).symm
  | x :: a, [], hp, _, _ => absurd hp.symm (by intro h; exact absurd (List.nil_perm.1 h) (by simp))
  | x :: a, y :: b, hp, ha, hb => by
    rw [List.pairwise_cons] at ha hb
    have e : x = y := by
      have hx : x ∈ y :: b := hp.subset (List.mem_cons_self ..)
      have hy : y ∈ x :: a := hp.symm.subset (List.mem_cons_self ..)
      rcases List.mem_cons.1 hx with e | hx
      · exact e
      · rcases List.mem_cons.1 hy with e | hy
        · exact e.symm
        · exact cmpX_eq (hb.1 x hx) (ha.1 y hy)
    subst e
    rw [srt_same ((List.perm_cons x).1 hp) ha.2 hb.2]
end Dec
namespace Dec
open Go Go.Proofs Cfg
theorem k3_of {K : (List LN) × Int → Prop} {N : List LN} {H : List Hv} (hl : ∀ l ∈ N, l.length ≤ 1000) (h13 : N.length ≤ 1000) (hK : ∀ out : List LN, out.length = N.length → (∀ i, i < N.length → Srt cmpX (N.getD i []) (out.getD i [])) → K (out, 0)) : VC31_k3 K N H := by
  unfold VC31_k3
  refine Loop.by (fun s : Int × List LN => ∃ i : Nat, s.1 = (i : Int) ∧ i ≤ N.length ∧ s.2.length = N.length ∧ (∀ j, j < i → Srt cmpX (N.getD j []) (s.2.getD j [])) ∧ ∀ j, i ≤ j → s.2.getD j [] = N.getD j []) (fun s => N.length - s.1.toNat) ⟨0, rfl, Nat.zero_le _, rfl, fun j hj => by omega, fun j _ => rfl⟩ ?_
  rintro ⟨v, out⟩ ⟨i, e, hi, ho, h1, h2⟩ X hX
  dsimp only at e ho h1 h2 hX ⊢
  subst e
  unfold VC31_l1 VC31_k4
  simp only [Int.toNat_natCast]
  refine ⟨fun hb => ?_, fun hb => ?_⟩
  · simp only [decide_eq_true_eq] at hb
    have hi2 : i < N.length := by omega
    refine ⟨⟨by omega, by omega⟩, cmpX, cmpX_cmp _, ?_, fun x _ y _ => VC64_of rfl, fun l' hs => ⟨by unfold InR; omega, ?_⟩⟩
    · rw [h2 i (Nat.le_refl _)]
      have := hl _ (getD_mem (d := []) hi2)
      simp only [roomN]; omega
    · refine hX _ ⟨i + 1, by simp, by omega, by simp [ho], fun j hj => ?_, fun j hj => ?_⟩ (by simp only [Int.toNat_natCast]; omega)
      · dsimp only
        by_cases ej : j = i
        · subst ej
          rw [h2 j (Nat.le_refl _)] at hs
          rw [show (out.set j l').getD j [] = l' by simp [List.getD, show j < out.length by omega]]
          exact hs
        · rw [show (out.set i l').getD j [] = out.getD j [] by simp [List.getD, List.getElem?_set_ne (show i ≠ j by omega)]]
          exact h1 j (by omega)
      · dsimp only
        rw [show (out.set i l').getD j [] = out.getD j [] by simp [List.getD, List.getElem?_set_ne (show i ≠ j by omega)]]
        exact h2 j (by omega)
  · simp only [decide_eq_false_iff_not] at hb
    exact hK out ho fun j hj => h1 j (by omega)
theorem two_get {α : Type} (a : List α) (x y : α) (b : List α) (d : α) {n : Nat} (h : a.length = n) : (a ++ x :: y :: b).getD (n + 1) d = y := by
  subst h; simp [List.getD]
theorem two_set {α : Type} (a : List α) (x y z : α) (b : List α) {n : Nat} (h : a.length = n) : (a ++ x :: y :: b).set (n + 1) z = a ++ x :: z :: b := by
  subst h
  rw [List.set_append_right _ _ (by omega)]
  simp
theorem two_in {α : Type} (a : List α) (x y : α) (b : List α) {n : Nat} (h : a.length = n) : inIdx ((n : Int) + 1) (a ++ x :: y :: b).length := ⟨by omega, by simp; omega⟩
section
variable {g : Gr} (hg : GoodG g) {pr : List LN} {hp : List Hv} (hh : hp.length = pr.length) (h12 : pr.length + 1 ≤ 12) (hpr : PrOk g pr) {post : List LN} {hpost : List Hv}
include hg hh h12 hpr
theorem k7_of {w : LI} (hw : pr.length < w.length) {a : Int} (ha : w.getD pr.length 0 = a) {c : LN} (hc : SetOk g pr.length c) {L0 : List LN} (e0 : L0.getD pr.length [] = c) {j : Nat} (hj : j < 1000) {l : LN} {h h2 : Hv} (hl : SetOk g (pr.length + 1) l) (hhl : HasI h2 l)
    {y : It} (ey : c.getD j z3 = y) (hy : ItOk g pr.length y) {v4 : Int} {v5 : Bool} (hn : nxt g y = if v5 then some v4 else none) {X3 : Int × List LN × List Hv → Prop}
    (hX : ∀ h', HasI h' (if nxt g y = some a then addI l (mv y) else l) → X3 ((j : Int) + 1, pr ++ c :: (if nxt g y = some a then addI l (mv y) else l) :: post, hp ++ h :: h' :: hpost)) :
    VC31_k7 w (pr.length : Int) L0 (j : Int) (pr ++ c :: l :: post) (hp ++ h :: h2 :: hpost) X3 v4 v5 := by
  have e1 : ((pr.length : Int) + 1).toNat = pr.length + 1 := by omega
  unfold VC31_k7 VC31_k9 VC31_k8
  have tg := two_get (α := LN)
  have ts := two_set (α := LN)
  have tg' := two_get (α := Hv) hp h h2 hpost [] hh
  have ts' := two_set (α := Hv) hp h h2
  have ti := two_in pr c l post rfl
  have ti' := two_in hp h h2 hpost hh
  simp only [Int.toNat_natCast, e1, tg pr c l post [] rfl, ts pr c l _ post rfl, tg', ts' _ hpost hh, e0, ey, ha]
  have hin : InR ((j : Int) + 1) := by unfold InR; omega
  have e2 : (v5 && decide (v4 = a)) = true ↔ nxt g y = some a := by
    rw [hn]
    cases v5 <;> simp
  refine ⟨fun _ => ⟨by omega, by omega⟩, fun he => ?_, fun he => ?_⟩
  · have he := e2.1 he
    rw [if_pos he] at hX
    have h4 := hg.short _ (rl_mem hy)
    have h5 := hy.d
    refine ⟨by unfold InR; omega, by unfold InR; omega, ti', add_split hhl (fun hni => ?_) (fun hin2 => ?_)⟩
    · unfold addI at hX
      rw [if_neg (show ¬ mv y ∈ l from hni)] at hX
      have := hl.len hg h12
      exact ⟨ti', ti, by omega, ti, by omega, by simp only [roomN, List.length_singleton]; omega, ti, hin, hX _ (hhl.add _ _)⟩
    · unfold addI at hX
      rw [if_pos (show mv y ∈ l from hin2)] at hX
      exact ⟨hin, hX _ hhl⟩
  · have he : ¬ nxt g y = some a := fun e => by rw [e2.2 e] at he; cases he
    rw [if_neg he] at hX
    exact ⟨hin, hX _ hhl⟩
theorem scn_loop {w : LI} (hw : pr.length < w.length) {a : Int} (ha : w.getD pr.length 0 = a) {c : LN} (hc : SetOk g pr.length c) {L0 : List LN} (e0 : L0.getD pr.length [] = c) {h : Hv} {X2 X : Int × List LN × List Hv → Prop}
    (hX : ∀ s : Int × List LN × List Hv, VC31_l3 g w (pr.length : Int) X2 L0 s.1 s.2.1 s.2.2 X → X s) : ∀ (n j : Nat) (h2 : Hv), j + n = c.length → HasI h2 (scnF g a c j []) →
    (∀ h', HasI h' (scnF g a c c.length []) → VC31_k6 (pr.length : Int) X2 L0 (pr ++ c :: scnF g a c c.length [] :: post) (hp ++ h :: h' :: hpost)) → X ((j : Int), pr ++ c :: scnF g a c j [] :: post, hp ++ h :: h2 :: hpost) := by
  intro n
  have hcl := hc.len hg (show pr.length ≤ 12 by omega)
  induction n with
  | zero =>
    intro j h2 hj hhl hK
    refine hX _ ?_
    show VC31_l3 g w (pr.length : Int) X2 L0 (j : Int) _ _ X
    unfold VC31_l3
    simp only [Int.toNat_natCast, e0]
    refine ⟨fun hlt => ?_, fun _ => ?_⟩
    · simp only [decide_eq_true_eq] at hlt; omega
    · have : j = c.length := by omega
      subst this
      exact hK h2 hhl
  | succ n ih =>
    intro j h2 hj hhl hK
    have hl := hc.scn (a := a) (Nat.le_succ pr.length) SetOk.nil j (by omega)
    refine hX _ ?_
    show VC31_l3 g w (pr.length : Int) X2 L0 (j : Int) _ _ X
    unfold VC31_l3
    simp only [Int.toNat_natCast, e0]
    refine ⟨fun hlt => ?_, fun hge => ?_⟩
    · have hy : ItOk g pr.length (c.getD j z3) := hc.ok _ (getD_mem (by omega))
      refine ⟨⟨by omega, by omega⟩, item_in hy, nxt_cases hy fun v b hvb => k7_of hg hh h12 hpr hw ha hc e0 (by omega) hl hhl rfl hy hvb fun h' hh' => ?_⟩
      rw [← scnF_succ] at hh' ⊢
      have := ih (j + 1) h' (by omega) hh' hK
      simpa using this
    · simp only [decide_eq_false_iff_not] at hge; omega
end
theorem setsF_last (g : Gr) (w : List Int) (p : Nat) : (setsF g w (p + 1)).1 = (setsF g w p).1 ++ [clsF g (setsF g w p).1 1000 (-1) (setsF g w p).2] := rfl
theorem setsF_next (g : Gr) (w : List Int) (p : Nat) : (setsF g w (p + 1)).2 = scnF g (w.getD p 0) (clsF g (setsF g w p).1 1000 (-1) (setsF g w p).2) (clsF g (setsF g w p).1 1000 (-1) (setsF g w p).2).length [] := rfl
theorem pos_loop {g : Gr} (hg : GoodG g) {w : LI} (hw : w.length ≤ 12) {K : (List LN) × Int → Prop} {L0 : List LN} (h0 : L0.length = w.length + 1) (hK : ∀ H, VC31_k3 K (setsF g w (w.length + 1)).1 H) {X : Int × List LN × List Hv → Prop}
    (hX : ∀ s : Int × List LN × List Hv, VC31_l2 g w K L0 s.1 s.2.1 s.2.2 X → X s) : ∀ (n p : Nat) (hp : List Hv) (h : Hv), p + n = w.length → hp.length = p → HasI h (setsF g w p).2 →
    X ((p : Int), (setsF g w p).1 ++ (setsF g w p).2 :: List.replicate n [], hp ++ h :: List.replicate n []) := by
  intro n
  induction n with
  | zero =>
    intro p hp h hpn hpl hhl
    have hsl := setsF_len g w p
    obtain ⟨ho1, ho2⟩ := setsF_ok g w p
    refine hX _ ?_
    show VC31_l2 g w K L0 (p : Int) _ _ X
    unfold VC31_l2
    refine ⟨fun _ => ?_, fun hge => ?_⟩
    · intro Y hY
      rw [show (p : Int) = ((setsF g w p).1.length : Int) by rw [hsl]] at hY
      refine cls_loop hg (by rw [hpl, hsl]) (by omega) ho1 hY 1000 (-1) _ h (by omega) (by omega) (by rw [hsl]; exact ho2) hhl fun h' hh' => ?_
      unfold VC31_k5
      refine ⟨fun _ => ?_, fun hne => ?_⟩
      · have := hK (hp ++ h' :: List.replicate 0 [])
        rw [show w.length + 1 = p + 1 by omega, setsF_last] at this
        exact this
      · simp only [decide_eq_false_iff_not] at hne; omega
    · simp only [decide_eq_false_iff_not] at hge; omega
  | succ n ih =>
    intro p hp h hpn hpl hhl
    have hsl := setsF_len g w p
    obtain ⟨ho1, ho2⟩ := setsF_ok g w p
    refine hX _ ?_
    show VC31_l2 g w K L0 (p : Int) _ _ X
    unfold VC31_l2
    refine ⟨fun _ => ?_, fun hge => ?_⟩
    · intro Y hY
      rw [show (p : Int) = ((setsF g w p).1.length : Int) by rw [hsl]] at hY
      refine cls_loop hg (by rw [hpl, hsl]) (by omega) ho1 hY 1000 (-1) _ h (by omega) (by omega) (by rw [hsl]; exact ho2) hhl fun h' hh' => ?_
      unfold VC31_k5
      refine ⟨fun heq => ?_, fun _ => ⟨mid_in _ _ _ rfl, ?_⟩⟩
      · simp only [decide_eq_true_eq] at heq; omega
      · intro Z hZ
        have hcs : SetOk g (setsF g w p).1.length (clsF g (setsF g w p).1 1000 (-1) (setsF g w p).2) := SetOk.cls ho1 1000 (-1) (by rw [hsl]; exact ho2)
        have := scn_loop hg (by rw [hpl, hsl]) (by omega) ho1 (post := List.replicate n []) (hpost := List.replicate n []) (by omega) (a := w.getD p 0) (by rw [hsl]) hcs (mid_get _ _ _ _) (h := h') hZ _ 0 [] (Nat.zero_add _) HasI.nil fun h2 hh2 => ?_
        · exact this
        · unfold VC31_k6
          simp only [Int.toNat_natCast, mid_get, mid_set]
          refine ⟨by unfold InR; omega, ?_⟩
          have := ih (p + 1) (hp ++ [h']) h2 (by omega) (by simp [hpl]) (by rw [setsF_next]; exact hh2)
          rw [setsF_last, setsF_next, List.append_assoc, List.append_assoc] at this
          rw [hsl]
          simpa using this
    · simp only [decide_eq_false_iff_not] at hge; omega
theorem sets_len {g : Gr} (hg : GoodG g) {w : LI} (hw : w.length ≤ 12) : ∀ l ∈ (setsF g w (w.length + 1)).1, l.length ≤ 1000 := by
  intro l hl
  obtain ⟨q, hq, e⟩ := List.mem_iff_getElem.1 hl
  have hsl := setsF_len g w (w.length + 1)
  have := (setsF_ok g w (w.length + 1)).1 q hq
  rw [getD_lt _ hq, e] at this
  have := this.len hg (by omega)
  omega
theorem k1_of {g : Gr} (hg : GoodG g) {w : LI} (hw : w.length ≤ 12) {K : (List LN) × Int → Prop} (hK : ∀ H, VC31_k3 K (setsF g w (w.length + 1)).1 H) : VC31_k1 g w K (List.replicate (w.length + 1) []) := by
  unfold VC31_k1
  have hfew := hg.few
  have e1 : (((w.length : Int) + (1 : Int))).toNat = w.length + 1 := by omega
  rw [e1]
  intro X hX
  have key : ∀ (n j : Nat) (h : Hv), j + n = g.2.2.2.length → HasI h (begF g 0 g.2.2.1 j []) → X ((j : Int), begF g 0 g.2.2.1 j [] :: List.replicate w.length [], h :: List.replicate w.length []) := by
    intro n
    induction n with
    | zero =>
      intro j h hj hh
      refine hX _ ?_
      show VC31_l8 g w K (j : Int) _ _ X
      unfold VC31_l8
      refine ⟨fun hlt => ?_, fun _ => ?_⟩
      · simp only [decide_eq_true_eq] at hlt; omega
      · have : j = g.2.2.2.length := by omega
        subst this
        unfold VC31_k2
        intro Y hY
        exact pos_loop hg hw (by simp) hK hY w.length 0 [] h (by omega) rfl hh
    | succ n ih =>
      intro j h hj hh
      have hl := (SetOk.nil (g := g) (p := 0)).beg (name := g.2.2.1) j (by omega)
      have hll := hl.1.len hg (by omega)
      refine hX _ ?_
      show VC31_l8 g w K (j : Int) _ _ X
      unfold VC31_l8 VC31_k22 VC31_k21
      have hin : InR ((j : Int) + 1) := by unfold InR; omega
      have go : ∀ h', HasI h' (begF g 0 g.2.2.1 (j + 1) []) → X ((j : Int) + 1, begF g 0 g.2.2.1 (j + 1) [] :: List.replicate w.length [], h' :: List.replicate w.length []) := by
        intro h' hh'
        have := ih (j + 1) h' (by omega) hh'
        simpa using this
      rw [begF_succ] at go
      have i0 : ∀ {α : Type} (a : α) (l : List α), inIdx (0 : Int) (a :: l).length := fun a l => ⟨by omega, by simp⟩
      simp only [Int.toNat_natCast, Int.toNat_zero, List.getD_cons_zero, List.set_cons_zero]
      refine ⟨fun _ => ⟨⟨by omega, by omega⟩, fun e => ⟨i0 _ _, ?_⟩, fun e => ?_⟩, fun hge => ?_⟩
      · simp only [decide_eq_true_eq] at e
        rw [if_pos e] at go
        refine add_split hh (fun hni => ?_) (fun hin2 => ?_)
        · unfold addI at go
          rw [if_neg (by simpa using hni)] at go
          exact ⟨i0 _ _, i0 _ _, i0 _ _, by simp only [roomN, List.length_singleton]; omega, i0 _ _, hin, go _ (hh.add _ _)⟩
        · unfold addI at go
          rw [if_pos (by simpa using hin2)] at go
          exact ⟨hin, go _ hh⟩
      · simp only [decide_eq_false_iff_not] at e
        rw [if_neg e] at go
        exact ⟨hin, go _ hh⟩
      · simp only [decide_eq_false_iff_not] at hge; omega
  exact key g.2.2.2.length 0 [] (by omega) HasI.nil
theorem VC31_of {g : Gr} {w : LI} {K : (List LN) × Int → Prop} (hbad : ∀ e, e ≠ 0 → ¬ (GoodG g ∧ GoodW g.1 w) → K ([], e))
    (h : GoodG g → GoodW g.1 w → ∀ out : List LN, out.length = w.length + 1 → (∀ i, i < w.length + 1 → Srt cmpX ((setsF g w (w.length + 1)).1.getD i []) (out.getD i [])) → K (out, 0)) : VC31 g w K := by
  unfold VC31
  refine VC44_of (fun e he hn => ⟨fun _ => hbad e he hn, fun hc => absurd (by simpa using hc) he⟩) (fun hg hw => ⟨fun hc => by simp at hc, fun _ => ?_⟩)
  have hw2 := hw.1
  have hsl := setsF_len g w (w.length + 1)
  have e1 : (((w.length : Int) + (1 : Int))).toNat = w.length + 1 := by omega
  refine ⟨by unfold InR; omega, by unfold room; omega, ?_⟩
  refine Loop.by (fun s : Int × List Hv => ∃ i : Nat, s.1 = (i : Int) ∧ i ≤ w.length + 1 ∧ s.2 = List.replicate i []) (fun s => w.length + 1 - s.1.toNat) ⟨0, rfl, Nat.zero_le _, rfl⟩ ?_
  rintro ⟨v, H⟩ ⟨i, e, hi, e2⟩ X hX
  dsimp only at e e2 hX ⊢
  subst e e2
  unfold VC31_l9
  simp only [e1, List.length_replicate]
  refine ⟨fun hb => ⟨by simp only [roomN, List.length_singleton]; omega, by unfold InR; omega, ?_⟩, fun hb => ?_⟩
  · simp only [decide_eq_true_eq] at hb
    exact hX _ ⟨i + 1, by simp, by omega, by dsimp only; rw [List.replicate_succ']⟩ (by simp only [Int.toNat_natCast]; omega)
  · simp only [decide_eq_false_iff_not] at hb
    have : i = w.length + 1 := by omega
    subst this
    exact k1_of hg hw2 fun H => k3_of (sets_len hg hw2) (by omega) fun out ho hs => h hg hw out (by omega) fun i hi => hs i (by omega)
end Dec
namespace Dec
open Go Go.Proofs Cfg
theorem VC32_of {a : List LN} (h1 : a.length ≤ 1000) (h2 : ∀ l ∈ a, l.length ≤ 1000) {K : Bool → Prop} (h : K true) : VC32 a a K := by
  unfold VC32
  refine ⟨fun hc => by simp at hc, fun _ => ?_⟩
  refine loop_count a.length (fun _ => True) trivial ?_
  intro i hi _ X hX
  unfold VC32_l1 VC32_k1
  simp only [Int.toNat_natCast]
  refine ⟨fun hb => ?_, fun _ => h⟩
  simp only [decide_eq_true_eq] at hb
  have hin : inIdx (i : Int) a.length := ⟨by omega, hb⟩
  have hl := h2 _ (getD_mem (d := []) (show i < a.length by omega))
  refine ⟨hin, hin, fun hc => by simp at hc, fun _ => ?_⟩
  refine loop_count (a.getD i []).length (fun _ => True) trivial ?_
  intro j hj _ Y hY
  unfold VC32_l2 VC32_k2
  simp only [Int.toNat_natCast]
  refine ⟨hin, fun hb2 => ?_, fun _ => ⟨by unfold InR; omega, hX (by omega) trivial⟩⟩
  simp only [decide_eq_true_eq] at hb2
  exact ⟨hin, ⟨by omega, hb2⟩, hin, ⟨by omega, hb2⟩, fun hc => by simp at hc, fun _ => ⟨by unfold InR; omega, hY (by omega) trivial⟩⟩
theorem itemsFront (g : Gr) (w : LI) (k : Int) (hk : 0 ≤ k) : VC9 g w k (fun b => b = true) := by
  unfold VC9
  refine VC31_of (fun e he hn => ?_) (fun hg hw out ho hs => ?_)
  · refine VC21_of fun b hb => ⟨fun _ => by simp [he], fun hc => ?_⟩
    have : b = true := by simpa using hc
    exact absurd (hb.1 this) hn
  · refine VC21_of fun b hb => ?_
    have hb := hb.2 ⟨hg, hw⟩
    subst hb
    refine ⟨fun hc => by simp at hc, fun _ => ?_⟩
    have hw1 := hw.1
    have hpos : (0 : Int) < (w.length : Int) + 1 := by omega
    have m1 := Int.emod_nonneg k (show ((w.length : Int) + 1) ≠ 0 by omega)
    have m2 := Int.emod_lt_of_pos k hpos
    obtain ⟨n, hn⟩ : ∃ n : Nat, k % ((w.length : Int) + 1) = (n : Int) := ⟨(k % ((w.length : Int) + 1)).toNat, by omega⟩
    rw [hn] at m1 m2 ⊢
    have hnw : n ≤ w.length := by omega
    have htl : (w.take n).length = n := by rw [List.length_take]; omega
    simp only [Int.toNat_natCast]
    refine ⟨by unfold InR; omega, ⟨hk, hpos⟩, ⟨m1, by omega⟩, ?_⟩
    refine VC31_of (fun e he hn2 => absurd ⟨hg, ⟨by omega, fun s hs => hw.2 s (List.mem_of_mem_take hs)⟩⟩ hn2) (fun _ _ out2 ho2 hs2 => ?_)
    rw [htl] at ho2 hs2
    have e1 : ((n : Int) + 1).toNat = n + 1 := by omega
    have tk : ∀ (l : List LN) (m i : Nat), i < m → (l.take m).getD i [] = l.getD i [] := fun l m i h => by simp [List.getD, List.getElem?_take, h]
    have e2 : (setsF g (w.take n) (n + 1)).1 = (setsF g w (n + 1)).1 := by rw [setsF_last, setsF_last, setsF_take g w n n (Nat.le_refl n)]
    have e3 := setsF_pre g w (n + 1) (w.length - n)
    rw [show n + 1 + (w.length - n) = w.length + 1 by omega] at e3
    have same : out.take (n + 1) = out2 := by
      refine ext_getD [] (by rw [List.length_take]; omega) fun i hi => ?_
      rw [List.length_take] at hi
      have hi2 : i < n + 1 := by omega
      have a1 := hs i (by omega)
      have a2 := hs2 i hi2
      rw [e2, ← e3, tk _ _ _ hi2] at a2
      rw [tk _ _ _ hi2]
      exact srt_same (a1.perm.trans a2.perm.symm) a1.sorted a2.sorted
    have hlen := sets_len hg hw1
    have hsl := setsF_len g w (w.length + 1)
    have ol : ∀ l ∈ out2, l.length ≤ 1000 := by
      intro l hl
      rw [← same] at hl
      obtain ⟨q, hq, e⟩ := List.mem_iff_getElem.1 (List.mem_of_mem_take hl)
      have h1 := hs q (by omega)
      rw [← e, ← getD_lt [] hq, h1.perm.length_eq]
      exact hlen _ (getD_mem (by omega))
    rw [ho, ho2, e1, same]
    refine ⟨fun _ => by unfold InR; omega, fun _ => by unfold InR; omega, fun _ => by unfold InR; omega, fun _ => ⟨by omega, by omega⟩, gcall_both (fun _ => VC32_of (by omega) ol ?_) (fun hc => ?_)⟩
    · simp
    · simp at hc
end Dec
