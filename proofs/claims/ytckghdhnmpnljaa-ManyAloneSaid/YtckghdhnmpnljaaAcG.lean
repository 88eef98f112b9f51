/-
many.Longest; ManyLongest over plain data. border.Find: where a word occurs, in order. many.Find; ManyAlone over plain data.
-/
import Derived.Test.YtckghdhnmpnljaaAcD
set_option linter.unusedSimpArgs false
set_option linter.unusedVariables false
namespace Dec
open Go Go.Proofs
structure GoodM (words : LL) (text : LI) : Prop where
  few : words.length ≤ 8
  text : text.length ≤ 60
  short : ∀ w ∈ words, w.length ≤ 60
  full : ∀ w ∈ words, w ≠ []
theorem VC74_of {ws : LL} (hl : ws.length ≤ 9000000000000) {K : Int → Prop} (h1 : (∃ w ∈ ws, 60 < w.length) → K 1) (h0 : (∀ w ∈ ws, w.length ≤ 60) → K 0) : VC74 ws K := by
  unfold VC74
  refine loop_count ws.length (fun i => ∀ j, j < i → (ws.getD j []).length ≤ 60) (fun j hj => by omega) ?_
  intro i hi hP X hX
  unfold VC74_l1 VC74_k1
  simp only [Int.toNat_natCast]
  refine ⟨fun hb => ?_, fun hb => ?_⟩
  · simp only [decide_eq_true_eq] at hb
    refine ⟨⟨by omega, by omega⟩, fun hc => ?_, fun hc => ⟨by unfold InR; omega, hX (by omega) fun j hj => ?_⟩⟩
    · simp only [decide_eq_true_eq] at hc
      exact h1 ⟨_, getD_mem (d := []) (show i < ws.length by omega), by omega⟩
    · simp only [decide_eq_false_iff_not] at hc
      by_cases e : j = i
      · subst e; omega
      · exact hP j (by omega)
  · simp only [decide_eq_false_iff_not] at hb
    refine h0 fun w hw => ?_
    obtain ⟨j, hj, e⟩ := List.mem_iff_getElem.1 hw
    have := hP j (by omega)
    rw [getD_lt _ hj, e] at this
    exact this
theorem VC97_of {s : LL} {F : LI → (Bool → Prop) → Prop} {K : Bool → Prop} (f : LI → Bool) (hl : s.length ≤ 4611686018427387904) (hF : ∀ x ∈ s, ∀ K' : Bool → Prop, K' (f x) → F x K') (h : K (s.any f)) : VC97 s F K := VCany_of f hl hF h
theorem VC70_of {words : LL} {text : LI} (hb : words.length * 24 ≤ 140737488351232) {K : Int → Prop} (hbad : ∀ e, e ≠ 0 → ¬ GoodM words text → K e) (h : GoodM words text → K 0) : VC70 words text K := by
  unfold VC70
  have main : ∀ K' : LL → Prop, K' words → VC96 words K' := by
    intro K' hK'
    unfold VC96
    intro b hnil
    refine ⟨fun e => ?_, fun _ => ⟨by simp only [roomN, roomW, List.length_nil]; omega, by rw [List.nil_append]; exact hK'⟩⟩
    rw [hnil e] at hK'; exact hK'
  refine main _ ⟨by simp only [roomN, roomW, List.length_singleton]; omega, VC74_of (by simp; omega) (fun ⟨w, hw, hlen⟩ => ⟨fun _ => hbad 1 (by decide) fun hg => ?_, fun hc => by simp at hc⟩) (fun hall => ⟨fun hc => by simp at hc, fun _ => ⟨fun h8 => hbad 1 (by decide) fun hg => ?_, fun h8 => ?_⟩⟩)⟩
  · rcases List.mem_append.1 hw with h2 | h2
    · have := hg.short w h2; omega
    · rw [List.mem_singleton.1 h2] at hlen; have := hg.text; omega
  · simp only [decide_eq_true_eq] at h8
    have := hg.few; omega
  · simp only [decide_eq_false_iff_not] at h8
    refine VC97_of (fun w => decide ((w.length : Int) = 0)) (by omega) (fun x _ K' hK' => hK') ⟨fun he => hbad 2 (by decide) fun hg => ?_, fun he => h ⟨by omega, hall _ (by simp), fun w hw => hall w (by simp [hw]), fun w hw e => ?_⟩⟩
    · obtain ⟨w, hw, hz⟩ := List.any_eq_true.1 he
      simp only [decide_eq_true_eq] at hz
      exact hg.full w hw (List.eq_nil_of_length_eq_zero (by omega))
    · have := List.any_eq_false.1 he w hw
      subst e
      simp at this
theorem VC35_of {words : LL} {text : LI} (hb : words.length * 24 ≤ 140737488351232) {K : Int → Prop} (hbad : ∀ e, e ≠ 0 → ¬ GoodM words text → K e) (h : GoodM words text → K 0) : VC35 words text K := by
  unfold VC35
  refine ⟨fun hc => hbad 1 (by decide) fun hg => ?_, fun hc => ?_⟩
  · simp only [Bool.or_eq_true, decide_eq_true_eq] at hc
    have := hg.few; have := hg.text; omega
  · simp only [Bool.or_eq_false_iff, decide_eq_false_iff_not] at hc
    refine loop_count words.length (fun i => ∀ j, j < i → (words.getD j []).length ≤ 60) (fun j hj => by omega) ?_
    intro i hi hP X hX
    unfold VC35_l2
    simp only [Int.toNat_natCast]
    refine ⟨fun hbb => ?_, fun hbb => ?_⟩
    · simp only [decide_eq_true_eq] at hbb
      refine ⟨⟨by omega, by omega⟩, fun hd => hbad 1 (by decide) fun hg => ?_, fun hd => ⟨by unfold InR; omega, hX (by omega) fun j hj => ?_⟩⟩
      · simp only [decide_eq_true_eq] at hd
        have := hg.short _ (getD_mem (d := []) (show i < words.length by omega)); omega
      · simp only [decide_eq_false_iff_not] at hd
        by_cases e : j = i
        · subst e; omega
        · exact hP j (by omega)
    · simp only [decide_eq_false_iff_not] at hbb
      have hall : ∀ w ∈ words, w.length ≤ 60 := by
        intro w hw
        obtain ⟨j, hj, e⟩ := List.mem_iff_getElem.1 hw
        have := hP j (by omega)
        rw [getD_lt _ hj, e] at this
        exact this
      unfold VC35_k1
      refine loop_count words.length (fun i => ∀ j, j < i → words.getD j [] ≠ []) (fun j hj => by omega) ?_
      intro i hi hP2 Y hY
      unfold VC35_l1 VC35_k2
      simp only [Int.toNat_natCast]
      refine ⟨fun hbb => ?_, fun hbb => ?_⟩
      · simp only [decide_eq_true_eq] at hbb
        refine ⟨⟨by omega, by omega⟩, fun hd => hbad 2 (by decide) fun hg => ?_, fun hd => ⟨by unfold InR; omega, hY (by omega) fun j hj => ?_⟩⟩
        · simp only [decide_eq_true_eq] at hd
          exact hg.full _ (getD_mem (d := []) (show i < words.length by omega)) (List.eq_nil_of_length_eq_zero (by omega))
        · simp only [decide_eq_false_iff_not] at hd
          by_cases e : j = i
          · subst e; intro e2; rw [e2] at hd; exact hd rfl
          · exact hP2 j (by omega)
      · simp only [decide_eq_false_iff_not] at hbb
        refine h ⟨by omega, by omega, hall, fun w hw => ?_⟩
        obtain ⟨j, hj, e⟩ := List.mem_iff_getElem.1 hw
        have := hP2 j (by omega)
        rw [getD_lt _ hj, e] at this
        exact this
theorem Ac.first {words : LL} {t : List Nd} {P : List LI} (A : Ac words t P) : Best t P [] 0 := ⟨A.T.pos, by rw [A.T.root]; exact List.nil_suffix, fun k hk h => by rw [List.suffix_nil.1 h]; simp⟩
theorem VC72_of {words : LL} {t : List Nd} {P : List LI} (A : Ac words t P) {s : LI} {v : Nat} (hb : Best t P s v) {c : Int} {K : Int → Prop} (hK : ∀ r, Best t P (s ++ [c]) r → K (r : Int)) : VC72 t (v : Int) c K := by
  unfold VC72
  refine step_loop (K := K) A.T (fun x X h => ?_) (P.getD v []).length (fun k hk h0 _ => A.lnk k hk h0) hK hb.lt (Nat.le_refl _) hb.suf (fun k hk u e hu => ?_)
  · unfold VC72_l1; exact h
  · have hk0 : 0 < k := by
      rcases Nat.eq_zero_or_pos k with e6 | e6
      · subst e6; rw [A.T.root] at e; exact absurd e.symm (by simp)
      · exact e6
    obtain ⟨i, c', hi, e7, _⟩ := A.T.back k hk0 hk
    rw [e] at e7
    obtain ⟨e8, _⟩ := snoc_inj e7
    rw [e8] at hu ⊢
    exact hb.best i hi hu
theorem Best.grow {words : LL} {t : List Nd} {P : List LI} (A : Ac words t P) {s : LI} {v r : Nat} {c : Int} (hb : Best t P s v) (hr : Best t P (s ++ [c]) r) : (P.getD r []).length ≤ (P.getD v []).length + 1 := by
  rcases suf_snoc hr.suf with e | ⟨u, e, hu⟩
  · rw [e]; simp
  · have hk0 : 0 < r := by
      rcases Nat.eq_zero_or_pos r with e6 | e6
      · subst e6; rw [A.T.root] at e; exact absurd e.symm (by simp)
      · exact e6
    obtain ⟨i, c', hi, e7, _⟩ := A.T.back r hk0 hr.lt
    rw [e] at e7
    obtain ⟨e8, _⟩ := snoc_inj e7
    rw [e8] at hu e
    have := hb.best i hi hu
    rw [e]
    simp only [List.length_append, List.length_singleton]
    omega
theorem take_snoc {w : LI} {i : Nat} (h : i < w.length) : w.take (i + 1) = w.take i ++ [w.getD i 0] := by
  rw [List.take_succ_eq_append_getElem h, getD_lt _ h]
theorem wds_of {words : LL} {text : LI} (hg : GoodM words text) (hok : Ok (.sl (.sl (.int .u8))) words) : Wds words := by
  refine ⟨hg.few, hg.short, hg.full, fun w hw c hc => ?_⟩
  have h1 := (hok.2 w hw).2 c hc
  have h2 : IntKind.min .u8 ≤ c ∧ c ≤ IntKind.max .u8 := h1
  simp [IntKind.min, IntKind.max, IntKind.signed, IntKind.bits] at h2
  omega
end Dec
namespace Dec
open Go Go.Proofs
def Bd {α : Type} (f : Nat → α) (m b : Nat) : Prop := b < m ∧ ∀ t, t < b → f t = f (m - b + t)
def LBd {α : Type} (f : Nat → α) (m k : Nat) : Prop := Bd f m k ∧ ∀ b, Bd f m b → b ≤ k
theorem Bd.trans {α : Type} {f : Nat → α} {i k b : Nat} (h1 : Bd f i k) (h2 : Bd f k b) : Bd f i b := by
  have e1 := h1.1
  have e2 := h2.1
  refine ⟨by omega, fun t ht => ?_⟩
  rw [h2.2 t ht, h1.2 (k - b + t) (by omega)]
  congr 1
  omega
theorem Bd.inner {α : Type} {f : Nat → α} {i k b : Nat} (h1 : Bd f i k) (h2 : Bd f i b) (hb : b < k) : Bd f k b := by
  have e1 := h1.1
  refine ⟨hb, fun t ht => ?_⟩
  rw [h2.2 t ht, h1.2 (k - b + t) (by omega)]
  congr 1
  omega
theorem Bd.pred {α : Type} {f : Nat → α} {i b : Nat} (h : Bd f (i + 1) (b + 1)) : Bd f i b ∧ f b = f i := by
  have e1 := h.1
  refine ⟨⟨by omega, fun t ht => ?_⟩, ?_⟩
  · rw [h.2 t (by omega)]
    congr 1
    omega
  · rw [h.2 b (by omega)]
    congr 1
    omega
theorem Bd.succ {α : Type} {f : Nat → α} {i k : Nat} (h : Bd f i k) (he : f k = f i) : Bd f (i + 1) (k + 1) := by
  have e1 := h.1
  refine ⟨by omega, fun t ht => ?_⟩
  by_cases htk : t < k
  · rw [h.2 t htk]
    congr 1
    omega
  · have : t = k := by omega
    subst this
    rw [he]
    congr 1
    omega
theorem Bd.zero {α : Type} {f : Nat → α} {m : Nat} (h : 0 < m) : Bd f m 0 := ⟨h, fun t ht => by omega⟩
theorem getD_of_some' {l : List Int} {i : Nat} {x : Int} (h : l[i]? = some x) : l.getD i 0 = x := by simp [List.getD, h]
theorem getD_iff {w : List Int} {a b : Nat} (ha : a < w.length) (hb : b < w.length) : w.getD a 0 = w.getD b 0 ↔ w[a]? = w[b]? := by
  rw [getD_lt 0 ha, getD_lt 0 hb, List.getElem?_eq_getElem ha, List.getElem?_eq_getElem hb, Option.some.injEq]
theorem VC75_of {w : List Int} (hl : w.length ≤ 1000000) {K : List Int → Prop}
    (h : ∀ out : List Int, out.length = w.length → (∀ m, 1 ≤ m → m ≤ w.length → ∃ k : Nat, out[m - 1]? = some (k : Int) ∧ LBd (fun i => w[i]?) m k) → K out) : VC75 w K := by
  unfold VC75
  refine ⟨⟨by omega, by omega⟩, ?_⟩
  refine Loop.by (fun s : Int × Int × List Int => 1 ≤ s.2.1 ∧ s.2.2.length = w.length ∧ (∀ m : Nat, 1 ≤ m → (m : Int) ≤ s.2.1 → m ≤ w.length → ∃ k : Nat, s.2.2[m - 1]? = some (k : Int) ∧ LBd (fun i => w[i]?) m k) ∧
      (s.2.1 ≤ (w.length : Int) → ∃ k : Nat, s.1 = (k : Int) ∧ LBd (fun i => w[i]?) s.2.1.toNat k))
    (fun s => ((w.length : Int) - s.2.1).toNat) ⟨by simp, by simp, fun m hm hm1 hm2 => ?_, fun _ => ⟨0, rfl, Bd.zero (by simp), fun b hb => by have := hb.1; simp at this; omega⟩⟩ ?_
  · simp only at hm1
    have : m = 1 := by omega
    subst this
    exact ⟨0, by simp only [Nat.sub_self]; rw [List.getElem?_replicate, if_pos (by omega)]; rfl, Bd.zero (by omega), fun b hb => by have := hb.1; omega⟩
  rintro ⟨k, i, out⟩ ⟨h1, h2, h3, h4⟩ X hX
  simp only at h1 h2 h3 h4 ⊢
  unfold VC75_l1 VC75_k1
  refine ⟨fun hb => ?_, fun hb => ?_⟩
  · simp only [decide_eq_true_eq] at hb
    obtain ⟨k0, rfl, hk0⟩ := h4 (by omega)
    refine Loop.by (fun k : Int => ∃ n : Nat, k = (n : Int) ∧ Bd (fun i => w[i]?) i.toNat n ∧ ∀ b, Bd (fun i => w[i]?) (i.toNat + 1) (b + 1) → b ≤ n) (fun k => k.toNat) ⟨k0, rfl, hk0.1, fun b hb => hk0.2 b hb.pred.1⟩ ?_
    rintro k ⟨n, rfl, hn, hmax⟩ Y hY
    have hni := hn.1
    unfold VC75_l2 VC75_k2 VC75_k3
    have tn : ((n : Int)).toNat = n := by omega
    have hfin : ∀ m : Nat, LBd (fun i => w[i]?) (i.toNat + 1) m → (inIdx i out.length ∧ (InR (i + (1 : Int)) ∧ X ((m : Int), (i + (1 : Int)), (out.set ((i).toNat) (m : Int))))) := by
      intro m hm
      refine ⟨⟨by omega, by omega⟩, ⟨by omega, by omega⟩, hX _ ⟨by simp only; omega, by simpa using h2, fun j hj hj1 hj2 => ?_, fun _ => ⟨m, rfl, ?_⟩⟩ (by simp only; omega)⟩
      · simp only at hj1 ⊢
        by_cases hji : (j : Int) ≤ i
        · rw [List.getElem?_set_ne (by omega)]
          exact h3 j hj hji hj2
        · have : j = i.toNat + 1 := by omega
          subst this
          refine ⟨m, ?_, hm⟩
          rw [Nat.add_sub_cancel, List.getElem?_set_self (by omega)]
      · simp only
        rw [show (i + 1).toNat = i.toNat + 1 by omega]
        exact hm
    refine ⟨fun _ => ⟨by omega, by omega⟩, fun _ => ⟨by omega, by omega⟩, fun hc => ?_, fun hc => ?_⟩
    · simp only [Bool.and_eq_true, decide_eq_true_eq, Bool.not_eq_true', decide_eq_false_iff_not, tn] at hc
      obtain ⟨hc1, hc2⟩ := hc
      rw [getD_iff (by omega) (by omega)] at hc2
      obtain ⟨k', e1, e2⟩ := h3 n (by omega) (by omega) (by omega)
      rw [show ((n : Int) - 1).toNat = n - 1 by omega, getD_of_some' e1]
      refine ⟨⟨by omega, by omega⟩, ⟨by omega, by omega⟩, hY _ ⟨k', rfl, hn.trans e2.1, fun b hb => ?_⟩ ?_⟩
      · have hb1 := hmax b hb
        obtain ⟨hb2, hb3⟩ := hb.pred
        have hne : b ≠ n := by
          intro e
          subst e
          exact hc2 hb3
        exact e2.2 b (hn.inner hb2 (by omega))
      · have := e2.1.1
        omega
    · refine ⟨⟨by omega, by omega⟩, ⟨by omega, by omega⟩, fun he => ?_, fun he => ?_⟩
      · simp only [decide_eq_true_eq, tn] at he
        rw [getD_iff (by omega) (by omega)] at he
        refine ⟨⟨by omega, by omega⟩, ?_⟩
        have := hfin (n + 1) ⟨hn.succ he, fun b hb => by
          cases b with
          | zero => omega
          | succ b => have := hmax b hb; omega⟩
        simpa using this
      · simp only [decide_eq_false_iff_not, tn] at he
        simp only [Bool.and_eq_false_iff, decide_eq_false_iff_not, Bool.not_eq_false', decide_eq_true_eq, tn] at hc
        have hn0 : n = 0 := by
          rcases hc with hc | hc
          · omega
          · exact absurd hc he
        subst hn0
        rw [getD_iff (by omega) (by omega)] at he
        exact hfin 0 ⟨Bd.zero (by omega), fun b hb => by
          cases b with
          | zero => omega
          | succ b =>
            have h5 := hmax b hb
            have : b = 0 := by omega
            subst this
            exact absurd hb.pred.2 he⟩
  · simp only [decide_eq_false_iff_not] at hb
    exact h out h2 fun m hm hm2 => h3 m hm (by omega) hm2
def SB (w t : List Int) (j k : Nat) : Prop := k ≤ j ∧ k ≤ w.length ∧ ∀ i, i < k → w[i]? = t[j - k + i]?
def LSB (w t : List Int) (j k : Nat) : Prop := SB w t j k ∧ ∀ b, SB w t j b → b ≤ k
theorem SB.trans {w t : List Int} {j k b : Nat} (h1 : SB w t j k) (h2 : Bd (fun i => w[i]?) k b) : SB w t j b := by
  have e1 := h1.1
  have e2 := h2.1
  have e3 := h1.2.1
  refine ⟨by omega, by omega, fun i hi => ?_⟩
  have := h2.2 i hi
  simp only at this
  rw [this, h1.2.2 (k - b + i) (by omega)]
  congr 1
  omega
theorem SB.inner {w t : List Int} {j k b : Nat} (h1 : SB w t j k) (h2 : SB w t j b) (hb : b < k) : Bd (fun i => w[i]?) k b := by
  have e1 := h1.1
  refine ⟨hb, fun i hi => ?_⟩
  simp only
  rw [h2.2.2 i hi, h1.2.2 (k - b + i) (by omega)]
  congr 1
  omega
theorem SB.pred {w t : List Int} {j b : Nat} (h : SB w t (j + 1) (b + 1)) : SB w t j b ∧ w[b]? = t[j]? ∧ b < w.length := by
  have e1 := h.1
  have e2 := h.2.1
  refine ⟨⟨by omega, by omega, fun i hi => ?_⟩, ?_, by omega⟩
  · rw [h.2.2 i (by omega)]
    congr 1
    omega
  · rw [h.2.2 b (by omega)]
    congr 1
    omega
theorem SB.succ {w t : List Int} {j k : Nat} (h : SB w t j k) (hk : k < w.length) (he : w[k]? = t[j]?) : SB w t (j + 1) (k + 1) := by
  have e1 := h.1
  refine ⟨by omega, by omega, fun i hi => ?_⟩
  by_cases hik : i < k
  · rw [h.2.2 i hik]
    congr 1
    omega
  · have : i = k := by omega
    subst this
    rw [he]
    congr 1
    omega
theorem SB.zero {w t : List Int} {j : Nat} : SB w t j 0 := ⟨by omega, by omega, fun i hi => by omega⟩
theorem SB_suf {w t : List Int} {j : Nat} (hj : j ≤ t.length) (hw : w.length ≤ j) : SB w t j w.length ↔ w <:+ t.take j := by
  rw [List.suffix_iff_eq_drop, List.length_take, show min j t.length = j by omega]
  constructor
  · rintro ⟨_, _, h⟩
    refine List.ext_getElem? fun i => ?_
    rw [List.getElem?_drop, List.getElem?_take]
    by_cases hi : i < w.length
    · rw [if_pos (by omega)]; exact h i hi
    · rw [if_neg (by omega), List.getElem?_eq_none (by omega)]
  · intro h
    refine ⟨hw, Nat.le_refl _, fun i hi => ?_⟩
    have h2 : w[i]? = ((t.take j).drop (j - w.length))[i]? := by rw [← h]
    rw [h2, List.getElem?_drop, List.getElem?_take, if_pos (by omega)]
def endsTo (t w : LI) (m : Nat) : LI := ((List.range m).filter fun j => w.isSuffixOf (t.take (j + 1))).map fun j : Nat => (j : Int) + 1 - (w.length : Int)
theorem endsTo_succ (t w : LI) (m : Nat) : endsTo t w (m + 1) = if w <:+ t.take (m + 1) then endsTo t w m ++ [(m : Int) + 1 - (w.length : Int)] else endsTo t w m := by
  unfold endsTo
  rw [List.range_succ, List.filter_append, List.map_append]
  by_cases h : w <:+ t.take (m + 1)
  · rw [if_pos h, List.filter_cons_of_pos (by rw [List.isSuffixOf_iff_suffix]; exact h)]; rfl
  · rw [if_neg h, List.filter_cons_of_neg (by rw [List.isSuffixOf_iff_suffix]; exact h)]; exact List.append_nil _
theorem endsTo_le (t w : LI) (m : Nat) : (endsTo t w m).length ≤ m := by
  unfold endsTo
  rw [List.length_map]
  have := List.length_filter_le (fun j => w.isSuffixOf (t.take (j + 1))) (List.range m)
  rw [List.length_range] at this
  exact this
theorem VC38_of {w t : List Int} (hw : w.length ≤ 60) (ht : t.length ≤ 60) (hw0 : w ≠ []) {K : List Int × Int → Prop} (h : K (endsTo t w t.length, 0)) : VC38 w t K := by
  unfold VC38
  refine VC74_of (by simp) (fun ⟨x, hx, hl⟩ => ?_) fun _ => ⟨fun e => by simp at e, fun _ => ⟨fun hc => ?_, fun hc => ?_⟩⟩
  · simp only [List.mem_cons, List.mem_nil_iff, or_false] at hx
    rcases hx with e | e <;> subst e <;> omega
  · simp only [decide_eq_true_eq] at hc
    exact absurd (List.eq_nil_of_length_eq_zero (by omega)) hw0
  · simp only [decide_eq_false_iff_not] at hc
    refine VC75_of (by omega) fun bs hlen hbs => ?_
    refine Loop.by (fun s : Int × Int × List Int => ∃ k j : Nat, s.1 = (k : Int) ∧ s.2.1 = (j : Int) ∧ j ≤ t.length ∧ LSB w t j k ∧ s.2.2 = endsTo t w j) (fun s => ((t.length : Int) - s.2.1).toNat)
      ⟨0, 0, rfl, rfl, by omega, ⟨SB.zero, fun b hb => hb.1⟩, rfl⟩ ?_
    rintro ⟨k, j', out⟩ ⟨k0, j, h1, h2, h3, h4, h5⟩ X hX
    simp only at h1 h2 h5 ⊢
    subst h1 h2
    unfold VC38_l2 VC38_k2
    refine ⟨fun hb => ?_, fun hb => ?_⟩
    · simp only [decide_eq_true_eq] at hb
      refine ⟨⟨by omega, hb⟩, ?_⟩
      refine Loop.by (fun k : Int => ∃ n : Nat, k = (n : Int) ∧ SB w t j n ∧ ∀ b, SB w t (j + 1) (b + 1) → b ≤ n) (fun k => k.toNat) ⟨k0, rfl, h4.1, fun b hb => h4.2 b hb.pred.1⟩ ?_
      rintro k ⟨n, rfl, hn, hmax⟩ Y hY
      have hnj := hn.1
      have hnw := hn.2.1
      have tn : ((n : Int)).toNat = n := by omega
      have tj : ((j : Int)).toNat = j := by omega
      have hcmp : ∀ a, a < w.length → (w.getD a 0 = t.getD j 0 ↔ w[a]? = t[j]?) := by
        intro a ha
        rw [getD_lt 0 ha, getD_lt 0 (show j < t.length by omega), List.getElem?_eq_getElem ha, List.getElem?_eq_getElem (show j < t.length by omega), Option.some.injEq]
      have hfin : ∀ m : Nat, LSB w t (j + 1) m → VC38_k4 w (j : Int) out X (m : Int) := by
        intro m hm
        have hcl := endsTo_le t w j
        have hwp : 0 < w.length := List.length_pos_iff.2 hw0
        unfold VC38_k4 VC38_k5
        refine ⟨fun he => ?_, fun he => ?_⟩
        · simp only [decide_eq_true_eq] at he
          have hmw : m = w.length := by omega
          subst hmw
          have hm1 := hm.1.1
          refine ⟨⟨by omega, by omega⟩, ⟨by omega, by omega⟩, ?_, ⟨by omega, by omega⟩, hX _ ⟨_, j + 1, rfl, by simp, by omega, hm, ?_⟩ (by simp only; omega)⟩
          · rw [h5]; simp only [roomN, roomW, List.length_singleton]; omega
          · dsimp only
            rw [endsTo_succ, if_pos ((SB_suf (by omega) hm1).1 hm.1), h5]
        · simp only [decide_eq_false_iff_not] at he
          refine ⟨⟨by omega, by omega⟩, hX _ ⟨m, j + 1, rfl, by simp, by omega, hm, ?_⟩ (by simp only; omega)⟩
          dsimp only
          rw [h5, endsTo_succ, if_neg fun hs => ?_]
          have hjw : w.length ≤ j + 1 := by
            have := hs.length_le
            rw [List.length_take] at this
            omega
          have := hm.2 _ ((SB_suf (by omega) hjw).2 hs)
          have := hm.1.2.1
          omega
      unfold VC38_l3 VC38_k3
      refine ⟨fun _ hne => ?_, fun hc2 => ?_, fun hc2 => ?_⟩
      · simp only [decide_eq_false_iff_not] at hne
        exact ⟨by omega, by omega⟩
      · simp only [Bool.and_eq_true, Bool.or_eq_true, decide_eq_true_eq, Bool.not_eq_true', decide_eq_false_iff_not, tn, tj] at hc2
        obtain ⟨hc3, hc4⟩ := hc2
        obtain ⟨k', e1, e2⟩ := hbs n (by omega) hnw
        rw [show ((n : Int) - 1).toNat = n - 1 by omega, getD_of_some' e1]
        refine ⟨⟨by omega, by omega⟩, ⟨by omega, by omega⟩, hY _ ⟨k', rfl, hn.trans e2.1, fun b hb => ?_⟩ ?_⟩
        · have hb1 := hmax b hb
          obtain ⟨hb2, hb3, hb4⟩ := hb.pred
          have hne : b ≠ n := by
            intro e
            subst e
            rcases hc4 with hc4 | hc4
            · omega
            · exact hc4 ((hcmp b hb4).2 hb3)
          exact e2.2 b (hn.inner hb2 (by omega))
        · have := e2.1.1
          omega
      · simp only [Bool.and_eq_false_iff, Bool.or_eq_false_iff, decide_eq_false_iff_not, Bool.not_eq_false', decide_eq_true_eq, tn, tj] at hc2
        have hnlt : n < w.length := by omega
        refine ⟨⟨by omega, by omega⟩, fun he => ?_, fun he => ?_⟩
        · simp only [decide_eq_true_eq, tn, tj] at he
          rw [hcmp n hnlt] at he
          refine ⟨⟨by omega, by omega⟩, ?_⟩
          have := hfin (n + 1) ⟨hn.succ hnlt he, fun b hb => by
            cases b with
            | zero => omega
            | succ b => have := hmax b hb; omega⟩
          simpa using this
        · simp only [decide_eq_false_iff_not, tn, tj] at he
          have hn0 : n = 0 := by
            rcases hc2 with hc2 | hc2
            · omega
            · exact absurd hc2.2 he
          subst hn0
          rw [hcmp 0 hnlt] at he
          exact hfin 0 ⟨SB.zero, fun b hb => by
            cases b with
            | zero => omega
            | succ b =>
              have h6 := hmax b hb
              have : b = 0 := by omega
              subst this
              exact absurd hb.pred.2.1 he⟩
    · simp only [decide_eq_false_iff_not] at hb
      have hj : j = t.length := by omega
      subst hj
      rw [h5]
      exact h
end Dec
namespace Dec
open Go Go.Proofs
def hitsTo (words : LL) (text : LI) (m : Nat) : List (Int × Int) := (List.range m).flatMap fun i => (sufW words (text.take (i + 1))).map fun k => ((i : Int) + 1, k)
theorem hitsTo_succ (words : LL) (text : LI) (m : Nat) : hitsTo words text (m + 1) = hitsTo words text m ++ (sufW words (text.take (m + 1))).map fun k => ((m : Int) + 1, k) := by
  unfold hitsTo
  rw [List.range_succ, List.flatMap_append]
  simp
theorem sufW_len (words : LL) (u : LI) : (sufW words u).length ≤ words.length := by
  unfold sufW
  rw [List.length_map]
  have := List.length_filter_le (fun q => (words.getD q []).isSuffixOf u) (List.range words.length)
  rw [List.length_range] at this
  exact this
theorem hitsTo_len {words : LL} (hw : words.length ≤ 8) (text : LI) : ∀ m, (hitsTo words text m).length ≤ 8 * m
  | 0 => Nat.le_refl _
  | m + 1 => by
    rw [hitsTo_succ, List.length_append, List.length_map]
    have := hitsTo_len hw text m
    have := sufW_len words (text.take (m + 1))
    omega
theorem sufW_best {words : LL} {t : List Nd} {P : List LI} (A : Ac words t P) {s : LI} {r : Nat} (hr : Best t P s r) : sufW words (P.getD r []) = sufW words s := by
  unfold sufW
  congr 1
  refine List.filter_congr fun q hq => ?_
  rw [List.mem_range] at hq
  rw [Bool.eq_iff_iff]
  simp only [List.isSuffixOf_iff_suffix]
  constructor
  · intro h; exact h.trans hr.suf
  · intro h
    obtain ⟨k, hk, e⟩ := A.has q hq
    rw [← e] at h ⊢
    exact suf_le h hr.suf (hr.best k hk h)
theorem VC37_of {words : LL} {text : LI} (hok : Ok (.sl (.sl (.int .u8))) words) (hb : words.length * 24 ≤ 140737488351232) {K : (List (Int × Int)) × Int → Prop} (hbad : ∀ e, e ≠ 0 → ¬ GoodM words text → K ([], e))
    (h : GoodM words text → K (hitsTo words text text.length, 0)) : VC37 words text K := by
  unfold VC37
  refine VC70_of hb (fun e he hn => ⟨fun _ => hbad e he hn, fun hc => absurd (by simpa using hc) he⟩) (fun hg => ⟨fun hc => by simp at hc, fun _ => ?_⟩)
  refine VC71_of (wds_of hg hok) fun t P htl A => ?_
  have hT := hg.text
  refine Loop.by (fun s : Int × Int × List (Int × Int) => ∃ (i v : Nat), s.1 = (v : Int) ∧ s.2.1 = (i : Int) ∧ i ≤ text.length ∧ Best t P (text.take i) v ∧ s.2.2 = hitsTo words text i) (fun s => text.length - s.2.1.toNat)
    ⟨0, 0, rfl, rfl, Nat.zero_le _, by rw [List.take_zero]; exact A.first, rfl⟩ ?_
  rintro ⟨av, iv, out⟩ ⟨i, v, e1, e2, hi, hB, ho⟩ X hX
  dsimp only at e1 e2 ho hX ⊢
  subst e1; subst e2; subst ho
  unfold VC37_l1 VC37_k1
  simp only [Int.toNat_natCast]
  refine ⟨fun hlt => ?_, fun hge => ?_⟩
  · simp only [decide_eq_true_eq] at hlt
    have hi2 : i < text.length := by omega
    have hin : InR ((i : Int) + 1) := by unfold InR; omega
    refine ⟨⟨by omega, by omega⟩, VC72_of A hB fun r hr => ?_⟩
    rw [← take_snoc hi2] at hr
    have hrl := hr.lt
    have hws : (t.getD r (([] : (List (Int × Int))), zT)).2.2.2 = sufW words (text.take (i + 1)) := (A.wds r hrl).trans (sufW_best A hr)
    have hwl := sufW_len words (text.take (i + 1))
    have hhl := hitsTo_len hg.few text i
    have hfew := hg.few
    refine ⟨⟨by omega, by omega⟩, ?_⟩
    refine Loop.by (fun s : Int × List (Int × Int) => ∃ j : Nat, s.1 = (j : Int) ∧ j ≤ (sufW words (text.take (i + 1))).length ∧ s.2 = hitsTo words text i ++ ((sufW words (text.take (i + 1))).take j).map fun k => ((i : Int) + 1, k)) (fun s => (sufW words (text.take (i + 1))).length - s.1.toNat) ⟨0, rfl, Nat.zero_le _, by simp⟩ ?_
    rintro ⟨jv, o2⟩ ⟨j, e3, hj, e4⟩ Y hY
    dsimp only at e3 e4 hY ⊢
    subst e3; subst e4
    unfold VC37_l2 VC37_k2
    simp only [Int.toNat_natCast, hws]
    refine ⟨fun hlt2 => ?_, fun hge2 => ?_⟩
    · simp only [decide_eq_true_eq] at hlt2
      have hj2 : j < (sufW words (text.take (i + 1))).length := by omega
      refine ⟨⟨by omega, by omega⟩, hin, by simp only [roomN, roomW, List.length_append, List.length_map, List.length_take, List.length_singleton]; omega, by unfold InR; omega, hY _ ⟨j + 1, by simp, by omega, ?_⟩ (by simp only [Int.toNat_natCast]; omega)⟩
      dsimp only
      rw [take_snoc hj2, List.map_append, List.append_assoc]
      rfl
    · simp only [decide_eq_false_iff_not] at hge2
      have : j = (sufW words (text.take (i + 1))).length := by omega
      subst this
      rw [List.take_length, ← hitsTo_succ]
      exact ⟨hin, hX _ ⟨i + 1, r, rfl, by simp, by omega, hr, rfl⟩ (by simp only [Int.toNat_natCast]; omega)⟩
  · simp only [decide_eq_false_iff_not] at hge
    have : i = text.length := by omega
    subst this
    exact h hg
theorem VC18_of {a : LI} (hl : a.length ≤ 1000000) {K : Bool → Prop} (h : K true) : VC18 a a K := by
  unfold VC18
  refine ⟨fun hne => by simp at hne, fun _ => ?_⟩
  refine loop_count a.length (fun _ => True) trivial ?_
  intro i hi _ X hX
  unfold VC18_l1 VC18_k1
  simp only [Int.toNat_natCast]
  refine ⟨fun hb => ?_, fun _ => h⟩
  simp only [decide_eq_true_eq] at hb
  exact ⟨⟨by omega, by omega⟩, ⟨by omega, by omega⟩, fun hne => by simp at hne, fun _ => ⟨by unfold InR; omega, hX (by omega) trivial⟩⟩
def ownH (q : Nat) (n : Nat) (l : List (Int × Int)) : LI := (l.filter fun h => decide (h.2 = (q : Int))).map fun h => h.1 - (n : Int)
theorem one_word (p : Nat → Bool) (q : Nat) : ∀ n, (((List.range n).filter p).map Int.ofNat).filter (fun k => decide (k = (q : Int))) = if q < n ∧ p q = true then [(q : Int)] else []
  | 0 => by simp
  | n + 1 => by
    rw [List.range_succ, List.filter_append, List.map_append, List.filter_append, one_word p q n]
    by_cases e : q = n
    · subst e
      cases hp : p q with
      | true => simp [hp]
      | false => simp [hp]
    · cases hp : p n with
      | true =>
        have : ¬ ((n : Int) = (q : Int)) := by omega
        simp [hp, this]
        congr 1
        simp only [eq_iff_iff]
        constructor
        · rintro ⟨h1, h2⟩; exact ⟨by omega, h2⟩
        · rintro ⟨h1, h2⟩; exact ⟨by omega, h2⟩
      | false =>
        simp [hp]
        congr 1
        simp only [eq_iff_iff]
        constructor
        · rintro ⟨h1, h2⟩; exact ⟨by omega, h2⟩
        · rintro ⟨h1, h2⟩; exact ⟨by omega, h2⟩
theorem ownH_ends {words : LL} {text : LI} {q : Nat} (hq : q < words.length) : ∀ m, ownH q (words.getD q []).length (hitsTo words text m) = endsTo text (words.getD q []) m
  | 0 => rfl
  | m + 1 => by
    have ih := ownH_ends (text := text) hq m
    rw [hitsTo_succ, endsTo_succ, ← ih]
    unfold ownH
    rw [List.filter_append, List.map_append, List.filter_map, List.map_map]
    have h1 := one_word (fun q => (words.getD q []).isSuffixOf (text.take (m + 1))) q words.length
    have h2 : (fun h : Int × Int => decide (h.2 = (q : Int))) ∘ (fun k : Int => ((m : Int) + 1, k)) = fun k => decide (k = (q : Int)) := rfl
    rw [h2]
    unfold sufW
    rw [h1]
    by_cases hs : words.getD q [] <:+ text.take (m + 1)
    · rw [if_pos ⟨hq, List.isSuffixOf_iff_suffix.2 hs⟩, if_pos hs]; rfl
    · rw [if_neg fun h => hs (List.isSuffixOf_iff_suffix.1 h.2), if_neg hs]; exact List.append_nil _
theorem manyAlone (words : LL) (text : LI) (k : Int) (hok : Ok (.sl (.sl (.int .u8))) words) (hb : words.length * 24 ≤ 140737488351232) (hk : 0 ≤ k) : VC13 words text k (fun b => b = true) := by
  unfold VC13
  refine VC37_of hok hb (fun e he hn => ?_) (fun hg => ?_)
  · refine VC35_of hb (fun e2 he2 _ => ⟨fun _ => by simp [he], fun hc => absurd (by simpa using hc) he2⟩) (fun hg => absurd hg hn)
  · refine VC35_of hb (fun e2 he2 hn => absurd hg hn) fun _ => ⟨fun hc => by simp at hc, fun _ => ⟨fun hc => ?_, fun hc => ?_⟩⟩
    · have : words = [] := by
        simp at hc
        exact hc
      subst this
      have hz : ∀ m, hitsTo [] text m = [] := by
        intro m
        induction m with
        | zero => rfl
        | succ m ih => rw [hitsTo_succ, ih]; rfl
      rw [hz]
      rfl
    · have hne : 0 < words.length := by
        rcases Nat.eq_zero_or_pos words.length with e | e
        · simp [e] at hc
        · exact e
      have m1 := Int.emod_nonneg k (show (words.length : Int) ≠ 0 by omega)
      have m2 := Int.emod_lt_of_pos k (show (0 : Int) < words.length by omega)
      obtain ⟨q, hq⟩ : ∃ q : Nat, k % (words.length : Int) = (q : Int) := ⟨(k % (words.length : Int)).toNat, by omega⟩
      have hqw : q < words.length := by omega
      have hwm : words.getD q [] ∈ words := getD_mem hqw
      have hT := hg.text
      have hfew := hg.few
      have hsh := hg.short _ hwm
      rw [hq]
      simp only [Int.toNat_natCast]
      refine ⟨⟨hk, by omega⟩, ⟨by omega, by omega⟩, VC38_of hsh hT (hg.full _ hwm) ?_⟩
      have hlen := hitsTo_len hg.few text text.length
      have first : ∀ (n : Nat) (x : Int × Int), x ∈ hitsTo words text n → n ≤ text.length → 0 ≤ x.1 ∧ x.1 ≤ 61 := by
        intro n x hx hn
        unfold hitsTo at hx
        rw [List.mem_flatMap] at hx
        obtain ⟨i, hi, hx⟩ := hx
        rw [List.mem_range] at hi
        obtain ⟨y, _, rfl⟩ := List.mem_map.1 hx
        dsimp only
        omega
      refine Loop.by (fun s : Int × LI => ∃ j : Nat, s.1 = (j : Int) ∧ j ≤ (hitsTo words text text.length).length ∧ s.2 = ownH q (words.getD q []).length ((hitsTo words text text.length).take j)) (fun s => (hitsTo words text text.length).length - s.1.toNat) ⟨0, rfl, Nat.zero_le _, rfl⟩ ?_
      rintro ⟨jv, own⟩ ⟨j, e3, hj, e4⟩ X hX
      dsimp only at e3 e4 hX ⊢
      subst e3; subst e4
      unfold VC13_l1 VC13_k1 VC13_k2
      simp only [hq, Int.toNat_natCast]
      refine ⟨fun hlt => ?_, fun hge => ?_⟩
      · simp only [decide_eq_true_eq] at hlt
        have hj2 : j < (hitsTo words text text.length).length := by omega
        have hin : InR ((j : Int) + 1) := by unfold InR; omega
        have hx := first text.length _ (getD_mem (d := ((0 : Int), (0 : Int))) hj2) (Nat.le_refl _)
        have hol : (ownH q (words.getD q []).length ((hitsTo words text text.length).take j)).length ≤ j := by
          unfold ownH
          rw [List.length_map]
          have := List.length_filter_le (fun h : Int × Int => decide (h.2 = (q : Int))) ((hitsTo words text text.length).take j)
          rw [List.length_take] at this
          omega
        have hsn : ownH q (words.getD q []).length ((hitsTo words text text.length).take (j + 1)) = if ((hitsTo words text text.length).getD j ((0 : Int), (0 : Int))).2 = (q : Int) then ownH q (words.getD q []).length ((hitsTo words text text.length).take j) ++ [((hitsTo words text text.length).getD j ((0 : Int), (0 : Int))).1 - ((words.getD q []).length : Int)] else ownH q (words.getD q []).length ((hitsTo words text text.length).take j) := by
          rw [List.take_succ_eq_append_getElem hj2, getD_lt _ hj2]
          unfold ownH
          rw [List.filter_append, List.map_append]
          by_cases e : ((hitsTo words text text.length)[j]).2 = (q : Int)
          · rw [if_pos e, List.filter_cons_of_pos (by simp only [decide_eq_true_eq]; exact e)]; rfl
          · rw [if_neg e, List.filter_cons_of_neg (by simp only [decide_eq_true_eq]; exact e)]; exact List.append_nil _
        refine ⟨⟨by omega, by omega⟩, fun e => ?_, fun e => ?_⟩
        · simp only [decide_eq_true_eq] at e
          rw [if_pos e] at hsn
          refine ⟨⟨by omega, by omega⟩, by unfold InR; omega, by simp only [roomN, roomW, List.length_singleton]; omega, hin, hX _ ⟨j + 1, by simp, by omega, hsn.symm⟩ (by simp only [Int.toNat_natCast]; omega)⟩
        · simp only [decide_eq_false_iff_not] at e
          rw [if_neg e] at hsn
          exact ⟨hin, hX _ ⟨j + 1, by simp, by omega, hsn.symm⟩ (by simp only [Int.toNat_natCast]; omega)⟩
      · simp only [decide_eq_false_iff_not] at hge
        have : j = (hitsTo words text text.length).length := by omega
        subst this
        rw [List.take_length, ownH_ends hqw]
        unfold gcall
        rw [if_pos (by decide)]
        exact VC18_of (by have := endsTo_le text (words.getD q []) text.length; omega) rfl
end Dec
