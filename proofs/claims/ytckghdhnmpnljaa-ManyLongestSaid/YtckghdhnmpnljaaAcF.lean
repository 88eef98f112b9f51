/-
many.Longest; ManyLongest over plain data. ManyLongest over plain data.
-/
import Derived.Test.YtckghdhnmpnljaaAcD
set_option linter.unusedSimpArgs false
set_option linter.unusedVariables false
namespace Dec
open Go Go.Proofs
structure GoodM (words : LL) (text : LI) : Prop where
  few : words.length ≤ 8
  text : text.length ≤ 60
  short : ∀ w ∈ words, w.length ≤ 60
  full : ∀ w ∈ words, w ≠ []
theorem VC74_of {ws : LL} (hl : ws.length ≤ 9000000000000) {K : Int → Prop} (h1 : (∃ w ∈ ws, 60 < w.length) → K 1) (h0 : (∀ w ∈ ws, w.length ≤ 60) → K 0) : VC74 ws K := by
  unfold VC74
  refine loop_count ws.length (fun i => ∀ j, j < i → (ws.getD j []).length ≤ 60) (fun j hj => by omega) ?_
  intro i hi hP X hX
  unfold VC74_l1 VC74_k1
  simp only [Int.toNat_natCast]
  refine ⟨fun hb => ?_, fun hb => ?_⟩
  · simp only [decide_eq_true_eq] at hb
    refine ⟨⟨by omega, by omega⟩, fun hc => ?_, fun hc => ⟨by unfold InR; omega, hX (by omega) fun j hj => ?_⟩⟩
    · simp only [decide_eq_true_eq] at hc
      exact h1 ⟨_, getD_mem (d := []) (show i < ws.length by omega), by omega⟩
    · simp only [decide_eq_false_iff_not] at hc
      by_cases e : j = i
      · subst e; omega
      · exact hP j (by omega)
  · simp only [decide_eq_false_iff_not] at hb
    refine h0 fun w hw => ?_
    obtain ⟨j, hj, e⟩ := List.mem_iff_getElem.1 hw
    have := hP j (by omega)
    rw [getD_lt _ hj, e] at this
    exact this
theorem VC97_of {s : LL} {F : LI → (Bool → Prop) → Prop} {K : Bool → Prop} (f : LI → Bool) (hl : s.length ≤ 4611686018427387904) (hF : ∀ x ∈ s, ∀ K' : Bool → Prop, K' (f x) → F x K') (h : K (s.any f)) : VC97 s F K := VCany_of f hl hF h
theorem VC70_of {words : LL} {text : LI} (hb : words.length * 24 ≤ 140737488351232) {K : Int → Prop} (hbad : ∀ e, e ≠ 0 → ¬ GoodM words text → K e) (h : GoodM words text → K 0) : VC70 words text K := by
  unfold VC70
  have main : ∀ K' : LL → Prop, K' words → VC96 words K' := by
    intro K' hK'
    unfold VC96
    intro b hnil
    refine ⟨fun e => ?_, fun _ => ⟨by simp only [roomN, roomW, List.length_nil]; omega, by rw [List.nil_append]; exact hK'⟩⟩
    rw [hnil e] at hK'; exact hK'
  refine main _ ⟨by simp only [roomN, roomW, List.length_singleton]; omega, VC74_of (by simp; omega) (fun ⟨w, hw, hlen⟩ => ⟨fun _ => hbad 1 (by decide) fun hg => ?_, fun hc => by simp at hc⟩) (fun hall => ⟨fun hc => by simp at hc, fun _ => ⟨fun h8 => hbad 1 (by decide) fun hg => ?_, fun h8 => ?_⟩⟩)⟩
  · rcases List.mem_append.1 hw with h2 | h2
    · have := hg.short w h2; omega
    · rw [List.mem_singleton.1 h2] at hlen; have := hg.text; omega
  · simp only [decide_eq_true_eq] at h8
    have := hg.few; omega
  · simp only [decide_eq_false_iff_not] at h8
    refine VC97_of (fun w => decide ((w.length : Int) = 0)) (by omega) (fun x _ K' hK' => hK') ⟨fun he => hbad 2 (by decide) fun hg => ?_, fun he => h ⟨by omega, hall _ (by simp), fun w hw => hall w (by simp [hw]), fun w hw e => ?_⟩⟩
    · obtain ⟨w, hw, hz⟩ := List.any_eq_true.1 he
      simp only [decide_eq_true_eq] at hz
      exact hg.full w hw (List.eq_nil_of_length_eq_zero (by omega))
    · have := List.any_eq_false.1 he w hw
      subst e
      simp at this
theorem VC35_of {words : LL} {text : LI} (hb : words.length * 24 ≤ 140737488351232) {K : Int → Prop} (hbad : ∀ e, e ≠ 0 → ¬ GoodM words text → K e) (h : GoodM words text → K 0) : VC35 words text K := by
  unfold VC35
  refine ⟨fun hc => hbad 1 (by decide) fun hg => ?_, fun hc => ?_⟩
  · simp only [Bool.or_eq_true, decide_eq_true_eq] at hc
    have := hg.few; have := hg.text; omega
  · simp only [Bool.or_eq_false_iff, decide_eq_false_iff_not] at hc
    refine loop_count words.length (fun i => ∀ j, j < i → (words.getD j []).length ≤ 60) (fun j hj => by omega) ?_
    intro i hi hP X hX
    unfold VC35_l2
    simp only [Int.toNat_natCast]
    refine ⟨fun hbb => ?_, fun hbb => ?_⟩
    · simp only [decide_eq_true_eq] at hbb
      refine ⟨⟨by omega, by omega⟩, fun hd => hbad 1 (by decide) fun hg => ?_, fun hd => ⟨by unfold InR; omega, hX (by omega) fun j hj => ?_⟩⟩
      · simp only [decide_eq_true_eq] at hd
        have := hg.short _ (getD_mem (d := []) (show i < words.length by omega)); omega
      · simp only [decide_eq_false_iff_not] at hd
        by_cases e : j = i
        · subst e; omega
        · exact hP j (by omega)
    · simp only [decide_eq_false_iff_not] at hbb
      have hall : ∀ w ∈ words, w.length ≤ 60 := by
        intro w hw
        obtain ⟨j, hj, e⟩ := List.mem_iff_getElem.1 hw
        have := hP j (by omega)
        rw [getD_lt _ hj, e] at this
        exact this
      unfold VC35_k1
      refine loop_count words.length (fun i => ∀ j, j < i → words.getD j [] ≠ []) (fun j hj => by omega) ?_
      intro i hi hP2 Y hY
      unfold VC35_l1 VC35_k2
      simp only [Int.toNat_natCast]
      refine ⟨fun hbb => ?_, fun hbb => ?_⟩
      · simp only [decide_eq_true_eq] at hbb
        refine ⟨⟨by omega, by omega⟩, fun hd => hbad 2 (by decide) fun hg => ?_, fun hd => ⟨by unfold InR; omega, hY (by omega) fun j hj => ?_⟩⟩
        · simp only [decide_eq_true_eq] at hd
          exact hg.full _ (getD_mem (d := []) (show i < words.length by omega)) (List.eq_nil_of_length_eq_zero (by omega))
        · simp only [decide_eq_false_iff_not] at hd
          by_cases e : j = i
          · subst e; intro e2; rw [e2] at hd; exact hd rfl
          · exact hP2 j (by omega)
      · simp only [decide_eq_false_iff_not] at hbb
        refine h ⟨by omega, by omega, hall, fun w hw => ?_⟩
        obtain ⟨j, hj, e⟩ := List.mem_iff_getElem.1 hw
        have := hP2 j (by omega)
        rw [getD_lt _ hj, e] at this
        exact this
theorem Ac.first {words : LL} {t : List Nd} {P : List LI} (A : Ac words t P) : Best t P [] 0 := ⟨A.T.pos, by rw [A.T.root]; exact List.nil_suffix, fun k hk h => by rw [List.suffix_nil.1 h]; simp⟩
theorem VC72_of {words : LL} {t : List Nd} {P : List LI} (A : Ac words t P) {s : LI} {v : Nat} (hb : Best t P s v) {c : Int} {K : Int → Prop} (hK : ∀ r, Best t P (s ++ [c]) r → K (r : Int)) : VC72 t (v : Int) c K := by
  unfold VC72
  refine step_loop (K := K) A.T (fun x X h => ?_) (P.getD v []).length (fun k hk h0 _ => A.lnk k hk h0) hK hb.lt (Nat.le_refl _) hb.suf (fun k hk u e hu => ?_)
  · unfold VC72_l1; exact h
  · have hk0 : 0 < k := by
      rcases Nat.eq_zero_or_pos k with e6 | e6
      · subst e6; rw [A.T.root] at e; exact absurd e.symm (by simp)
      · exact e6
    obtain ⟨i, c', hi, e7, _⟩ := A.T.back k hk0 hk
    rw [e] at e7
    obtain ⟨e8, _⟩ := snoc_inj e7
    rw [e8] at hu ⊢
    exact hb.best i hi hu
theorem Best.grow {words : LL} {t : List Nd} {P : List LI} (A : Ac words t P) {s : LI} {v r : Nat} {c : Int} (hb : Best t P s v) (hr : Best t P (s ++ [c]) r) : (P.getD r []).length ≤ (P.getD v []).length + 1 := by
  rcases suf_snoc hr.suf with e | ⟨u, e, hu⟩
  · rw [e]; simp
  · have hk0 : 0 < r := by
      rcases Nat.eq_zero_or_pos r with e6 | e6
      · subst e6; rw [A.T.root] at e; exact absurd e.symm (by simp)
      · exact e6
    obtain ⟨i, c', hi, e7, _⟩ := A.T.back r hk0 hr.lt
    rw [e] at e7
    obtain ⟨e8, _⟩ := snoc_inj e7
    rw [e8] at hu e
    have := hb.best i hi hu
    rw [e]
    simp only [List.length_append, List.length_singleton]
    omega
theorem take_snoc {w : LI} {i : Nat} (h : i < w.length) : w.take (i + 1) = w.take i ++ [w.getD i 0] := by
  rw [List.take_succ_eq_append_getElem h, getD_lt _ h]
theorem wds_of {words : LL} {text : LI} (hg : GoodM words text) (hok : Ok (.sl (.sl (.int .u8))) words) : Wds words := by
  refine ⟨hg.few, hg.short, hg.full, fun w hw c hc => ?_⟩
  have h1 := (hok.2 w hw).2 c hc
  have h2 : IntKind.min .u8 ≤ c ∧ c ≤ IntKind.max .u8 := h1
  simp [IntKind.min, IntKind.max, IntKind.signed, IntKind.bits] at h2
  omega
theorem VC34_of {words : LL} {text : LI} (hok : Ok (.sl (.sl (.int .u8))) words) (hb : words.length * 24 ≤ 140737488351232) {K : LI × Int → Prop} (hbad : ∀ e, e ≠ 0 → ¬ GoodM words text → K ([], e))
    (h : GoodM words text → ∀ t P (out : LI), Ac words t P → out.length = text.length + 1 → (∀ i, i ≤ text.length → ∃ v, Best t P (text.take i) v ∧ out.getD i 0 = ((P.getD v []).length : Int)) → K (out, 0)) : VC34 words text K := by
  unfold VC34
  refine VC70_of hb (fun e he hn => ⟨fun _ => hbad e he hn, fun hc => absurd (by simpa using hc) he⟩) (fun hg => ⟨fun hc => by simp at hc, fun _ => ?_⟩)
  refine VC71_of (wds_of hg hok) fun t P htl A => ?_
  have hT := hg.text
  refine Loop.by (fun s : Int × Int × LI => ∃ (i v : Nat), s.1 = (v : Int) ∧ s.2.1 = (i : Int) ∧ i ≤ text.length ∧ Best t P (text.take i) v ∧ s.2.2.length = i + 1 ∧ ∀ j, j ≤ i → ∃ v, Best t P (text.take j) v ∧ s.2.2.getD j 0 = ((P.getD v []).length : Int)) (fun s => text.length - s.2.1.toNat)
    ⟨0, 0, rfl, rfl, Nat.zero_le _, by rw [List.take_zero]; exact A.first, rfl, fun j hj => ?_⟩ ?_
  · have e0 : j = 0 := by omega
    subst e0
    exact ⟨0, by rw [List.take_zero]; exact A.first, by rw [A.T.root]; rfl⟩
  rintro ⟨av, iv, out⟩ ⟨i, v, e1, e2, hi, hB, ho, hout⟩ X hX
  dsimp only at e1 e2 ho hout hX ⊢
  subst e1; subst e2
  unfold VC34_l1 VC34_k1
  simp only [Int.toNat_natCast]
  refine ⟨fun hlt => ?_, fun hge => ?_⟩
  · simp only [decide_eq_true_eq] at hlt
    have hi2 : i < text.length := by omega
    refine ⟨⟨by omega, by omega⟩, VC72_of A hB fun r hr => ?_⟩
    rw [← take_snoc hi2] at hr
    have hlong : (t.getD r (([] : (List (Int × Int))), zT)).2.2.1 = ((P.getD r []).length : Int) := A.T.long r hr.lt
    have hrl := hr.lt
    simp only [Int.toNat_natCast, hlong]
    refine ⟨⟨by omega, by omega⟩, by simp only [roomN, roomW, List.length_singleton]; omega, by unfold InR; omega, hX _ ⟨i + 1, r, rfl, by simp, by omega, hr, by simp; omega, fun j hj => ?_⟩ (by simp only [Int.toNat_natCast]; omega)⟩
    dsimp only
    by_cases e : j = i + 1
    · subst e
      exact ⟨r, hr, getD_app_eq ho⟩
    · obtain ⟨v', h1, h2⟩ := hout j (by omega)
      exact ⟨v', h1, by rw [getD_app_lt (by omega)]; exact h2⟩
  · simp only [decide_eq_false_iff_not] at hge
    have : i = text.length := by omega
    subst this
    exact h hg t P out A ho hout
theorem VC73_of {a b : LI} (hl : a.length ≤ 1000000) {K : Bool → Prop} (h : K (decide (a = b))) : VC73 a b K := by
  unfold VC73
  refine ⟨fun hne => ?_, fun he => ?_⟩
  · have hne : ¬ (a.length : Int) = b.length := by simpa using hne
    rw [decide_eq_false (fun e => hne (by rw [e]))] at h; exact h
  · have he : (a.length : Int) = b.length := by simpa using he
    refine loop_count a.length (fun i => ∀ j, j < i → a.getD j 0 = b.getD j 0) (fun j hj => by omega) ?_
    intro i hi hP X hX
    unfold VC73_l1 VC73_k1
    simp only [Int.toNat_natCast]
    refine ⟨fun hb => ?_, fun hb => ?_⟩
    · simp only [decide_eq_true_eq] at hb
      refine ⟨⟨by omega, by omega⟩, ⟨by omega, by omega⟩, fun hne => ?_, fun heq => ⟨by unfold InR; omega, hX (by omega) fun j hj => ?_⟩⟩
      · have hne : ¬ a.getD i 0 = b.getD i 0 := by simpa using hne
        rw [decide_eq_false (fun e => hne (by rw [e]))] at h; exact h
      · have heq : a.getD i 0 = b.getD i 0 := by simpa using heq
        by_cases e : j = i
        · subst e; exact heq
        · exact hP j (by omega)
    · simp only [decide_eq_false_iff_not] at hb
      have : a = b := ext_getD 0 (by omega) fun j hj => hP j (by omega)
      rw [decide_eq_true this] at h; exact h
theorem VC36_0 {w u : LI} (hw : w.length ≤ 60) (hu : u.length ≤ 60) {K : Bool → Prop} (h : ∀ b : Bool, (b = true ↔ u <+: w) → K b) : VC36 w u (0 : Int) K := by
  unfold VC36
  have e0 : (0 : Int) + (u.length : Int) = u.length := by omega
  rw [e0]
  have e1 : (w.take ((u.length : Int)).toNat).drop ((0 : Int)).toNat = w.take u.length := by simp
  rw [e1]
  refine ⟨fun _ => by unfold InR; omega, fun _ => by unfold InR; omega, fun hc => ?_, ?_⟩
  · simp only [Bool.and_eq_true, decide_eq_true_eq] at hc; omega
  · unfold gcall
    by_cases hc : (u.length : Int) ≤ (w.length : Int)
    · rw [decide_eq_true (show (0 : Int) ≤ 0 by decide), decide_eq_true hc, Bool.and_self, if_pos rfl]
      refine VC73_of (by rw [List.length_take]; omega) (h _ ?_)
      rw [Bool.true_and, decide_eq_true_eq, List.prefix_iff_eq_take]
      exact eq_comm
    · rw [decide_eq_false hc, Bool.and_false, if_neg (by decide)]
      refine h _ ?_
      simp only [Bool.false_and, Bool.false_eq_true, false_iff]
      intro hp
      have := hp.length_le
      omega
end Dec
namespace Dec
open Go Go.Proofs
theorem loop_bool {B : Bool × Int → (Bool × Int → Prop) → Prop} (n : Nat) (b0 : Bool) (P : Nat → Bool → Prop) (h0 : P 0 b0)
    (h : ∀ (i : Nat) (b : Bool), i ≤ n → P i b → ∀ X : Bool × Int → Prop, (∀ b', i < n → P (i + 1) b' → X (b', (i : Int) + 1)) → B (b, (i : Int)) X) : Loop B (b0, 0) := by
  refine Loop.by (fun s => ∃ i : Nat, i ≤ n ∧ P i s.1 ∧ s.2 = (i : Int)) (fun s => ((n : Int) - s.2).toNat) ⟨0, by omega, h0, rfl⟩ ?_
  rintro ⟨b, s⟩ ⟨i, hi, hP, rfl⟩ X hX
  exact h i b hi hP X fun b' hlt hP' => hX _ ⟨i + 1, by omega, hP', by simp⟩ (by dsimp only; omega)
theorem manyLongest (words : LL) (text : LI) (hok : Ok (.sl (.sl (.int .u8))) words) (hb : words.length * 24 ≤ 140737488351232) : VC12 words text (fun b => b = true) := by
  unfold VC12
  refine VC34_of hok hb (fun e he hn => ?_) (fun hg t P out A ho hout => ?_)
  · refine VC35_of hb (fun e2 he2 _ => ⟨fun _ => by simp [he], fun hc => absurd (by simpa using hc) he2⟩) (fun hg => absurd hg hn)
  · refine VC35_of hb (fun e2 he2 hn => absurd hg hn) fun _ => ⟨fun hc => by simp at hc, fun _ => ?_⟩
    have hT := hg.text
    have z0 : out.getD 0 0 = 0 := by
      obtain ⟨v, h1, h2⟩ := hout 0 (Nat.zero_le _)
      rw [List.take_zero] at h1
      rw [h2, List.suffix_nil.1 h1.suf]; rfl
    have e1 : (out.length : Int) = (text.length : Int) + 1 := by omega
    simp only [e1, Int.toNat_zero, z0]
    refine ⟨fun _ => by unfold InR; omega, fun _ => ⟨by omega, by omega⟩, fun hc => by simp at hc, fun _ => ?_⟩
    intro X hX
    have key : ∀ (n i : Nat), i + n = text.length + 1 → 1 ≤ i → X (i : Int) := by
      intro n
      induction n with
      | zero =>
        intro i hi h1
        refine hX _ ?_
        unfold VC12_l1 VC12_k1
        exact ⟨fun hlt => by simp only [decide_eq_true_eq] at hlt; omega, fun _ => rfl⟩
      | succ n ih =>
        intro i hi h1
        obtain ⟨v, hv, ev⟩ := hout i (by omega)
        obtain ⟨v', hv', ev'⟩ := hout (i - 1) (by omega)
        have hi1 : (i : Int) - 1 = ((i - 1 : Nat) : Int) := by omega
        have hgrow : (P.getD v []).length ≤ (P.getD v' []).length + 1 := by
          have e : text.take i = text.take (i - 1) ++ [text.getD (i - 1) 0] := by
            have := take_snoc (w := text) (i := i - 1) (by omega)
            rw [show i - 1 + 1 = i by omega] at this
            exact this
          rw [e] at hv
          exact Best.grow A hv' hv
        have hle : (P.getD v []).length ≤ i := by
          have := hv.suf.length_le
          rw [List.length_take] at this
          omega
        have hle' : (P.getD v' []).length ≤ i := by
          have := hv'.suf.length_le
          rw [List.length_take] at this
          omega
        have hin : inIdx (i : Int) out.length := ⟨by omega, by omega⟩
        refine hX _ ?_
        unfold VC12_l1
        simp only [hi1, Int.toNat_natCast, ev, ev']
        refine ⟨fun _ => ⟨hin, fun _ => hin, fun _ => by unfold InR; omega, fun _ => ⟨by omega, by omega⟩, fun _ => by unfold InR; omega, fun _ => hin, fun hc => ?_, fun _ => ⟨hin, ?_⟩⟩, fun hge => ?_⟩
        · simp only [Bool.or_eq_true, decide_eq_true_eq] at hc; omega
        · refine loop_bool words.length _ (fun q b => b = true ↔ ((P.getD v []).length = 0 ∨ ∃ q', q' < q ∧ P.getD v [] <+: words.getD q' [])) ?_ ?_
          · simp only [decide_eq_true_eq]
            constructor
            · intro h; exact .inl (by omega)
            · rintro (h | ⟨_, h, _⟩)
              · omega
              · omega
          · intro q b hq hP Y hY
            unfold VC12_l2 VC12_k2
            have hsub : (text.take ((i : Int)).toNat).drop ((i : Int) - ((P.getD v []).length : Int)).toNat = P.getD v [] := by
              have h5 := List.suffix_iff_eq_drop.1 hv.suf
              rw [List.length_take, show min i text.length = i by omega] at h5
              rw [Int.toNat_natCast, show ((i : Int) - ((P.getD v []).length : Int)).toNat = i - (P.getD v []).length by omega]
              exact h5.symm
            simp only [Int.toNat_natCast] at hsub
            simp only [Int.toNat_natCast, ev, hsub]
            refine ⟨fun hlt => ?_, fun hge => ⟨fun hnb => ?_, fun _ => ⟨by unfold InR; omega, ?_⟩⟩⟩
            · simp only [decide_eq_true_eq] at hlt
              have hq2 : q < words.length := by omega
              have hInq : InR ((q : Int) + 1) := by have := hg.few; unfold InR; omega
              refine ⟨⟨by omega, by omega⟩, fun _ => hin, fun _ => by unfold InR; omega, fun _ => ⟨by omega, by omega, by omega⟩, ?_⟩
              cases b with
              | true =>
                unfold gcall
                rw [if_neg (by decide)]
                refine ⟨hInq, hY _ (by omega) ⟨fun _ => ?_, fun _ => rfl⟩⟩
                rcases hP.1 rfl with h | ⟨q', h, h'⟩
                · exact .inl h
                · exact .inr ⟨q', by omega, h'⟩
              | false =>
                unfold gcall
                rw [if_pos (by decide)]
                refine VC36_0 (hg.short _ (getD_mem hq2)) (by omega) fun b2 hb2 => ⟨hInq, hY _ (by omega) ?_⟩
                rw [Bool.false_or, hb2]
                constructor
                · intro h; exact .inr ⟨q, by omega, h⟩
                · rintro (h | ⟨q', h, h'⟩)
                  · exact absurd (hP.2 (.inl h)) (by decide)
                  · by_cases e : q' = q
                    · subst e; exact h'
                    · exact absurd (hP.2 (.inr ⟨q', by omega, h'⟩)) (by decide)
            · simp only [decide_eq_false_iff_not] at hge
              have hbf : b = false := by simpa using hnb
              subst hbf
              exfalso
              have : (false : Bool) = true := by
                refine hP.2 ?_
                rcases Nat.eq_zero_or_pos v with e | e
                · subst e; left; rw [A.T.root]; rfl
                · right
                  obtain ⟨w, hw, hp⟩ := A.pre v e hv.lt
                  obtain ⟨q', hq', e2⟩ := List.mem_iff_getElem.1 hw
                  exact ⟨q', by omega, by rw [getD_lt _ hq', e2]; exact hp⟩
              cases this
            · have := ih (i + 1) (by omega) (by omega)
              simpa using this
        · simp only [decide_eq_false_iff_not] at hge; omega
    exact key text.length 1 (by omega) (Nat.le_refl _)
end Dec
