/-
Regular expressions: plain contracts of the checks, of match and of Takes.
-/
import Derived.Test.YtckghdhnmpnljaaGenVa
import Derived.Test.YtckghdhnmpnljaaRex
import Derived.Test.YtckghdhnmpnljaaPop
set_option linter.unusedSimpArgs false
set_option linter.unusedVariables false
namespace Dec
open Go Go.Proofs Rex
def GoodW (k : Int) (w : List Int) : Prop := w.length ≤ 12 ∧ ∀ s ∈ w, 0 ≤ s ∧ s < k
theorem all_getD {α : Type} {l : List α} (d : α) {P : α → Prop} (h : ∀ j, j < l.length → P (l.getD j d)) : ∀ x ∈ l, P x := by
  intro x hx
  obtain ⟨j, hj, e⟩ := List.mem_iff_getElem.1 hx
  have := h j hj
  rw [getD_lt _ hj, e] at this
  exact this
theorem gcall_both {α : Type} {b : Bool} {F : (α → Prop) → Prop} {d : α} {K : α → Prop} (h1 : b = true → F K) (h0 : b = false → K d) : gcall (α := α) b F d K := by
  unfold gcall
  cases b with
  | true => rw [if_pos rfl]; exact h1 rfl
  | false => rw [if_neg (by decide)]; exact h0 rfl
theorem VC79_of {s : List Int} {F : Int → (Bool → Prop) → Prop} {K : Bool → Prop} (f : Int → Bool) (hl : s.length ≤ 4611686018427387904) (hF : ∀ x ∈ s, ∀ K' : Bool → Prop, K' (f x) → F x K') (h : K (s.any f)) : VC79 s F K := VCany_of f hl hF h
theorem VC40_of {k : Int} {w : List Int} (hk : 1 ≤ k ∧ k ≤ 3) {K : Int → Prop} (hbad : ∀ e, e ≠ 0 → ¬ GoodW k w → K e) (h : GoodW k w → K 0) : VC40 k w K := by
  unfold VC40
  refine ⟨fun hc => hbad 1 (by decide) fun hg => ?_, fun hc => ?_⟩
  · simp only [decide_eq_true_eq] at hc
    have := hg.1
    omega
  · simp only [decide_eq_false_iff_not] at hc
    refine VC79_of (fun s => !(decide (0 ≤ s) && decide (s ≤ k - 1))) (by omega) (fun x _ K' hK' => ⟨⟨by omega, by omega⟩, hK'⟩) ⟨fun hs => hbad 2 (by decide) fun hg => ?_, fun hs => h ⟨by omega, fun s hm => ?_⟩⟩
    · obtain ⟨s, hm, h1⟩ := List.any_eq_true.1 hs
      have := hg.2 s hm
      simp only [Bool.not_eq_true', Bool.and_eq_false_iff, decide_eq_false_iff_not] at h1
      omega
    · have := List.any_eq_false.1 hs s hm
      simp only [Bool.not_eq_true', Bool.not_eq_false, Bool.and_eq_true, decide_eq_true_eq] at this
      omega
theorem VC16_of {k : Int} {w : List Int} {K : Int → Prop} (hbad : ∀ e, e ≠ 0 → ¬ GoodW k w → K e) (h : GoodW k w → K 0) : VC16 k w K := by
  unfold VC16
  refine ⟨fun hc => hbad 1 (by decide) fun hg => ?_, fun hc => ?_⟩
  · simp only [decide_eq_true_eq] at hc
    have := hg.1
    omega
  · simp only [decide_eq_false_iff_not] at hc
    refine loop_count w.length (fun i => ∀ j, j < i → 0 ≤ w.getD j 0 ∧ w.getD j 0 < k) (by intro j hj; omega) ?_
    intro i hi hP X hX
    unfold VC16_l1 VC16_k1
    refine ⟨fun hb => ?_, fun hb => ?_⟩
    · simp only [decide_eq_true_eq] at hb
      simp only [Int.toNat_natCast]
      have hm : w.getD i 0 ∈ w := getD_mem (by omega)
      refine ⟨⟨by omega, by omega⟩, fun hd => hbad 2 (by decide) fun hg => ?_, fun hd => ⟨⟨by omega, by omega⟩, hX (by omega) fun j hj => ?_⟩⟩
      · simp only [Bool.or_eq_true, decide_eq_true_eq] at hd
        have := hg.2 _ hm
        omega
      · simp only [Bool.or_eq_false_iff, decide_eq_false_iff_not] at hd
        by_cases e : j < i
        · exact hP j e
        · have : j = i := by omega
          subst this
          omega
    · simp only [decide_eq_false_iff_not] at hb
      exact h ⟨by omega, all_getD 0 fun j hj => hP j (by omega)⟩
theorem VC85_of {k : Int} {t : Nat} {n : Nd} {K : Int → Prop} (hbad : ∀ e, e ≠ 0 → ¬ OkN k t n → K e) (h : OkN k t n → K 0) : VC85 k (t : Int) n K := by
  have fin : OkN k t n → VC85_k2 K := fun ho => h ho
  unfold VC85
  have k1 : ∀ b : Bool, (b = true → n.1 = 1 ∨ n.1 = 2) → (b = false → n.1 ≠ 1 ∧ n.1 ≠ 2) → VC85_k1 k (t : Int) n K b := by
    intro b hb1 hb0
    unfold VC85_k1
    refine ⟨fun e => h ?_, fun e => ?_⟩
    · rcases hb1 e with h1 | h1
      · exact Or.inl h1
      · exact Or.inr (Or.inl h1)
    have h12 := hb0 e
    refine ⟨fun h3 => ?_, fun h3 => ?_⟩
    · simp only [decide_eq_true_eq] at h3
      refine ⟨fun hc => hbad 2 (by decide) fun ho => ?_, fun hc => fin ?_⟩
      · simp only [Bool.or_eq_true, decide_eq_true_eq] at hc
        unfold OkN at ho
        omega
      · simp only [Bool.or_eq_false_iff, decide_eq_false_iff_not] at hc
        exact Or.inr (Or.inr (Or.inl ⟨h3, by omega, by omega⟩))
    · simp only [decide_eq_false_iff_not] at h3
      have k3 : ∀ b : Bool, (b = true → n.1 = 4 ∨ n.1 = 5) → (b = false → n.1 ≠ 4 ∧ n.1 ≠ 5) → VC85_k3 (t : Int) n K b := by
        intro b hb1 hb0
        unfold VC85_k3 VC101 VC85_k4
        refine ⟨fun e => ?_, fun e => ?_⟩
        · have h45 := hb1 e
          refine gcall_both (fun e1 => ?_) (fun e1 => ?_)
          · simp only [Bool.not_not] at e1
            rw [e1]
            simp only [Bool.and_eq_true, decide_eq_true_eq] at e1
            refine ⟨fun hc => hbad 2 (by decide) fun ho => ?_, fun hc => fin ?_⟩
            · simp only [Bool.not_true, Bool.false_or, Bool.not_eq_true', Bool.and_eq_false_iff, decide_eq_false_iff_not] at hc
              unfold OkN at ho
              omega
            · simp only [Bool.not_true, Bool.false_or, Bool.not_eq_false', Bool.and_eq_true, decide_eq_true_eq] at hc
              exact Or.inr (Or.inr (Or.inr (Or.inl ⟨h45, e1, hc⟩)))
          · simp only [Bool.not_not] at e1
            rw [e1]
            simp only [Bool.and_eq_false_iff, decide_eq_false_iff_not] at e1
            refine ⟨fun _ => hbad 2 (by decide) fun ho => ?_, fun hc => by simp at hc⟩
            unfold OkN at ho
            omega
        · have h45 := hb0 e
          refine ⟨fun h6 => ⟨fun hc => hbad 2 (by decide) fun ho => ?_, fun hc => fin ?_⟩, fun h6 => hbad 6 (by decide) fun ho => ?_⟩
          · simp only [decide_eq_true_eq] at h6
            simp only [Bool.not_eq_true', Bool.and_eq_false_iff, decide_eq_false_iff_not] at hc
            unfold OkN at ho
            omega
          · simp only [decide_eq_true_eq] at h6
            simp only [Bool.not_eq_false', Bool.and_eq_true, decide_eq_true_eq] at hc
            exact Or.inr (Or.inr (Or.inr (Or.inr ⟨h6, hc⟩)))
          · simp only [decide_eq_false_iff_not] at h6
            unfold OkN at ho
            omega
      refine ⟨fun h4 => k3 _ (fun e => Or.inl (by simpa using e)) (fun e => ?_), fun h4 => k3 _ (fun e => Or.inr (by simpa using e)) (fun e => ?_)⟩
      · rw [h4] at e; cases e
      · simp only [decide_eq_false_iff_not] at h4 e
        exact ⟨h4, e⟩
  refine ⟨fun h1 => k1 _ (fun e => Or.inl (by simpa using e)) (fun e => ?_), fun h1 => k1 _ (fun e => Or.inr (by simpa using e)) (fun e => ?_)⟩
  · rw [h1] at e; cases e
  · simp only [decide_eq_false_iff_not] at h1 e
    exact ⟨h1, e⟩
theorem VC45_of {k : Int} {l : List Nd} {K : Int → Prop} (hbad : ∀ e, e ≠ 0 → ¬ Good k l → K e) (h : Good k l → K 0) : VC45 k l K := by
  unfold VC45
  refine ⟨fun hc => hbad 1 (by decide) fun hg => ?_, fun hc => ?_⟩
  · simp only [Bool.or_eq_true, decide_eq_true_eq] at hc
    have h1 := hg.sym
    have h2 := hg.len
    omega
  · simp only [Bool.or_eq_false_iff, decide_eq_false_iff_not] at hc
    refine loop_count l.length (fun i => ∀ j, j < i → OkN k j (nd l j)) (by intro j hj; omega) ?_
    intro i hi hP X hX
    unfold VC45_l1 VC45_k1
    refine ⟨fun hb => ?_, fun hb => ?_⟩
    · simp only [decide_eq_true_eq] at hb
      rw [Int.toNat_natCast]
      refine ⟨⟨by omega, by omega⟩, VC85_of (fun e he hno => ⟨fun _ => hbad e he fun hg => hno (hg.ok i (by omega)), fun hz => absurd (by simpa using hz) he⟩) (fun ho => ⟨fun hz => by simp at hz, fun _ => ⟨⟨by omega, by omega⟩, hX (by omega) fun j hj => ?_⟩⟩)⟩
      by_cases e : j < i
      · exact hP j e
      · have : j = i := by omega
        subst this; exact ho
    · simp only [decide_eq_false_iff_not] at hb
      exact h ⟨by omega, by omega, fun t ht => hP t (by omega)⟩
theorem VC47_of {k : Int} {l : List Nd} {K : Int → Prop} (hbad : ∀ e, e ≠ 0 → ¬ Good k l → K e) (h : Good k l → K 0) : VC47 k l K := by
  unfold VC47
  refine ⟨fun hc => hbad 1 (by decide) fun hg => ?_, fun hc => ?_⟩
  · simp only [Bool.or_eq_true, decide_eq_true_eq] at hc
    have h1 := hg.sym
    have h2 := hg.len
    omega
  · simp only [Bool.or_eq_false_iff, decide_eq_false_iff_not] at hc
    unfold VC87
    refine loop_count l.length (fun i => ∀ j, j < i → OkN k j (nd l j)) (by intro j hj; omega) ?_
    intro i hi hP X hX
    unfold VC87_l1 VC87_k1
    refine ⟨fun hb => ?_, fun hb => ?_⟩
    · simp only [decide_eq_true_eq] at hb
      rw [Int.toNat_natCast]
      obtain ⟨n, hn⟩ : ∃ n, nd l i = n := ⟨_, rfl⟩
      have hn' : l.getD i (0, (0, 0)) = n := hn
      rw [hn']
      have bad : ∀ e, e ≠ 0 → ¬ OkN k i n → K e := fun e he hno => hbad e he fun hg => hno (by rw [← hn]; exact hg.ok i (by omega))
      refine ⟨⟨by omega, by omega⟩, fun h1 => bad 6 (by decide) fun ho => ?_, fun h1 => ⟨fun h2 => bad 2 (by decide) fun ho => ?_, fun h2 => ⟨fun h3 => bad 2 (by decide) fun ho => ?_, fun h3 => ⟨fun h4 => bad 2 (by decide) fun ho => ?_, fun h4 => ⟨⟨by omega, by omega⟩, hX (by omega) fun j hj => ?_⟩⟩⟩⟩⟩
      · simp only [Bool.or_eq_true, decide_eq_true_eq] at h1
        unfold OkN at ho
        omega
      · simp only [Bool.and_eq_true, Bool.or_eq_true, decide_eq_true_eq] at h2
        unfold OkN at ho
        omega
      · simp only [Bool.and_eq_true, Bool.or_eq_true, decide_eq_true_eq] at h3
        unfold OkN at ho
        omega
      · simp only [Bool.and_eq_true, Bool.or_eq_true, decide_eq_true_eq] at h4
        unfold OkN at ho
        omega
      · by_cases e : j < i
        · exact hP j e
        · have : j = i := by omega
          subst this
          rw [hn]
          simp only [Bool.or_eq_false_iff, decide_eq_false_iff_not] at h1
          have h2' : ¬ (n.1 = 3 ∧ (n.2.1 < 0 ∨ k ≤ n.2.1)) := fun hh => by simp [hh.1] at h2; omega
          have h3' : ¬ (4 ≤ n.1 ∧ (n.2.1 < 0 ∨ (j : Int) ≤ n.2.1)) := fun hh => by simp [hh.1] at h3; omega
          have h4' : ¬ ((n.1 = 4 ∨ n.1 = 5) ∧ (n.2.2 < 0 ∨ (j : Int) ≤ n.2.2)) := fun hh => by simp [hh.1] at h4; omega
          unfold OkN
          omega
    · simp only [decide_eq_false_iff_not] at hb
      exact h ⟨by omega, by omega, fun t ht => hP t (by omega)⟩
theorem VC24_of {k : Int} {l : List Nd} {w : List Int} {K : Bool → Prop} (h : ∀ b : Bool, (b = true ↔ Good k l ∧ GoodW k w) → K b) : VC24 k l w K := by
  unfold VC24
  refine VC47_of (fun e he hno => ?_) (fun hg => ?_)
  · rw [decide_eq_false he]
    exact h _ ⟨fun e => by simp at e, fun hg => absurd hg.1 hno⟩
  · refine gcall_both (fun _ => VC16_of (fun e he hno => ?_) (fun hw => ?_)) (fun e => by simp at e)
    · rw [decide_eq_false he]
      exact h _ ⟨fun e => by simp at e, fun hg => absurd hg.2 hno⟩
    · exact h _ ⟨fun _ => ⟨hg, hw⟩, fun _ => by simp⟩
/-! ### rows of sets of places -/
structure RowR (n : Nat) (R : Nat → Nat → Prop) (r : List Int) : Prop where
  len : r.length = n + 1
  word : ∀ i, i ≤ n → U32 (r.getD i 0)
  bit : ∀ i j, i ≤ n → (bt (r.getD i 0) j = true ↔ j ≤ n ∧ R i j)
theorem RowR.congr {n : Nat} {R S : Nat → Nat → Prop} {r : List Int} (h : RowR n R r) (hRS : ∀ i j, i ≤ n → j ≤ n → (R i j ↔ S i j)) : RowR n S r :=
  ⟨h.len, h.word, fun i j hi => by
    rw [h.bit i j hi]
    constructor
    · rintro ⟨h1, h2⟩; exact ⟨h1, (hRS i j hi h1).1 h2⟩
    · rintro ⟨h1, h2⟩; exact ⟨h1, (hRS i j hi h1).2 h2⟩⟩
theorem getD_zero (n i : Nat) : (List.replicate n (0 : Int)).getD i 0 = 0 := by
  simp only [List.getD, List.getElem?_replicate]
  split <;> rfl
theorem getD_setI {l : List Int} {i j : Nat} {x : Int} (h : i < l.length) : (l.set i x).getD j 0 = if i = j then x else l.getD j 0 := by
  simp only [List.getD, List.getElem?_set]
  by_cases e : i = j
  · rw [if_pos e, if_pos e, if_pos h]; rfl
  · rw [if_neg e, if_neg e]
theorem rowR_zero (n : Nat) : RowR n (fun _ _ => False) (List.replicate (n + 1) 0) :=
  ⟨by simp, fun i _ => by rw [getD_zero]; exact u32_zero, fun i j _ => by rw [getD_zero, bt_zero]; simp⟩
theorem VC44_of {s n : Int} (hs : U32 s) (hn : 0 ≤ n) {K : Bool → Prop} (h : K (bt s n.toNat)) : VC44 s n K := by
  unfold VC44
  rw [has_bt hs hn]
  exact ⟨⟨hs.1, hn⟩, h⟩
theorem VC86_of {n : Nat} (hn : n ≤ 12) {a b : List Int} {Ra Rb : Nat → Nat → Prop} (ha : RowR n Ra a) (hb : RowR n Rb b) {K : List Int → Prop} (h : ∀ r, RowR n (fun i j => ∃ m, m ≤ n ∧ Ra i m ∧ Rb m j) r → K r) : VC86 a b ((n : Int) + 1) K := by
  have hla := ha.len
  have hlb := hb.len
  unfold VC86
  refine ⟨⟨by omega, by omega⟩, ?_⟩
  have en : ((n : Int) + 1).toNat = n + 1 := by omega
  rw [en]
  refine Loop.by (fun s : Int × List Int => ∃ i : Nat, s.1 = (i : Int) ∧ i ≤ n + 1 ∧ s.2.length = n + 1 ∧ (∀ i', i' ≤ n → U32 (s.2.getD i' 0)) ∧ ∀ i' j, i' ≤ n → (bt (s.2.getD i' 0) j = true ↔ i' < i ∧ j ≤ n ∧ ∃ m, m ≤ n ∧ Ra i' m ∧ Rb m j)) (fun s => ((n : Int) + 1 - s.1).toNat) ⟨0, rfl, by omega, by simp, fun i' _ => by dsimp only; rw [getD_zero]; exact u32_zero, fun i' j _ => by dsimp only; rw [getD_zero, bt_zero]; simp⟩ ?_
  rintro ⟨i', out⟩ ⟨i, e, hi, hlen, hw, hbit⟩ X hX
  dsimp only at e hlen hw hbit
  subst e
  unfold VC86_l1 VC86_k1
  dsimp only
  refine ⟨fun hc => ?_, fun hc => ?_⟩
  · simp only [decide_eq_true_eq] at hc
    have hin : i ≤ n := by omega
    refine Loop.by (fun s : Int × List Int => ∃ j : Nat, s.1 = (j : Int) ∧ j ≤ n + 1 ∧ s.2.length = n + 1 ∧ (∀ i', i' ≤ n → U32 (s.2.getD i' 0)) ∧ (∀ i', i' ≠ i → s.2.getD i' 0 = out.getD i' 0) ∧ ∀ x, (bt (s.2.getD i 0) x = true ↔ x ≤ n ∧ ∃ m, m < j ∧ Ra i m ∧ Rb m x)) (fun s => ((n : Int) + 1 - s.1).toNat) ⟨0, rfl, by omega, hlen, hw, fun _ _ => rfl, fun x => ?_⟩ ?_
    · dsimp only
      rw [hbit i x hin]
      constructor
      · rintro ⟨h1, _⟩; omega
      · rintro ⟨_, m, h1, _⟩; omega
    rintro ⟨j', o2⟩ ⟨j, e, hj, hlen2, hw2, hsame, hrow⟩ Y hY
    dsimp only at e hlen2 hw2 hsame hrow
    subst e
    unfold VC86_l2 VC86_k3
    dsimp only
    simp only [Int.toNat_natCast]
    refine ⟨fun hd => ?_, fun hd => ?_⟩
    · simp only [decide_eq_true_eq] at hd
      have hjn : j ≤ n := by omega
      refine ⟨⟨by omega, by omega⟩, VC44_of (ha.word i hin) (by omega) ?_⟩
      rw [Int.toNat_natCast]
      refine ⟨fun ht => ⟨⟨by omega, by omega⟩, ⟨by omega, by omega⟩, ⟨by omega, by omega⟩, ⟨by omega, by omega⟩, hY _ ⟨j + 1, by simp, by omega, by dsimp only; rw [List.length_set]; exact hlen2, fun i' hi' => ?_, fun i' hne => ?_, fun x => ?_⟩ (by dsimp only; omega)⟩, fun hf => ⟨⟨by omega, by omega⟩, hY _ ⟨j + 1, by simp, by omega, hlen2, hw2, hsame, fun x => ?_⟩ (by dsimp only; omega)⟩⟩
      · dsimp only
        rw [getD_setI (by omega)]
        split
        · exact u32_or (hw2 i hin) (hb.word j hjn)
        · exact hw2 i' hi'
      · dsimp only
        rw [getD_setI (by omega), if_neg (fun e => hne e.symm)]
        exact hsame i' hne
      · dsimp only
        rw [getD_setI (by omega), if_pos rfl, bt_or (hw2 i hin) (hb.word j hjn), Bool.or_eq_true, hrow x, hb.bit j x hjn]
        have haj := (ha.bit i j hin).1 ht
        constructor
        · rintro (⟨h1, m, h2, h3⟩ | ⟨h1, h2⟩)
          · exact ⟨h1, m, by omega, h3⟩
          · exact ⟨h1, j, by omega, haj.2, h2⟩
        · rintro ⟨h1, m, h2, h3, h4⟩
          by_cases em : m = j
          · subst em; exact Or.inr ⟨h1, h4⟩
          · exact Or.inl ⟨h1, m, by omega, h3, h4⟩
      · dsimp only
        rw [hrow x]
        constructor
        · rintro ⟨h1, m, h2, h3⟩
          exact ⟨h1, m, by omega, h3⟩
        · rintro ⟨h1, m, h2, h3, h4⟩
          by_cases em : m = j
          · subst em
            rw [(ha.bit i m hin).2 ⟨hjn, h3⟩] at hf
            cases hf
          · exact ⟨h1, m, by omega, h3, h4⟩
    · simp only [decide_eq_false_iff_not] at hd
      have : j = n + 1 := by omega
      subst this
      unfold VC86_k2
      refine ⟨⟨by omega, by omega⟩, hX _ ⟨i + 1, by simp, by omega, hlen2, hw2, fun i' x hi' => ?_⟩ (by dsimp only; omega)⟩
      dsimp only
      by_cases ei : i' = i
      · subst ei
        rw [hrow x]
        constructor
        · rintro ⟨h1, m, h2, h3⟩
          exact ⟨by omega, h1, m, by omega, h3⟩
        · rintro ⟨_, h1, m, h2, h3⟩
          exact ⟨h1, m, by omega, h3⟩
      · rw [hsame i' ei, hbit i' x hi']
        constructor
        · rintro ⟨h1, h2⟩; exact ⟨by omega, h2⟩
        · rintro ⟨h1, h2⟩; exact ⟨by omega, h2⟩
  · simp only [decide_eq_false_iff_not] at hc
    have : i = n + 1 := by omega
    subst this
    refine h out ⟨hlen, hw, fun i' j hi' => ?_⟩
    rw [hbit i' j hi']
    constructor
    · rintro ⟨_, h2⟩; exact h2
    · intro h2; exact ⟨by omega, h2⟩
theorem fillRow {n : Nat} (hn : n ≤ 12) {N : Nat} (hN : N ≤ n + 1) {B : Int × List Int → (Int × List Int → Prop) → Prop} {R : Nat → Nat → Prop}
    (hstep : ∀ i r, i < N → RowR n (fun i' j => i' < i ∧ R i' j) r → r.getD i 0 = 0 → ∀ X : Int × List Int → Prop, (∀ x, (U32 x ∧ ∀ j, (bt x j = true ↔ j ≤ n ∧ R i j)) → X ((i : Int) + 1, r.set i x)) → ((∀ j, j ≤ n → ¬ R i j) → X ((i : Int) + 1, r)) → B ((i : Int), r) X)
    (hend : ∀ r, RowR n (fun i' j => i' < N ∧ R i' j) r → ∀ X, B ((N : Int), r) X) : Loop B (0, List.replicate (n + 1) 0) := by
  refine Loop.by (fun s : Int × List Int => ∃ i : Nat, s.1 = (i : Int) ∧ i ≤ N ∧ RowR n (fun i' j => i' < i ∧ R i' j) s.2 ∧ ∀ i', i ≤ i' → s.2.getD i' 0 = 0) (fun s => ((N : Int) - s.1).toNat) ⟨0, rfl, by omega, (rowR_zero n).congr fun i j _ _ => by simp, fun i' _ => getD_zero _ _⟩ ?_
  rintro ⟨i', r⟩ ⟨i, e, hi, hR, hz⟩ X hX
  dsimp only at e hR hz
  subst e
  by_cases hlt : i < N
  · have hlen := hR.len
    refine hstep i r hlt hR (hz i (Nat.le_refl _)) X (fun x hx => hX _ ⟨i + 1, by simp, by omega, ⟨?_, ?_, ?_⟩, ?_⟩ (by dsimp only; omega)) (fun hno => hX _ ⟨i + 1, by simp, by omega, hR.congr fun i' j hi' hj => ?_, fun i' hi' => hz i' (by omega)⟩ (by dsimp only; omega))
    · dsimp only; rw [List.length_set]; exact hlen
    · intro i' hi'
      dsimp only
      rw [getD_setI (by omega)]
      split
      · exact hx.1
      · exact hR.word i' hi'
    · intro i' j hi'
      dsimp only
      rw [getD_setI (by omega)]
      by_cases ei : i = i'
      · subst ei
        rw [if_pos rfl, hx.2 j]
        constructor
        · rintro ⟨h1, h2⟩; exact ⟨h1, by omega, h2⟩
        · rintro ⟨h1, _, h2⟩; exact ⟨h1, h2⟩
      · rw [if_neg ei, hR.bit i' j hi']
        constructor
        · rintro ⟨h1, h2, h3⟩; exact ⟨h1, by omega, h3⟩
        · rintro ⟨h1, h2, h3⟩; exact ⟨h1, by omega, h3⟩
    · intro i' hi'
      dsimp only
      rw [getD_setI (by omega), if_neg (by omega)]
      exact hz i' (by omega)
    · constructor
      · rintro ⟨h1, h2⟩; exact ⟨by omega, h2⟩
      · rintro ⟨h1, h2⟩
        by_cases ei : i' = i
        · subst ei; exact absurd h2 (hno j hj)
        · exact ⟨by omega, h2⟩
  · have : i = N := by omega
    subst this
    exact hend r hR X
def AllR (l : List Nd) (w : List Int) (t : Nat) (all : List (List Int)) : Prop := all.length = t ∧ ∀ u, u < t → RowR w.length (fun i j => Mat l w u i j) (all.getD u [])
theorem VC46_of {k : Int} {l : List Nd} {w : List Int} (hg : Good k l) (hl : w.length ≤ 12) {K : List Int → Prop} (h : ∀ r, RowR w.length (fun i j => Mat l w (l.length - 1) i j) r → K r) : VC46 l w K := by
  have hlen := hg.len
  unfold VC46
  refine ⟨⟨by omega, by omega⟩, ?_⟩
  refine Loop.by (fun s : Int × List (List Int) => ∃ t : Nat, s.1 = (t : Int) ∧ t ≤ l.length ∧ AllR l w t s.2) (fun s => ((l.length : Int) - s.1).toNat) ⟨0, rfl, by omega, rfl, by intro u hu; omega⟩ ?_
  rintro ⟨t', all⟩ ⟨t, e, ht, hal, hall⟩ X hX
  dsimp only at e hal hall
  subst e
  unfold VC46_l1
  dsimp only
  have en : (((w.length : Int) + (1 : Int))).toNat = w.length + 1 := by omega
  refine ⟨fun hb => ?_, fun hb => ?_⟩
  · simp only [decide_eq_true_eq] at hb
    have htl : t < l.length := by omega
    have hok := hg.ok t htl
    obtain ⟨n, hn⟩ : ∃ n, nd l t = n := ⟨_, rfl⟩
    have hn' : l.getD t (0, (0, 0)) = n := hn
    rw [hn] at hok
    simp only [Int.toNat_natCast, hn', en]
    -- the row of this node is put behind
    have push : ∀ r, RowR w.length (fun i j => Mat l w t i j) r → VC46_k2 (t : Int) all X r := by
      intro r hr
      unfold VC46_k2
      refine ⟨by simp only [roomW, List.length_singleton]; omega, ⟨by omega, by omega⟩, hX _ ⟨t + 1, by simp, by omega, by simp [hal], fun u hu => ?_⟩ (by dsimp only; omega)⟩
      dsimp only
      by_cases eu : u < t
      · have := hall u eu
        simp only [List.getD, List.getElem?_append_left (show u < all.length by omega)] at this ⊢
        exact this
      · have : u = t := by omega
        subst this
        simp only [List.getD, List.getElem?_append_right (show all.length ≤ u by omega), hal, Nat.sub_self]
        exact hr
    have hrefs := refs hok
    have hA : ∀ u : Nat, u < t → RowR w.length (fun i j => Mat l w u i j) (all.getD u []) := hall
    refine ⟨⟨by omega, by omega⟩, ⟨by omega, by omega⟩, fun h2 => ?_, fun h2 => ⟨fun h3 => ?_, fun h3 => ⟨fun h4 => ?_, fun h4 => ⟨fun h5 => ?_, fun h5 => ⟨fun h6 => ?_, fun h6 => ?_⟩⟩⟩⟩⟩
    · -- the empty word
      simp only [decide_eq_true_eq] at h2
      refine fillRow hl (N := w.length + 1) (Nat.le_refl _) (R := fun i j => i = j) ?_ ?_
      · intro i r hi hr hz Y hput hkeep
        unfold VC46_l2
        dsimp only
        have hrl := hr.len
        simp only [Int.toNat_natCast]
        refine ⟨fun _ => ⟨by omega, ⟨by omega, by omega⟩, ⟨by omega, by omega⟩, hput _ ⟨u32_shl1 _, fun j => ?_⟩⟩, fun hc => ?_⟩
        · rw [bt_shl1 (by omega), decide_eq_true_eq]
          omega
        · simp only [decide_eq_false_iff_not] at hc; omega
      · intro r hr Y
        unfold VC46_l2
        refine ⟨fun hc => by simp only [decide_eq_true_eq] at hc; omega, fun _ => ?_⟩
        unfold VC46_k3
        refine push r (hr.congr fun i j hi hj => ?_)
        rw [mat_iff (t := t), hn]
        constructor
        · rintro ⟨_, h1⟩; exact Or.inl ⟨h2, h1, hj⟩
        · intro hm; exact ⟨by omega, by omega⟩
    · -- a symbol
      simp only [decide_eq_true_eq] at h3
      refine fillRow hl (N := w.length) (by omega) (R := fun i j => j = i + 1 ∧ w[i]? = some n.2.1) ?_ ?_
      · intro i r hi hr hz Y hput hkeep
        unfold VC46_l3 VC46_k6
        dsimp only
        have hrl := hr.len
        simp only [Int.toNat_natCast, hn']
        refine ⟨fun _ => ⟨⟨by omega, by omega⟩, fun he => ⟨⟨by omega, by omega⟩, by omega, ⟨by omega, by omega⟩, ⟨by omega, by omega⟩, hput _ ⟨u32_shl1 _, fun j => ?_⟩⟩, fun he => ⟨⟨by omega, by omega⟩, hkeep fun j hj hR => ?_⟩⟩, fun hc => ?_⟩
        · simp only [decide_eq_true_eq] at he
          rw [show ((i : Int) + 1) = ((i + 1 : Nat) : Int) by omega, bt_shl1 (by omega), decide_eq_true_eq]
          constructor
          · intro e; exact ⟨by omega, by omega, by rw [← he]; exact getD_opt hi⟩
          · rintro ⟨_, e, _⟩; omega
        · simp only [decide_eq_false_iff_not] at he
          have := hR.2
          rw [getD_opt (d := (0 : Int)) hi] at this
          injection this with this
          exact he this
        · simp only [decide_eq_false_iff_not] at hc; omega
      · intro r hr Y
        unfold VC46_l3
        refine ⟨fun hc => by simp only [decide_eq_true_eq] at hc; omega, fun _ => ?_⟩
        unfold VC46_k5 VC46_k4
        refine push r (hr.congr fun i j hi hj => ?_)
        rw [mat_iff (t := t), hn]
        constructor
        · rintro ⟨_, h1⟩; exact Or.inr (Or.inl ⟨h3, h1⟩)
        · rintro (hm | ⟨_, hm⟩ | hm | hm | hm)
          · omega
          · exact ⟨by omega, hm⟩
          · omega
          · omega
          · omega
    · -- one after the other
      simp only [decide_eq_true_eq] at h4
      have h12 := hrefs.1 (Or.inl h4)
      have hsg : 0 ≤ n.2.1 ∧ 0 ≤ n.2.2 := by unfold OkN at hok; omega
      refine ⟨⟨by omega, by omega⟩, ⟨by omega, by omega⟩, VC86_of hl (hA _ h12.1) (hA _ h12.2) fun r hr => ?_⟩
      unfold VC46_k7 VC46_k4
      refine push r (hr.congr fun i j hi hj => ?_)
      rw [mat_iff (t := t), hn]
      constructor
      · rintro ⟨m, _, h1, h2'⟩; exact Or.inr (Or.inr (Or.inl ⟨h4, m, h1, h2'⟩))
      · rintro (hm | hm | ⟨_, m, hm1, hm2⟩ | hm | hm)
        · omega
        · omega
        · exact ⟨m, hm1.le.2, hm1, hm2⟩
        · omega
        · omega
    · -- one or the other
      simp only [decide_eq_true_eq] at h5
      have h12 := hrefs.1 (Or.inr h5)
      have hsg : 0 ≤ n.2.1 ∧ 0 ≤ n.2.2 := by unfold OkN at hok; omega
      have ra := hA _ h12.1
      have rb := hA _ h12.2
      have la := ra.len
      have lb := rb.len
      refine fillRow hl (N := w.length + 1) (Nat.le_refl _) (R := fun i j => Mat l w n.2.1.toNat i j ∨ Mat l w n.2.2.toNat i j) ?_ ?_
      · intro i r hi hr hz Y hput hkeep
        unfold VC46_l4
        dsimp only
        have hrl := hr.len
        simp only [Int.toNat_natCast, hn']
        refine ⟨fun _ => ⟨⟨by omega, by omega⟩, ⟨by omega, by omega⟩, ⟨by omega, by omega⟩, ⟨by omega, by omega⟩, ⟨by omega, by omega⟩, ⟨by omega, by omega⟩, hput _ ⟨u32_or (ra.word i (by omega)) (rb.word i (by omega)), fun j => ?_⟩⟩, fun hc => ?_⟩
        · rw [bt_or (ra.word i (by omega)) (rb.word i (by omega)), Bool.or_eq_true, ra.bit i j (by omega), rb.bit i j (by omega)]
          constructor
          · rintro (⟨h1, h2'⟩ | ⟨h1, h2'⟩)
            · exact ⟨h1, Or.inl h2'⟩
            · exact ⟨h1, Or.inr h2'⟩
          · rintro ⟨h1, h2' | h2'⟩
            · exact Or.inl ⟨h1, h2'⟩
            · exact Or.inr ⟨h1, h2'⟩
        · simp only [decide_eq_false_iff_not] at hc; omega
      · intro r hr Y
        unfold VC46_l4
        refine ⟨fun hc => by simp only [decide_eq_true_eq] at hc; omega, fun _ => ?_⟩
        unfold VC46_k9 VC46_k8 VC46_k7 VC46_k4
        refine push r (hr.congr fun i j hi hj => ?_)
        rw [mat_iff (t := t), hn]
        constructor
        · rintro ⟨_, h1⟩; exact Or.inr (Or.inr (Or.inr (Or.inl ⟨h5, h1⟩)))
        · rintro (hm | hm | hm | ⟨_, hm⟩ | hm)
          · omega
          · omega
          · omega
          · exact ⟨by omega, hm⟩
          · omega
    · -- a star
      simp only [decide_eq_true_eq] at h6
      have h1r := hrefs.2 h6
      have hsg : 0 ≤ n.2.1 := by unfold OkN at hok; omega
      have ra := hA _ h1r
      refine fillRow hl (N := w.length + 1) (Nat.le_refl _) (R := fun i j => i = j) ?_ ?_
      · intro i r hi hr hz Y hput hkeep
        unfold VC46_l7
        dsimp only
        have hrl := hr.len
        simp only [Int.toNat_natCast]
        refine ⟨fun _ => ⟨by omega, ⟨by omega, by omega⟩, ⟨by omega, by omega⟩, hput _ ⟨u32_shl1 _, fun j => ?_⟩⟩, fun hc => ?_⟩
        · rw [bt_shl1 (by omega), decide_eq_true_eq]
          omega
        · simp only [decide_eq_false_iff_not] at hc; omega
      · intro r hr Y
        unfold VC46_l7
        refine ⟨fun hc => by simp only [decide_eq_true_eq] at hc; omega, fun _ => ?_⟩
        unfold VC46_k11
        refine Loop.by (fun s : Int × List Int => ∃ c : Nat, s.1 = (c : Int) ∧ c ≤ w.length + 1 ∧ RowR w.length (Rex.St (fun i j => Mat l w n.2.1.toNat i j) c) s.2) (fun s => ((w.length : Int) + 1 - s.1).toNat) ⟨0, rfl, by omega, hr.congr fun i j hi hj => ?_⟩ ?_
        · constructor
          · rintro ⟨_, h1⟩; exact h1
          · intro h1; exact ⟨by omega, h1⟩
        rintro ⟨c', r2⟩ ⟨c, e, hc, hr2⟩ Z hZ
        dsimp only at e hr2
        subst e
        unfold VC46_l5
        dsimp only
        simp only [Int.toNat_natCast, hn']
        refine ⟨fun hd => ?_, fun hd => ?_⟩
        · simp only [decide_eq_true_eq] at hd
          refine ⟨⟨by omega, by omega⟩, VC86_of hl hr2 ra fun mo hmo => ?_⟩
          have hml := hmo.len
          refine Loop.by (fun s : Int × List Int => ∃ i : Nat, s.1 = (i : Int) ∧ i ≤ w.length + 1 ∧ RowR w.length (fun i' j => if i' < i then Rex.St (fun i j => Mat l w n.2.1.toNat i j) (c + 1) i' j else Rex.St (fun i j => Mat l w n.2.1.toNat i j) c i' j) s.2) (fun s => ((w.length : Int) + 1 - s.1).toNat) ⟨0, rfl, by omega, hr2.congr fun i j hi hj => by simp⟩ ?_
          rintro ⟨i', r3⟩ ⟨i, e, hi, hr3⟩ U hU
          dsimp only at e hr3
          subst e
          have h3l := hr3.len
          unfold VC46_l6
          dsimp only
          simp only [Int.toNat_natCast]
          refine ⟨fun hx => ?_, fun hx => ?_⟩
          · simp only [decide_eq_true_eq] at hx
            have hin : i ≤ w.length := by omega
            have u1 := hr3.word i hin
            have u2 := hmo.word i hin
            refine ⟨⟨by omega, by omega⟩, ⟨by omega, by omega⟩, ⟨by omega, by omega⟩, ⟨by omega, by omega⟩, hU _ ⟨i + 1, by simp, by omega, ?_, ?_, ?_⟩ (by dsimp only; omega)⟩
            · dsimp only; rw [List.length_set]; exact h3l
            · intro a ha'
              dsimp only
              rw [getD_setI (by omega)]
              split
              · exact u32_or u1 u2
              · exact hr3.word a ha'
            · intro a j ha'
              dsimp only
              rw [getD_setI (by omega)]
              by_cases ea : i = a
              · subst ea
                rw [if_pos rfl, bt_or u1 u2, Bool.or_eq_true, hr3.bit i j hin, hmo.bit i j hin, if_neg (by omega), if_pos (by omega)]
                constructor
                · rintro (⟨h1, h2'⟩ | ⟨h1, m, _, h2', h3'⟩)
                  · exact ⟨h1, Or.inl h2'⟩
                  · exact ⟨h1, Or.inr ⟨m, h2', h3'⟩⟩
                · rintro ⟨h1, h2' | ⟨m, h2', h3'⟩⟩
                  · exact Or.inl ⟨h1, h2'⟩
                  · exact Or.inr ⟨h1, m, by have := h3'.le; omega, h2', h3'⟩
              · rw [if_neg ea, hr3.bit a j ha']
                by_cases h1 : a < i
                · rw [if_pos h1, if_pos (by omega)]
                · rw [if_neg h1, if_neg (by omega)]
          · simp only [decide_eq_false_iff_not] at hx
            unfold VC46_k13
            refine ⟨⟨by omega, by omega⟩, hZ _ ⟨c + 1, by simp, by omega, hr3.congr fun a j ha' hj => ?_⟩ (by dsimp only; omega)⟩
            rw [if_pos (by omega)]
        · simp only [decide_eq_false_iff_not] at hd
          have : c = w.length + 1 := by omega
          subst this
          unfold VC46_k12 VC46_k10 VC46_k8 VC46_k7 VC46_k4
          refine push r2 (hr2.congr fun i j hi hj => ?_)
          have h6' : (nd l t).1 = 6 := by rw [hn]; exact h6
          constructor
          · intro hs
            have := steps_star (l := l) (w := w) h6' (n := w.length + 1) (i := i) (j := j) hi (by rw [hn]; exact hs)
            exact this
          · intro hm
            have := star_steps h6' hm
            rw [hn] at this
            exact this.more (by omega)
    · -- nothing
      simp only [decide_eq_false_iff_not] at h2 h3 h4 h5 h6
      unfold VC46_k10 VC46_k8 VC46_k7 VC46_k4
      refine push _ ((rowR_zero w.length).congr fun i j hi hj => ?_)
      rw [mat_iff (t := t), hn]
      constructor
      · intro hf; exact hf.elim
      · rintro (hm | hm | hm | hm | hm)
        · exact h2 hm.1
        · exact h3 hm.1
        · exact h4 hm.1
        · exact h5 hm.1
        · exact h6 hm.1
  · simp only [decide_eq_false_iff_not] at hb
    have : t = l.length := by omega
    subst this
    unfold VC46_k1
    have e1 : ((all.length : Int) - (1 : Int)).toNat = l.length - 1 := by omega
    rw [e1]
    exact ⟨⟨by omega, by omega⟩, ⟨by omega, by omega⟩, h _ (hall _ (by omega))⟩
theorem VC23_of {k : Int} {l : List Nd} {w : List Int} {K : Bool × Int → Prop} (hbad : ∀ e, e ≠ 0 → ¬ (Good k l ∧ GoodW k w) → K (false, e)) (h : Good k l → GoodW k w → ∀ b : Bool, (b = true ↔ Mat l w (l.length - 1) 0 w.length) → K (b, 0)) : VC23 k l w K := by
  unfold VC23
  refine VC45_of (fun e he hno => ⟨fun _ => hbad e he fun hg => hno hg.1, fun hc => absurd (by simpa using hc) he⟩) (fun hg => ⟨fun hc => by simp at hc, fun _ => ?_⟩)
  refine VC40_of hg.sym (fun e he hno => ⟨fun _ => hbad e he fun hh => hno hh.2, fun hc => absurd (by simpa using hc) he⟩) (fun hw => ⟨fun hc => by simp at hc, fun _ => ?_⟩)
  refine VC46_of hg hw.1 fun r hr => ?_
  have hrl := hr.len
  refine ⟨⟨by omega, by omega⟩, VC44_of (hr.word 0 (Nat.zero_le _)) (by omega) (h hg hw _ ?_)⟩
  rw [Int.toNat_natCast]
  rw [hr.bit 0 w.length (Nat.zero_le _)]
  exact ⟨fun h => h.2, fun h => ⟨Nat.le_refl _, h⟩⟩
end Dec
