/-
  The laws StoreBack and StoreTold in plain words.
-/
import Derived.Test.YtfamoglamihdfaaStoreD
set_option linter.unusedSimpArgs false
set_option linter.unusedVariables false
namespace Dec
open Go

theorem srt_pos {t : Thk} (ht : srtOk t) (h : srt t = true) : 0 < t.1.length := by
  have e : srt t = (sorted_det ht).choose.2 := by unfold srt; rw [dif_pos ht]
  exact (sorted_det ht).choose_spec.1 (by rw [← e]; exact h)

theorem nums_big {t : Thk} : ∀ s ∈ t.1, s.2.2.2.length ≤ (nums t).length ∧ ∀ w ∈ s.2.2.2, w.length ≤ (nums t).length := by
  have h1 : ∀ (l : List (List Int)), l.length ≤ (l.flatMap wayN).length ∧ ∀ w ∈ l, w.length ≤ (l.flatMap wayN).length := by
    intro l
    induction l with
    | nil => simp
    | cons x l ih =>
      rw [List.flatMap_cons, List.length_append]
      refine ⟨by simp only [wayN, List.length_cons]; omega, fun w hw => ?_⟩
      rcases List.mem_cons.1 hw with rfl | hw
      · simp only [wayN, List.length_cons]; omega
      · have := ih.2 w hw; omega
  have h2 : ∀ (l : List Spot), ∀ s ∈ l, (spotN s).length ≤ (l.flatMap spotN).length := by
    intro l
    induction l with
    | nil => simp
    | cons x l ih =>
      rw [List.flatMap_cons, List.length_append]
      intro s hs
      rcases List.mem_cons.1 hs with rfl | hs
      · omega
      · have := ih s hs; omega
  intro s hs
  have h3 := h2 t.1 s hs
  have h4 := h1 s.2.2.2
  have e1 : (nums t).length = 2 + (t.1.flatMap spotN).length := by simp only [nums, List.length_cons]; omega
  have e2 : (spotN s).length = 4 + (s.2.2.2.flatMap wayN).length := by simp only [spotN, List.length_cons]; omega
  exact ⟨by omega, fun w hw => by have := h4.2 w hw; omega⟩

theorem srtOk_of {t : Thk} (h : (nums t).length ≤ 2000000) : srtOk t := fun s hs => ⟨by have := (nums_big s hs).1; omega, fun w hw => by have := (nums_big s hs).2 w hw; omega⟩

noncomputable def unFin (z : Thk × List Int × Bool) : Thk × Int :=
  if (z.2.2 || decide (0 < z.2.1.length)) = true then (([], 0), 3) else if srt z.1 = true then (z.1, 0) else (([], 0), 3)

/-- store.Unpack -/
noncomputable def unRes (b : List Int) : Thk × Int :=
  if 4000 < b.length then (([], 0), 1)
  else if b.length < 4 then (([], 0), 7)
  else if sumOf (b.take (b.length - 4)) ≠ b.drop (b.length - 4) then (([], 0), 7)
  else unFin (parse (b.take (b.length - 4)))

theorem VC27_of {b : List Int} (hb : ByteL b) {K : Thk × Int → Prop} (hl : b.length ≤ 9223372036854775807) (h : K (unRes b)) : VC27 b K := by
  unfold VC27
  unfold unRes at h
  refine ⟨fun hc => ?_, fun hc => ?_⟩
  · simp only [decide_eq_true_eq] at hc
    rw [if_pos (by omega)] at h
    exact h
  simp only [decide_eq_false_iff_not] at hc
  rw [if_neg (by omega)] at h
  refine ⟨⟨by omega, by omega⟩, fun hn => ?_, fun hn => ?_, ?_⟩
  · simp only [decide_eq_false_iff_not] at hn; exact ⟨by omega, by omega⟩
  · simp only [decide_eq_false_iff_not] at hn; exact ⟨by omega, by omega⟩
  by_cases hn : b.length < 4
  · rw [if_pos hn] at h
    have e1 : decide (((b.length : Int) - 4) < 0) = true := by rw [decide_eq_true_eq]; omega
    simp only [e1]
    unfold gcall
    simp only [Bool.not_true, Bool.false_eq_true, if_false, Bool.true_or, if_true]
    exact ⟨fun _ => h, fun hcc => (by cases hcc)⟩
  · rw [if_neg hn] at h
    have e1 : decide (((b.length : Int) - 4) < 0) = false := by rw [decide_eq_false_iff_not]; omega
    have e2 : ((b.length : Int) - 4).toNat = b.length - 4 := by omega
    simp only [e1, e2]
    unfold gcall
    simp only [Bool.not_false, if_true]
    have hbt : ByteL (b.take (b.length - 4)) := fun x hx => hb x (List.mem_of_mem_take hx)
    have htl : (b.take (b.length - 4)).length = b.length - 4 := by simp
    refine VC14_of hbt (by omega) (VC50_of (by show (sumOf _).length ≤ _; rw [sumOf_len]; omega) ⟨fun hcc => ?_, fun hcc => ?_⟩)
    · simp only [Bool.false_or, Bool.not_eq_true', decide_eq_false_iff_not] at hcc
      rw [if_pos (show sumOf _ ≠ _ from hcc)] at h
      exact h
    · simp only [Bool.false_or, Bool.not_eq_false', decide_eq_true_eq] at hcc
      rw [if_neg (by unfold sumOf; rw [hcc]; simp)] at h
      refine ⟨⟨by omega, by omega⟩, ?_⟩
      generalize b.take (b.length - 4) = r at h hbt htl ⊢
      have hback : ∀ t, parse r = (t, [], false) → srtOk t := by
        intro t ht
        obtain ⟨k1, _⟩ := parse_back hbt ht
        have := congrArg List.length k1
        rw [encN_len] at this
        exact srtOk_of (by omega)
      refine rd_vc (C := fun v r b => VC27_k1 K v r b) hbt ?_
      have hby0 := rd_byte (bad := false) hbt
      have hln0 := rd_len r false
      unfold parse at h hback
      simp only at h hback
      generalize rd r false = q0 at hby0 hln0 h hback ⊢
      obtain ⟨x0, r2, b2⟩ := q0
      simp only at hby0 hln0 h hback ⊢
      have hrl2 : r2.length ≤ r.length := by
        rcases hln0 with hh | ⟨_, hh⟩
        · omega
        · rw [hh]; omega
      unfold VC27_k1
      refine rd_vc (C := fun v r b => VC27_k2 K x0 v r b) hby0.1 ?_
      have hby1 := rd_byte (bad := b2) hby0.1
      have hln1 := rd_len r2 b2
      generalize rd r2 b2 = q1 at hby1 hln1 h hback ⊢
      obtain ⟨x1, r3, b3⟩ := q1
      simp only at hby1 hln1 h hback ⊢
      have hrl3 : r3.length ≤ r2.length := by
        rcases hln1 with hh | ⟨_, hh⟩
        · omega
        · rw [hh]; omega
      refine spots_loop hby1.2 hby1.1 (by omega) ?_
      generalize pS x1.toNat [] r3 b3 = z at h hback ⊢
      obtain ⟨l, r4, b4⟩ := z
      simp only at h hback ⊢
      unfold VC27_k3
      unfold unFin at h
      simp only at h
      have e3 : decide ((0 : Int) < (r4.length : Int)) = decide (0 < r4.length) := by
        by_cases hh : 0 < r4.length
        · rw [decide_eq_true hh, decide_eq_true_eq]; omega
        · rw [decide_eq_false hh, decide_eq_false_iff_not]; omega
      rw [e3]
      refine ⟨fun hcc => ?_, fun hcc => ?_⟩
      · rw [if_pos hcc] at h
        exact h
      · rw [if_neg (by rw [hcc]; simp)] at h
        simp only [Bool.or_eq_false_iff, decide_eq_false_iff_not] at hcc
        have hr4 : r4 = [] := List.eq_nil_of_length_eq_zero (by omega)
        have hso := hback (l, x0) (by rw [hr4, hcc.1])
        refine VC46_of hso fun o => ⟨fun hs => ?_, fun hs => ?_⟩
        · simp only [Bool.not_eq_true'] at hs
          rw [if_neg (by rw [hs]; simp)] at h
          exact h
        · simp only [Bool.not_eq_false'] at hs
          rw [if_pos hs] at h
          exact h

theorem VC33_of {a : List Int} {K : Bool → Prop} (hl : a.length ≤ 9223372036854775807) (h : K true) : VC33 a a K := by
  unfold VC33
  refine ⟨fun hc => (by simp at hc), fun _ => ?_⟩
  refine loop_count a.length (fun _ => True) trivial ?_
  intro i hi _ X hX
  unfold VC33_l1 VC33_k1
  refine ⟨fun hb => ?_, fun _ => h⟩
  simp only [decide_eq_true_eq] at hb
  exact ⟨⟨by omega, by omega⟩, ⟨by omega, by omega⟩, fun hc => (by simp at hc), fun _ => ⟨⟨by omega, by omega⟩, hX (by omega) trivial⟩⟩

theorem VC52_of {a : List (List Int)} {K : Bool → Prop} (hl : a.length ≤ 9223372036854775807 ∧ ∀ w ∈ a, w.length ≤ 9223372036854775807) (h : K true) : VC52 a a K := by
  unfold VC52
  refine ⟨fun hc => (by simp at hc), fun _ => ?_⟩
  refine loop_count a.length (fun _ => True) trivial ?_
  intro i hi _ X hX
  unfold VC52_l1 VC52_k1
  refine ⟨fun hb => ?_, fun _ => h⟩
  simp only [decide_eq_true_eq] at hb
  simp only [Int.toNat_natCast]
  have := hl.1
  exact ⟨⟨by omega, by omega⟩, ⟨by omega, by omega⟩, VC33_of (hl.2 _ (getD_mem (by omega))) ⟨fun hc => (by cases hc), fun _ => ⟨⟨by omega, by omega⟩, hX (by omega) trivial⟩⟩⟩

theorem VC28_of {t : Thk} (hl : (nums t).length ≤ 2000000) {K : Bool → Prop} (h : K true) : VC28 t t K := by
  have hnl : t.1.length ≤ (nums t).length := by
    have : ∀ l : List Spot, l.length ≤ (l.flatMap spotN).length := by
      intro l
      induction l with
      | nil => simp
      | cons s l ih => rw [List.flatMap_cons, List.length_append]; simp only [spotN, List.length_cons]; omega
    have := this t.1
    simp only [nums, List.length_cons]; omega
  unfold VC28
  refine ⟨fun hc => (by simp at hc), fun _ => ?_⟩
  refine loop_count t.1.length (fun _ => True) trivial ?_
  intro i hi _ X hX
  unfold VC28_l1 VC28_k1
  refine ⟨fun hb => ?_, fun _ => h⟩
  simp only [decide_eq_true_eq] at hb
  simp only [Int.toNat_natCast]
  have hil : i < t.1.length := by omega
  obtain ⟨sp, hsp⟩ : ∃ sp, t.1.getD i (0, (0, (0, []))) = sp := ⟨_, rfl⟩
  have hspm : sp ∈ t.1 := by rw [← hsp]; exact getD_mem hil
  have hbg := nums_big sp hspm
  simp only [hsp]
  refine ⟨⟨by omega, by omega⟩, ⟨by omega, by omega⟩, gcall_of true (fun _ hk => VC52_of ⟨by omega, fun w hw => by have := hbg.2 w hw; omega⟩ hk) ?_⟩
  simp only [decide_true, Bool.not_true, Bool.or_self, Bool.not_false, if_true]
  exact ⟨fun hc => (by cases hc), fun _ => ⟨⟨by omega, by omega⟩, hX hil trivial⟩⟩

theorem packRes_bad {t : Thk} {p : List Int} {e : Int} (h : packRes t = (p, e)) (he : e ≠ 0) : p = [] := by
  unfold packRes at h
  split at h
  · simp only [Prod.mk.injEq] at h; exact h.1.symm
  split at h
  · simp only [Prod.mk.injEq] at h; exact h.1.symm
  split at h
  · simp only [Prod.mk.injEq] at h; exact h.1.symm
  · simp only [Prod.mk.injEq] at h; exact absurd h.2.symm he

theorem packRes_good {t : Thk} {p : List Int} (h : packRes t = (p, 0)) : srt t = true ∧ (∀ x ∈ nums t, OkNum x) ∧ 2 * (nums t).length + 4 ≤ 4000 ∧ p = encN (nums t) ++ sumOf (encN (nums t)) := by
  unfold packRes at h
  split at h
  · simp at h
  rename_i h1
  split at h
  · simp at h
  rename_i h2
  split at h
  · simp at h
  rename_i h3
  simp only [Prod.mk.injEq, and_true] at h
  refine ⟨by simpa using h1, fun x hx => ?_, by omega, h.symm⟩
  have := List.any_eq_false.1 (Bool.eq_false_iff.2 h2) x hx
  simp only [Bool.or_eq_true, decide_eq_true_eq] at this
  unfold OkNum; omega

theorem packRes_of {t : Thk} (h1 : srt t = true) (h2 : ∀ x ∈ nums t, OkNum x) (h3 : 2 * (nums t).length + 4 ≤ 4000) : packRes t = (encN (nums t) ++ sumOf (encN (nums t)), 0) := by
  unfold packRes
  rw [if_neg (by rw [h1]; simp), if_neg, if_neg (by omega)]
  rw [Bool.not_eq_true, List.any_eq_false]
  intro x hx
  have := h2 x hx
  unfold OkNum at this
  simp only [Bool.or_eq_true, decide_eq_true_eq]
  omega

theorem sumOf_byte (b : List Int) : ByteL (sumOf b) := by
  intro x hx
  simp only [sumOf, sumB, List.mem_cons, List.not_mem_nil, or_false] at hx
  have : ∀ y : Int, 0 ≤ IntKind.wrap .u8 y ∧ IntKind.wrap .u8 y ≤ 255 := fun y => by
    simp [IntKind.wrap, IntKind.signed, IntKind.bits]; omega
  rcases hx with rfl | rfl | rfl | rfl <;> exact this _

theorem un_pack {t : Thk} (h1 : srt t = true) (h2 : ∀ x ∈ nums t, OkNum x) (h3 : 2 * (nums t).length + 4 ≤ 4000) : unRes (encN (nums t) ++ sumOf (encN (nums t))) = (t, 0) := by
  have hl := encN_len (nums t)
  have hs := sumOf_len (encN (nums t))
  have e1 : (encN (nums t) ++ sumOf (encN (nums t))).length - 4 = (encN (nums t)).length := by rw [List.length_append]; omega
  unfold unRes
  rw [e1, List.take_left, List.drop_left, parse_enc h2]
  rw [if_neg (by rw [List.length_append]; omega), if_neg (by rw [List.length_append]; omega), if_neg (by simp)]
  unfold unFin
  rw [if_neg (by simp), if_pos h1]

theorem pack_un {b : List Int} {u : Thk} (hb : ByteL b) (h : unRes b = (u, 0)) : (nums u).length ≤ 2000 ∧ packRes u = (b, 0) ∧ srtOk u := by
  unfold unRes at h
  split at h
  · simp at h
  rename_i h1
  split at h
  · simp at h
  rename_i h2
  split at h
  · simp at h
  rename_i h3
  unfold unFin at h
  split at h
  · simp at h
  rename_i h4
  split at h
  · rename_i h5
    simp only [Prod.mk.injEq, and_true] at h
    have hbt : ByteL (b.take (b.length - 4)) := fun x hx => hb x (List.mem_of_mem_take hx)
    have e0 : parse (b.take (b.length - 4)) = (u, [], false) := by
      simp only [Bool.or_eq_true, decide_eq_true_eq, not_or, Bool.not_eq_true] at h4
      obtain ⟨k1, k2⟩ := h4
      generalize parse (b.take (b.length - 4)) = z at h k1 k2
      obtain ⟨a, c, d⟩ := z
      simp only at h k1 k2
      have : c = [] := List.eq_nil_of_length_eq_zero (by omega)
      rw [h, this, k1]
    rw [e0] at h5
    obtain ⟨k1, k2⟩ := parse_back hbt e0
    have hlen := congrArg List.length k1
    rw [encN_len, List.length_take] at hlen
    refine ⟨by omega, ?_, srtOk_of (by omega)⟩
    rw [packRes_of (show srt u = true from h5) k2 (by omega), ← k1]
    have h3' : sumOf (b.take (b.length - 4)) = b.drop (b.length - 4) := Classical.not_not.1 h3
    rw [h3', List.take_append_drop]
  · simp at h

theorem unRes_bad {b : List Int} {u : Thk} {e : Int} (h : unRes b = (u, e)) (he : e ≠ 0) : u.1 = [] := by
  unfold unRes at h
  split at h
  · simp only [Prod.mk.injEq] at h; rw [← h.1]
  split at h
  · simp only [Prod.mk.injEq] at h; rw [← h.1]
  split at h
  · simp only [Prod.mk.injEq] at h; rw [← h.1]
  unfold unFin at h
  split at h
  · simp only [Prod.mk.injEq] at h; rw [← h.1]
  split at h
  · simp only [Prod.mk.injEq] at h; exact absurd h.2.symm he
  · simp only [Prod.mk.injEq] at h; rw [← h.1]

theorem law8b {b : List Int} (hb : ByteL b) (hl : b.length ≤ 9223372036854775807) : VC8_k1 b (fun b => b = true) := by
  unfold VC8_k1
  refine VC27_of hb hl ?_
  cases hu : unRes b with
  | mk u e =>
    simp only
    refine ⟨fun he => ?_, fun he => ?_⟩
    · simp only [Bool.not_eq_true', decide_eq_false_iff_not] at he
      rw [unRes_bad hu he]; rfl
    · simp only [Bool.not_eq_false', decide_eq_true_eq] at he
      subst he
      obtain ⟨k1, k2, k3⟩ := pack_un hb hu
      refine VC26_of k3 (by omega) ?_
      rw [k2]
      have hbl : b.length ≤ 4000 := by
        obtain ⟨_, _, q3, q4⟩ := packRes_good k2
        have := encN_len (nums u)
        have := sumOf_len (encN (nums u))
        rw [q4, List.length_append]; omega
      refine gcall_of true (fun _ hk => VC15_of (by simp only; omega) (by simp)) ?_
      simp

/-- the law StoreBack -/
theorem law8 {t : Thk} {b : List Int} (ht : (nums t).length ≤ 2000000) (hb : ByteL b) (hl : b.length ≤ 9223372036854775807) : VC8 t b (fun b => b = true) := by
  unfold VC8
  refine VC26_of (srtOk_of ht) ht ?_
  cases hp : packRes t with
  | mk p e =>
    simp only
    refine ⟨fun he => ?_, fun he => ?_⟩
    · simp only [decide_eq_true_eq] at he
      subst he
      obtain ⟨q1, q2, q3, rfl⟩ := packRes_good hp
      have h1 := encN_len (nums t)
      have h2 := sumOf_len (encN (nums t))
      refine VC27_of (fun x hx => ?_) (by rw [List.length_append]; omega) ?_
      · rcases List.mem_append.1 hx with hx | hx
        · exact encN_byte q2 x hx
        · exact sumOf_byte _ x hx
      · rw [un_pack q1 q2 q3]
        refine gcall_of true (fun _ hk => VC28_of ht hk) ⟨fun hc => (by simp at hc), fun _ => law8b hb hl⟩
    · simp only [decide_eq_false_iff_not] at he
      have := packRes_bad hp he
      subst this
      exact ⟨fun hc => (by simp at hc), fun _ => law8b hb hl⟩

theorem xor_byte {a x : Int} (ha : 0 ≤ a ∧ a ≤ 255) (hx : 0 ≤ x ∧ x ≤ 255) : (0 ≤ bXor .u8 a x ∧ bXor .u8 a x ≤ 255) ∧ (bXor .u8 a x = a ↔ x = 0) := by
  obtain ⟨A, rfl⟩ : ∃ A : BitVec 8, a = (A.toNat : Int) := ⟨BitVec.ofNat 8 a.toNat, by simp; omega⟩
  obtain ⟨X, rfl⟩ : ∃ X : BitVec 8, x = (X.toNat : Int) := ⟨BitVec.ofNat 8 x.toNat, by simp; omega⟩
  have e : bXor .u8 (A.toNat : Int) (X.toNat : Int) = ((A ^^^ X).toNat : Int) := by
    unfold bXor
    show IntKind.wrap .u8 ((BitVec.ofInt 8 (A.toNat : Int) ^^^ BitVec.ofInt 8 (X.toNat : Int)).toNat : Int) = _
    rw [BitVec.ofInt_natCast, BitVec.ofInt_natCast, BitVec.ofNat_toNat, BitVec.ofNat_toNat]
    simp only [BitVec.setWidth_eq]
    have := (A ^^^ X).isLt
    generalize (A ^^^ X).toNat = n at this ⊢
    simp [IntKind.wrap, IntKind.signed, IntKind.bits]
    omega
  rw [e]
  have := (A ^^^ X).isLt
  refine ⟨⟨by omega, by omega⟩, fun h => ?_, fun h => ?_⟩
  · have h1 : A ^^^ X = A := BitVec.eq_of_toNat_eq (by omega)
    have h2 := congrArg (A ^^^ ·) h1
    simp only [← BitVec.xor_assoc, BitVec.xor_self, BitVec.zero_xor] at h2
    rw [h2]; rfl
  · have h1 : X = 0#8 := BitVec.eq_of_toNat_eq (by simp; omega)
    rw [h1, BitVec.xor_zero]

/-- the law StoreTold -/
theorem law9 {t : Thk} {k x y : Int} (ht : (nums t).length ≤ 2000000) (hk : 0 ≤ k) (hx : 0 ≤ x ∧ x ≤ 255) (hy : 0 ≤ y ∧ y ≤ 255) : VC9 t k x y (fun b => b = true) := by
  unfold VC9
  refine VC26_of (srtOk_of ht) ht ?_
  cases hp : packRes t with
  | mk p e =>
    simp only
    refine ⟨fun he => ?_, fun he => ?_⟩
    · simp only [Bool.not_eq_true', decide_eq_false_iff_not] at he
      rw [packRes_bad hp he]; rfl
    simp only [Bool.not_eq_false', decide_eq_true_eq] at he
    subst he
    obtain ⟨q1, q2, q3, hpe⟩ := packRes_good hp
    have h1 := encN_len (nums t)
    have h2 := sumOf_len (encN (nums t))
    have hpos := srt_pos (srtOk_of ht) q1
    have hn6 : 6 ≤ (nums t).length := by
      match hT : t.1, hpos with
      | s :: l, _ => simp only [nums, hT, List.flatMap_cons, List.length_cons, List.length_append, spotN]; omega
    have hDb := encN_byte q2
    obtain ⟨D, hD⟩ : ∃ D, encN (nums t) = D := ⟨_, rfl⟩
    have hup := un_pack q1 q2 q3
    rw [hD] at h1 h2 hpe hDb hup
    have hpl : p.length = D.length + 4 := by rw [hpe, List.length_append]; omega
    have hmod := Int.emod_nonneg k (b := (p.length : Int) - 5) (by omega)
    have hmod2 := Int.emod_lt_of_pos k (b := (p.length : Int) - 5) (by omega)
    obtain ⟨i, hi⟩ : ∃ i : Nat, k % ((p.length : Int) - 5) = (i : Int) := ⟨(k % ((p.length : Int) - 5)).toNat, by omega⟩
    rw [hi] at hmod2
    have hiD : i + 1 < D.length := by omega
    have e0 : ((i : Int) + 1).toNat = i + 1 := by omega
    simp only [hi, List.nil_append, Int.toNat_natCast, e0]
    have hg1 : p.getD i 0 = D.getD i 0 := by rw [hpe, List.getD_eq_getElem?_getD, List.getElem?_append_left (by omega), List.getD_eq_getElem?_getD]
    have hg2 : ∀ z, (p.set i z).getD (i + 1) 0 = D.getD (i + 1) 0 := by
      intro z
      rw [List.getD_eq_getElem?_getD, List.getElem?_set_ne (by omega), hpe, List.getElem?_append_left (by omega), List.getD_eq_getElem?_getD]
    have ha := hDb _ (getD_mem (d := 0) (show i < D.length by omega))
    have hb := hDb _ (getD_mem (d := 0) hiD)
    obtain ⟨xa1, xa2⟩ := xor_byte ha hx
    obtain ⟨xb1, xb2⟩ := xor_byte hb hy
    simp only [hg1, hg2]
    obtain ⟨sp1, _⟩ := swap_split (b := D) (i := i) hiD
    have hset : ∀ a' b' : Int, (p.set i a').set (i + 1) b' = (D.take i ++ a' :: b' :: D.drop (i + 2)) ++ sumOf D := by
      intro a' b'
      have hl : (D.take i).length = i := by rw [List.length_take]; omega
      rw [hpe, List.set_append_left _ _ (by omega), List.set_append_left _ _ (by rw [List.length_set]; omega)]
      congr 1
      conv => lhs; rw [sp1]
      rw [List.set_append_right _ _ (by omega), List.set_append_right _ _ (by omega), hl]
      simp
    have hlD : ∀ a' b' : Int, (D.take i ++ a' :: b' :: D.drop (i + 2)).length = D.length := by
      intro a' b'
      rw [List.length_append, List.length_take, List.length_cons, List.length_cons, List.length_drop]; omega
    refine ⟨fun hc => ?_, fun _ => ⟨⟨by omega, by omega⟩, ⟨hk, by omega⟩, ?_, ⟨by omega, by omega⟩, ⟨by omega, by omega⟩, ⟨by omega, by omega⟩, ⟨by omega, by omega⟩, ⟨by omega, by rw [List.length_set]; omega⟩, ⟨by omega, by rw [List.length_set]; omega⟩, ?_⟩⟩
    · simp only [decide_eq_true_eq] at hc; omega
    · unfold roomN; simp only [List.length_nil]; omega
    rw [hset]
    generalize hA' : bXor .u8 (D.getD i 0) x = a' at xa1 xa2 ⊢
    generalize hB' : bXor .u8 (D.getD (i + 1) 0) y = b' at xb1 xb2 ⊢
    refine VC27_of (fun z hz => ?_) (by rw [List.length_append, hlD]; omega) ?_
    · simp only [List.mem_append, List.mem_cons] at hz
      rcases hz with (hz | rfl | rfl | hz) | hz
      · exact hDb z (List.mem_of_mem_take hz)
      · exact xa1
      · exact xb1
      · exact hDb z (List.mem_of_mem_drop hz)
      · exact sumOf_byte _ z hz
    · by_cases hxy : x = 0 ∧ y = 0
      · obtain ⟨hx0, hy0⟩ := hxy
        have e1 : a' = D.getD i 0 := xa2.2 hx0
        have e2 : b' = D.getD (i + 1) 0 := xb2.2 hy0
        rw [e1, e2, ← sp1, hup]
        refine ⟨fun _ => gcall_of true (fun _ hk => VC28_of ht hk) (by simp), fun hc => ?_⟩
        simp [hx0, hy0] at hc
      · have hne : sumOf (D.take i ++ a' :: b' :: D.drop (i + 2)) ≠ sumOf D := by
          intro he
          unfold sumOf at he
          have f1 := sumF_fits (D.take i ++ a' :: b' :: D.drop (i + 2)) (0, 0) ⟨⟨by simp, by simp⟩, ⟨by simp, by simp⟩⟩
          have f2 := sumF_fits D (0, 0) ⟨⟨by simp, by simp⟩, ⟨by simp, by simp⟩⟩
          have he2 := (sumB_inj f1 f2).1 he
          conv at he2 => rhs; rw [sp1]
          obtain ⟨g1, g2⟩ := fletcher xa1 xb1 ha hb he2
          exact hxy ⟨xa2.1 g1, xb2.1 g2⟩
        have hun : unRes ((D.take i ++ a' :: b' :: D.drop (i + 2)) ++ sumOf D) = (([], 0), 7) := by
          unfold unRes
          have e1 : ((D.take i ++ a' :: b' :: D.drop (i + 2)) ++ sumOf D).length - 4 = (D.take i ++ a' :: b' :: D.drop (i + 2)).length := by rw [List.length_append]; omega
          rw [e1, List.take_left, List.drop_left]
          rw [if_neg (by rw [List.length_append, hlD]; omega), if_neg (by rw [List.length_append, hlD]; omega), if_pos hne]
        rw [hun]
        refine ⟨fun hc => ?_, fun _ => rfl⟩
        simp only [Bool.and_eq_true, decide_eq_true_eq] at hc
        exact absurd hc hxy

/-- a forest's numbers, weighed -/
theorem nums_wgt (t : Thk) : (nums t).length ≤ wgt (.pr (.sl (.pr (.int .i64) (.pr (.int .i64) (.pr (.int .i64) (.sl (.sl (.int .i64))))))) (.int .i64)) t := by
  have h1 : ∀ w : List Int, (w.map (fun x => wgt (.int .i64) x)).sum = w.length := by
    intro w
    induction w with
    | nil => rfl
    | cons x w ih => rw [List.map_cons, List.sum_cons, ih, List.length_cons]; show 1 + _ = _; omega
  have h2 : ∀ l : List (List Int), (l.map (fun x => wgt (.sl (.int .i64)) x)).sum = (l.flatMap wayN).length := by
    intro l
    induction l with
    | nil => rfl
    | cons x l ih =>
      rw [List.map_cons, List.sum_cons, ih, List.flatMap_cons, List.length_append]
      have : wgt (.sl (.int .i64)) x = x.length + 1 := by show (x.map _).sum + 1 = _; rw [h1]
      rw [this]
      simp only [wayN, List.length_cons]
  have h3 : ∀ l : List Spot, (l.map (fun x => wgt (.pr (.int .i64) (.pr (.int .i64) (.pr (.int .i64) (.sl (.sl (.int .i64)))))) x)).sum = (l.flatMap spotN).length := by
    intro l
    induction l with
    | nil => rfl
    | cons x l ih =>
      rw [List.map_cons, List.sum_cons, ih, List.flatMap_cons, List.length_append]
      have : wgt (.pr (.int .i64) (.pr (.int .i64) (.pr (.int .i64) (.sl (.sl (.int .i64)))))) x = 4 + (x.2.2.2.flatMap wayN).length := by
        show 1 + (1 + (1 + ((x.2.2.2.map _).sum + 1))) = _
        rw [h2]; omega
      rw [this]
      simp only [spotN, List.length_cons]
      omega
  show _ ≤ ((t.1.map _).sum + 1) + 1
  rw [h3]
  simp only [nums, List.length_cons]
  omega

theorem byte_of {x : Int} (h : Ok (.int .u8) x) : 0 ≤ x ∧ x ≤ 255 := by
  have h1 : IntKind.u8.min ≤ x ∧ x ≤ IntKind.u8.max := h
  simp [IntKind.min, IntKind.max, IntKind.signed, IntKind.bits] at h1
  exact h1

end Dec
