/-
  The positions of an expression: the plain contract of glyph's builder (Glushkov).
-/
import Derived.Test.YtckghdhnmpnljaaGlyB
import Derived.Test.YtckghdhnmpnljaaHollow
set_option linter.unusedSimpArgs false
set_option linter.unusedVariables false
namespace Dec
open Go Go.Proofs Rex Gly

def joinB (la : LI) (fi : LI) (sy : LI) (C : LL → Prop) (v13 : Int) (l40002 : LL) (X1 : Int × LL → Prop) : Prop :=
  (((decide (v13 < (sy.length : Int))) = true → VC61 [([(la.getD 0 0), (la.getD 1 0), (la.getD 2 0), (la.getD 3 0), (la.getD 4 0)].getD 0 0), ([(la.getD 0 0), (la.getD 1 0), (la.getD 2 0), (la.getD 3 0), (la.getD 4 0)].getD 1 0), ([(la.getD 0 0), (la.getD 1 0), (la.getD 2 0), (la.getD 3 0), (la.getD 4 0)].getD 2 0), ([(la.getD 0 0), (la.getD 1 0), (la.getD 2 0), (la.getD 3 0), (la.getD 4 0)].getD 3 0), ([(la.getD 0 0), (la.getD 1 0), (la.getD 2 0), (la.getD 3 0), (la.getD 4 0)].getD 4 0)] v13 (fun (ret18v : Bool) => ((ret18v = true → (inIdx v13 l40002.length ∧ VC102 [((l40002.getD ((v13).toNat) (List.replicate 5 (0 : Int))).getD 0 0), ((l40002.getD ((v13).toNat) (List.replicate 5 (0 : Int))).getD 1 0), ((l40002.getD ((v13).toNat) (List.replicate 5 (0 : Int))).getD 2 0), ((l40002.getD ((v13).toNat) (List.replicate 5 (0 : Int))).getD 3 0), ((l40002.getD ((v13).toNat) (List.replicate 5 (0 : Int))).getD 4 0)] [([(fi.getD 0 0), (fi.getD 1 0), (fi.getD 2 0), (fi.getD 3 0), (fi.getD 4 0)].getD 0 0), ([(fi.getD 0 0), (fi.getD 1 0), (fi.getD 2 0), (fi.getD 3 0), (fi.getD 4 0)].getD 1 0), ([(fi.getD 0 0), (fi.getD 1 0), (fi.getD 2 0), (fi.getD 3 0), (fi.getD 4 0)].getD 2 0), ([(fi.getD 0 0), (fi.getD 1 0), (fi.getD 2 0), (fi.getD 3 0), (fi.getD 4 0)].getD 3 0), ([(fi.getD 0 0), (fi.getD 1 0), (fi.getD 2 0), (fi.getD 3 0), (fi.getD 4 0)].getD 4 0)] (fun (ret34v : LI) => (inIdx v13 l40002.length ∧ VCc93_k7 v13 X1 (l40002.set ((v13).toNat) [(ret34v.getD 0 0), (ret34v.getD 1 0), (ret34v.getD 2 0), (ret34v.getD 3 0), (ret34v.getD 4 0)]))))) ∧ (ret18v = false → VCc93_k7 v13 X1 l40002)))) ∧ ((decide (v13 < (sy.length : Int))) = false → C l40002))

abbrev D5 : LI := List.replicate 5 (0 : Int)

def Fol (fo : LL) (q r : Nat) : Prop := mem (fo.getD q D5) r = true

structure SInv (sy : LI) (fo : LL) : Prop where
  len : sy.length = fo.length
  ok : ∀ q, q < fo.length → SetOk (fo.getD q D5)

theorem getD_setL {s : LL} {i j : Nat} {x : LI} (hi : i < s.length) : (s.set i x).getD j D5 = if i = j then x else s.getD j D5 := by
  simp only [List.getD_eq_getElem?_getD, List.getElem?_set]
  by_cases h : i = j
  · subst h; simp [hi]
  · simp [h]

theorem join_loop {C : LL → Prop} {sy : LI} {fo : LL} {la fi : LI} (hla : SetOk la) (hfi : SetOk fi) (hS : SInv sy fo) (hN : sy.length ≤ 320)
    (h : ∀ fo' : LL, SInv sy fo' → (∀ q, mem la q = false → fo'.getD q D5 = fo.getD q D5) → (∀ q r, q < sy.length → (mem (fo'.getD q D5) r = (mem (fo.getD q D5) r || (mem la q && mem fi r)))) → C fo') :
    Loop (σ := Int × LL) (fun s X => joinB la fi sy C s.1 s.2 X) ((0 : Int), fo) := by
  refine Loop.by (fun x => ∃ i : Nat, x.1 = (i : Int) ∧ i ≤ sy.length ∧ SInv sy x.2 ∧ (∀ q, mem la q = false ∨ i ≤ q → x.2.getD q D5 = fo.getD q D5) ∧ ∀ q r, q < i → (mem (x.2.getD q D5) r = (mem (fo.getD q D5) r || (mem la q && mem fi r)))) (fun x => ((sy.length : Int) - x.1).toNat) ⟨0, rfl, by omega, hS, fun _ _ => rfl, fun q r hq => by omega⟩ ?_
  rintro ⟨v, f⟩ ⟨i, rfl, hi, hf, hq1, hq2⟩ X hX
  simp only at hf hq1 hq2 ⊢
  have hlen := hf.len
  unfold joinB
  have e1 := five hla.len
  have e2 := five hfi.len
  simp only [e1, e2, Int.toNat_natCast]
  refine ⟨fun hb => ?_, fun hb => ?_⟩
  · simp only [decide_eq_true_eq] at hb
    have hil : i < sy.length := by omega
    have hok := hf.ok i (by omega)
    refine VC61_of hla (by omega) ⟨fun hm => ⟨⟨by omega, by omega⟩, ?_⟩, fun hm => ?_⟩
    · rw [five hok.len]
      refine VC102_of hok hfi fun r hr hmr => ⟨⟨by omega, by omega⟩, ?_⟩
      rw [five hr.len]
      unfold VCc93_k7
      refine ⟨⟨by omega, by omega⟩, hX _ ⟨i + 1, by simp, by omega, ⟨by simp only [List.length_set]; exact hlen, fun q hq => ?_⟩, fun q hq => ?_, fun q r' hq => ?_⟩ (by simp only; omega)⟩
      · simp only [List.length_set] at hq
        simp only
        rw [getD_setL (by omega)]
        split
        · exact hr
        · exact hf.ok q hq
      · simp only
        rw [getD_setL (by omega)]
        split
        · rename_i hiq
          subst hiq
          rcases hq with hq | hq
          · rw [hm] at hq; cases hq
          · omega
        · exact hq1 q (hq.imp id (by omega))
      · simp only
        rw [getD_setL (by omega)]
        split
        · rename_i hiq
          subst hiq
          rw [hmr, hq1 i (.inr (Nat.le_refl _)), hm, Bool.true_and]
        · exact hq2 q r' (by omega)
    · unfold VCc93_k7
      refine ⟨⟨by omega, by omega⟩, hX _ ⟨i + 1, by simp, by omega, hf, fun q hq => hq1 q (hq.imp id (by omega)), fun q r' hq => ?_⟩ (by simp only; omega)⟩
      by_cases hqi : q < i
      · exact hq2 q r' hqi
      · have : q = i := by omega
        subst this
        simp only
        rw [hq1 q (.inr (Nat.le_refl _)), hm, Bool.false_and, Bool.or_false]
  · simp only [decide_eq_false_iff_not] at hb
    have hiN : i = sy.length := by omega
    subst hiN
    exact h f hf (fun q hq => hq1 q (.inl hq)) hq2

theorem eps_any {l : List Nd} {E : List Bool} (hEm : ∀ t, t < l.length → ∀ w, (E.getD t false = true ↔ Mat l w t 0 0)) {t : Nat} (ht : t < l.length) : ∀ (a : Nat) (w : List Int), a ≤ w.length → (Mat l w t a a ↔ E.getD t false = true)
  | 0, w, _ => (hEm t ht w).symm
  | a + 1, [], h => by simp at h
  | a + 1, s :: v, h => by
    rw [mat_shift_iff]
    exact eps_any hEm ht a v (by simpa using h)

theorem pow_two_le {a i : Nat} (h : a < i) : 2 ^ a * 2 ≤ 2 ^ i := by
  rw [← Nat.pow_succ]
  exact Nat.pow_le_pow_right (by omega) (by omega)

/-- what an occurrence of a node adds -/
structure Built (l : List Nd) (k : Int) (i : Nat) (sy : LI) (fo : LL) (fi la : LI) (sy' : LI) (fo' : LL) : Prop where
  inv : SInv sy' fo'
  more : sy.length ≤ sy'.length
  few : sy'.length ≤ sy.length + 2 ^ i
  old : ∀ q, q < sy.length → sy'.getD q 0 = sy.getD q 0 ∧ fo'.getD q D5 = fo.getD q D5
  sgn : ∀ q, sy.length ≤ q → q < sy'.length → 0 ≤ sy'.getD q 0 ∧ sy'.getD q 0 < k
  fiok : SetOk fi
  laok : SetOk la
  frag : ∀ w, Frag (Fol fo') (fun q => sy'.getD q 0) w sy.length sy'.length (fun q => mem fi q = true) (fun q => mem la q = true) (Mat l w i)

theorem getD_app {α : Type} {s e : List α} {q : Nat} {d : α} (h : q < s.length) : (s ++ e).getD q d = s.getD q d := by
  simp only [List.getD_eq_getElem?_getD, List.getElem?_append_left h]
theorem getD_last {α : Type} {s : List α} {x d : α} : (s ++ [x]).getD s.length d = x := by
  simp [List.getD_eq_getElem?_getD]

/-- a fragment that was built ahead of another one stays -/
theorem Built.keep {l : List Nd} {k : Int} {i j : Nat} {sy sy1 sy2 : LI} {fo fo1 fo2 : LL} {fi la fi2 la2 : LI} (h1 : Built l k i sy fo fi la sy1 fo1) (h2 : Built l k j sy1 fo1 fi2 la2 sy2 fo2) (w : List Int) :
    Frag (Fol fo2) (fun q => sy2.getD q 0) w sy.length sy1.length (fun q => mem fi q = true) (fun q => mem la q = true) (Mat l w i) := by
  refine (h1.frag w).congr (fun q r hq1 hq2 => ?_) (fun q hq1 hq2 => ((h2.old q hq2).1).symm)
  unfold Fol
  rw [(h2.old q hq2).2]

theorem build_of {k : Int} {l : List Nd} {E : List Bool} (hg : Good k l) (hE : E.length = l.length) (hEm : ∀ t, t < l.length → ∀ w, (E.getD t false = true ↔ Mat l w t 0 0)) (c2 c3 c4 c5 c6 : Int) :
    ∀ (n i : Nat) (x : Int) (sy : LI) (fo : LL) {K : (LI × (LI × Bool)) × LI × LL → Prop}, x = (i : Int) → i < n → i < l.length → SInv sy fo → sy.length + 2 ^ i ≤ 320 →
    (∀ fi la sy' fo', Built l k i sy fo fi la sy' fo' → K ((fi, (la, E.getD i false)), sy', fo')) → VCc93_it l E c2 c3 c4 c5 c6 n x sy fo K
  | 0, i, x, sy, fo, K, _, hn, _, _, _, _ => by omega
  | n + 1, i, x, sy, fo, K, hx, hn, hi, hS, hlen, h => by
    subst hx
    show VCc93 l E c2 c3 c4 c5 c6 (VCc93_it l E c2 c3 c4 c5 c6 n) (i : Int) sy fo K
    have hpos := Nat.two_pow_pos i
    have hok := hg.ok i hi
    have hrefs := refs hok
    have hSl := hS.len
    unfold VCc93
    simp only [Int.toNat_natCast]
    refine ⟨⟨by omega, by omega⟩, ⟨by omega, by omega⟩, ?_⟩
    obtain ⟨N, hN⟩ : ∃ N, l.getD i z3 = N := ⟨_, rfl⟩
    have hN' : nd l i = N := hN
    rw [hN'] at hok hrefs
    simp only [hN]
    refine ⟨fun k3 => ?_, fun k3 => ⟨fun k4 => ?_, fun k4 => ⟨fun k5 => ?_, fun k5 => ⟨fun k6 => ?_, fun k6 => ?_⟩⟩⟩⟩
    · simp only [decide_eq_true_eq] at k3
      refine ⟨by unfold roomN; simp only [List.length_singleton]; omega, by unfold roomN; simp only [List.length_singleton]; omega, ?_⟩
      refine VC88_of empty_ok (by omega) fun f1 hf1 hm1 => VC88_of empty_ok (by omega) fun f2 hf2 hm2 => ?_
      unfold VCc93_k2 VCc93_k1
      rw [five hf1.len, five hf2.len]
      simp only [Int.toNat_natCast, hN]
      have hA : 0 ≤ N.2.1 ∧ N.2.1 < k := by unfold OkN at hok; omega
      have hget : ∀ q, q < (fo ++ [emptyS]).length → SetOk ((fo ++ [emptyS]).getD q D5) := by
        intro q hq
        simp only [List.length_append, List.length_singleton] at hq
        by_cases hqf : q < fo.length
        · rw [getD_app hqf]; exact hS.ok q hqf
        · have : q = fo.length := by omega
          subst this
          rw [getD_last]; exact empty_ok
      refine h f1 f2 (sy ++ [N.2.1]) (fo ++ [emptyS]) ⟨⟨by simp [hSl], hget⟩, by simp, by simp only [List.length_append, List.length_singleton]; omega, fun q hq => ⟨getD_app hq, getD_app (by omega)⟩, fun q hq1 hq2 => ?_, hf1, hf2, fun w => ?_⟩
      · simp only [List.length_append, List.length_singleton] at hq2
        have : q = sy.length := by omega
        subst this
        rw [getD_last]; exact hA
      · have e1 : (sy ++ [N.2.1]).length = sy.length + 1 := by simp
        rw [e1]
        refine (frag_sym (F := Fol (fo ++ [emptyS])) (sy := fun q => (sy ++ [N.2.1]).getD q 0) (N := sy.length) (fun r hr => ?_) (M := Mat l w i) (fun a b => ?_)).same (fun q => ?_) (fun q => ?_) (fun a b _ => Iff.rfl)
        · unfold Fol at hr
          rw [hSl, getD_last, mem_empty] at hr
          cases hr
        · rw [mat_iff, hN', getD_last]
          constructor
          · rintro (⟨h, _⟩ | ⟨_, h⟩ | ⟨h, _⟩ | ⟨h, _⟩ | ⟨h, _⟩)
            · omega
            · exact h
            all_goals omega
          · exact fun h => .inr (.inl ⟨k3, h⟩)
        · rw [hm1, mem_empty, Bool.false_or, decide_eq_true_eq]; omega
        · rw [hm2, mem_empty, Bool.false_or, decide_eq_true_eq]; omega
    · simp only [decide_eq_true_eq] at k4
      obtain ⟨hA, hB⟩ := hrefs.1 (.inl k4)
      have hA0 : 0 ≤ N.2.1 ∧ 0 ≤ N.2.2 := by unfold OkN at hok; omega
      have pA := pow_two_le hA
      have pB := pow_two_le hB
      refine build_of hg hE hEm c2 c3 c4 c5 c6 n N.2.1.toNat N.2.1 sy fo (by omega) (by omega) (by omega) hS (by omega) fun f1 l1 sy1 fo1 b1 => ?_
      have q1 := b1.few
      simp only
      refine build_of hg hE hEm c2 c3 c4 c5 c6 n N.2.2.toNat N.2.2 sy1 fo1 (by omega) (by omega) (by omega) b1.inv (by omega) fun f2 l2 sy2 fo2 b2 => ?_
      have q2 := b2.few
      have m1 := b1.more
      have m2 := b2.more
      refine join_loop (C := VCc93_k4 E (i : Int) K ((f1, (l1, E.getD N.2.1.toNat false)), sy1, fo1) ((f2, (l2, E.getD N.2.2.toNat false)), sy2, fo2)) (la := l1) (fi := f2) (sy := sy2) (fo := fo2) b1.laok b2.fiok b2.inv (by omega) fun fo3 hS3 hold hnew => ?_
      have fin : ∀ f l', SetOk f → SetOk l' → (∀ q, mem f q = true ↔ mem f1 q = true ∨ (E.getD N.2.1.toNat false = true ∧ mem f2 q = true)) → (∀ q, mem l' q = true ↔ mem l2 q = true ∨ (E.getD N.2.2.toNat false = true ∧ mem l1 q = true)) → K ((f, (l', E.getD i false)), sy2, fo3) := by
        intro f l' hf hl' hfm hlm
        have hla1 : ∀ q, mem l1 q = true → sy.length ≤ q ∧ q < sy1.length := fun q hq => (b1.frag []).lan q hq
        refine h f l' sy2 fo3 ⟨hS3, by omega, by omega, fun q hq => ⟨?_, ?_⟩, fun q hq1 hq2 => ?_, hf, hl', fun w => ?_⟩
        · rw [(b2.old q (by omega)).1, (b1.old q hq).1]
        · rw [hold q, (b2.old q (by omega)).2, (b1.old q hq).2]
          cases hm : mem l1 q with
          | false => rfl
          | true => have := hla1 q hm; omega
        · by_cases hq3 : q < sy1.length
          · rw [(b2.old q hq3).1]; exact b1.sgn q hq1 hq3
          · exact b2.sgn q (by omega) hq2
        · have g1 := b1.keep b2 w
          have g2 := b2.frag w
          have g3 := frag_cat (F' := Fol fo3) (ex := E.getD N.2.1.toNat false = true) (ey := E.getD N.2.2.toNat false = true) g1 g2 (fun q r hq1 hq2 => by
            unfold Fol
            rw [hnew q r hq2, Bool.or_eq_true, Bool.and_eq_true]) (fun a b hh => hh.le) (fun a b hh => hh.le) (fun a ha => eps_any hEm (by omega) a w ha) (fun a ha => eps_any hEm (by omega) a w ha)
          refine g3.same (fun q => (hfm q).symm) (fun q => (hlm q).symm) (fun a b hab => ?_)
          rw [mat_iff (t := i), hN']
          constructor
          · rintro ⟨m, h1, h2⟩
            exact .inr (.inr (.inl ⟨k4, m, h1, h2⟩))
          · rintro (⟨h, _⟩ | ⟨h, _⟩ | ⟨_, h⟩ | ⟨h, _⟩ | ⟨h, _⟩)
            · omega
            · omega
            · exact h
            · omega
            · omega
      have e1 := five b1.fiok.len
      have e2 := five b1.laok.len
      have e3 := five b2.fiok.len
      have e4 := five b2.laok.len
      have last : ∀ f, SetOk f → (∀ q, mem f q = true ↔ mem f1 q = true ∨ (E.getD N.2.1.toNat false = true ∧ mem f2 q = true)) → VCc93_k5 E (i : Int) K ((f1, (l1, E.getD N.2.1.toNat false)), sy1, fo1) ((f2, (l2, E.getD N.2.2.toNat false)), sy2, fo2) fo3 (f.getD 0 0) (f.getD 1 0) (f.getD 2 0) (f.getD 3 0) (f.getD 4 0) := by
        intro f hf hfm
        have e5 := five hf.len
        unfold VCc93_k5
        simp only [e2, e4]
        refine ⟨fun he => VC102_of b2.laok b1.laok fun r hr hm => ?_, fun he => ?_⟩
        · unfold VCc93_k6 VCc93_k3 VCc93_k1
          rw [e5, five hr.len]
          simp only [Int.toNat_natCast]
          refine fin f r hf hr hfm fun q => ?_
          rw [hm, Bool.or_eq_true]
          constructor
          · rintro (hh | hh)
            · exact .inl hh
            · exact .inr ⟨he, hh⟩
          · rintro (hh | hh)
            · exact .inl hh
            · exact .inr hh.2
        · unfold VCc93_k6 VCc93_k3 VCc93_k1
          simp only
          rw [e5, e4]
          simp only [Int.toNat_natCast]
          refine fin f l2 hf b2.laok hfm fun q => ?_
          constructor
          · exact fun hh => .inl hh
          · rintro (hh | hh)
            · exact hh
            · rw [he] at hh; cases hh.1
      unfold VCc93_k4
      simp only [e1, e3]
      refine ⟨fun he => VC102_of b1.fiok b2.fiok fun r hr hm => last r hr fun q => ?_, fun he => last f1 b1.fiok fun q => ?_⟩
      · rw [hm, Bool.or_eq_true]
        constructor
        · rintro (hh | hh)
          · exact .inl hh
          · exact .inr ⟨he, hh⟩
        · rintro (hh | hh)
          · exact .inl hh
          · exact .inr hh.2
      · constructor
        · exact fun hh => .inl hh
        · rintro (hh | hh)
          · exact hh
          · rw [he] at hh; cases hh.1
    · simp only [decide_eq_true_eq] at k5
      obtain ⟨hA, hB⟩ := hrefs.1 (.inr k5)
      have hA0 : 0 ≤ N.2.1 ∧ 0 ≤ N.2.2 := by unfold OkN at hok; omega
      have pA := pow_two_le hA
      have pB := pow_two_le hB
      refine build_of hg hE hEm c2 c3 c4 c5 c6 n N.2.1.toNat N.2.1 sy fo (by omega) (by omega) (by omega) hS (by omega) fun f1 l1 sy1 fo1 b1 => ?_
      have q1 := b1.few
      simp only
      refine build_of hg hE hEm c2 c3 c4 c5 c6 n N.2.2.toNat N.2.2 sy1 fo1 (by omega) (by omega) (by omega) b1.inv (by omega) fun f2 l2 sy2 fo2 b2 => ?_
      have q2 := b2.few
      have m1 := b1.more
      have m2 := b2.more
      have e1 := five b1.fiok.len
      have e2 := five b1.laok.len
      have e3 := five b2.fiok.len
      have e4 := five b2.laok.len
      simp only [e1, e2, e3, e4]
      refine VC102_of b1.fiok b2.fiok fun r hr hm => VC102_of b1.laok b2.laok fun r2 hr2 hm2 => ?_
      unfold VCc93_k8 VCc93_k3 VCc93_k1
      rw [five hr.len, five hr2.len]
      simp only [Int.toNat_natCast]
      refine h r r2 sy2 fo2 ⟨b2.inv, by omega, by omega, fun q hq => ⟨?_, ?_⟩, fun q hq1 hq2 => ?_, hr, hr2, fun w => ?_⟩
      · rw [(b2.old q (by omega)).1, (b1.old q hq).1]
      · rw [(b2.old q (by omega)).2, (b1.old q hq).2]
      · by_cases hq3 : q < sy1.length
        · rw [(b2.old q hq3).1]; exact b1.sgn q hq1 hq3
        · exact b2.sgn q (by omega) hq2
      · refine (frag_or (b1.keep b2 w) (b2.frag w)).same (fun q => ?_) (fun q => ?_) (fun a b hab => ?_)
        · rw [hm, Bool.or_eq_true]
        · rw [hm2, Bool.or_eq_true]
        · rw [left_or (i := i) (by rw [hN']; exact k5), hN']
    · simp only [decide_eq_true_eq] at k6
      have hA := hrefs.2 k6
      have hA0 : 0 ≤ N.2.1 := by unfold OkN at hok; omega
      have pA := pow_two_le hA
      refine build_of hg hE hEm c2 c3 c4 c5 c6 n N.2.1.toNat N.2.1 sy fo (by omega) (by omega) (by omega) hS (by omega) fun f1 l1 sy1 fo1 b1 => ?_
      have q1 := b1.few
      have m1 := b1.more
      refine join_loop (C := VCc93_k10 E (i : Int) K ((f1, (l1, E.getD N.2.1.toNat false)), sy1, fo1)) (la := l1) (fi := f1) (sy := sy1) (fo := fo1) b1.laok b1.fiok b1.inv (by omega) fun fo3 hS3 hold hnew => ?_
      have hla1 : ∀ q, mem l1 q = true → sy.length ≤ q ∧ q < sy1.length := fun q hq => (b1.frag []).lan q hq
      have e1 := five b1.fiok.len
      have e2 := five b1.laok.len
      unfold VCc93_k10 VCc93_k9 VCc93_k8 VCc93_k3 VCc93_k1
      simp only
      rw [e1, e2]
      simp only [Int.toNat_natCast]
      refine h f1 l1 sy1 fo3 ⟨hS3, by omega, by omega, fun q hq => ⟨(b1.old q hq).1, ?_⟩, fun q hq1 hq2 => b1.sgn q hq1 hq2, b1.fiok, b1.laok, fun w => ?_⟩
      · rw [hold q, (b1.old q hq).2]
        cases hm : mem l1 q with
        | false => rfl
        | true => have := hla1 q hm; omega
      · have g3 := frag_star (F' := Fol fo3) (b1.frag w) (fun q r hq1 hq2 => by
          unfold Fol
          rw [hnew q r hq2, Bool.or_eq_true, Bool.and_eq_true])
        refine g3.same (fun q => Iff.rfl) (fun q => Iff.rfl) (fun a b hab => ?_)
        have hk : (nd l i).1 = 6 := by rw [hN']; exact k6
        have := plus_star (w := w) hk hab
        rw [hN'] at this
        exact this
    · simp only [decide_eq_false_iff_not] at k3 k4 k5 k6
      have hk : N.1 = 1 ∨ N.1 = 2 := by unfold OkN at hok; omega
      unfold VCc93_k9 VCc93_k8 VCc93_k3 VCc93_k1
      simp only [Int.toNat_natCast]
      refine h emptyS emptyS sy fo ⟨hS, by omega, by omega, fun q hq => ⟨rfl, rfl⟩, fun q hq1 hq2 => by omega, empty_ok, empty_ok, fun w => ?_⟩
      refine (frag_none (Fol fo) (fun q => sy.getD q 0) w sy.length (M := Mat l w i) (fun a b hab hm => ?_)).same (fun q => by rw [mem_empty]; simp) (fun q => by rw [mem_empty]; simp) (fun a b _ => Iff.rfl)
      rcases mat_iff.1 hm with ⟨_, h, _⟩ | ⟨h, _⟩ | ⟨h, _⟩ | ⟨h, _⟩ | ⟨h, _⟩
      · omega
      all_goals (rw [hN'] at h; omega)

end Dec
