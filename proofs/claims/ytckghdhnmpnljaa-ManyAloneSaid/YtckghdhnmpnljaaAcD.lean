/-
many.link: each node's link is its longest ending that is a node, and its words are all words that end it. many.link's loops.
-/
import Derived.Test.YtckghdhnmpnljaaAcB
set_option linter.unusedSimpArgs false
set_option linter.unusedVariables false
namespace Dec
open Go Go.Proofs
def sufW (words : LL) (u : LI) : LI := ((List.range words.length).filter fun q => (words.getD q []).isSuffixOf u).map Int.ofNat
theorem sorted_same : ∀ {a b : List Int}, a.Perm b → a.Pairwise (· ≤ ·) → b.Pairwise (· ≤ ·) → a = b
  | [], b, hp, _, _ => (List.nil_perm.1 hp).symm
  | x :: a, [], hp, _, _ => absurd (List.nil_perm.1 hp.symm) (by simp)
  | x :: a, y :: b, hp, ha, hb => by
    rw [List.pairwise_cons] at ha hb
    have e : x = y := by
      have hx : x ∈ y :: b := hp.subset (List.mem_cons_self ..)
      have hy : y ∈ x :: a := hp.symm.subset (List.mem_cons_self ..)
      rcases List.mem_cons.1 hx with e | hx
      · exact e
      · rcases List.mem_cons.1 hy with e | hy
        · exact e.symm
        · have := hb.1 x hx; have := ha.1 y hy; omega
    subst e
    rw [sorted_same ((List.perm_cons x).1 hp) ha.2 hb.2]
theorem srtI_sorted (l : List Int) : (srtI l).Pairwise (· ≤ ·) := by
  have h := List.pairwise_mergeSort (le := fun x y : Int => decide (x ≤ y)) (fun a b c h1 h2 => by simp only [decide_eq_true_eq] at *; omega) (fun a b => by simp only [Bool.or_eq_true, decide_eq_true_eq]; omega) l
  exact h.imp fun h => by simpa using h
theorem filter_two {α : Type} (p q : α → Bool) : ∀ l : List α, (∀ x ∈ l, ¬ (p x = true ∧ q x = true)) → (l.filter p ++ l.filter q).Perm (l.filter fun x => p x || q x)
  | [], _ => List.Perm.refl _
  | x :: l, h => by
    have ih := filter_two p q l fun y hy => h y (List.mem_cons_of_mem _ hy)
    have hx := h x (List.mem_cons_self ..)
    cases hp : p x with
    | true =>
      have hq : q x = false := by
        cases hq : q x with
        | true => exact absurd ⟨hp, hq⟩ hx
        | false => rfl
      simp only [List.filter_cons, hp, hq, Bool.true_or, if_true, Bool.false_eq_true, if_false, List.cons_append]
      exact ih.cons x
    | false =>
      cases hq : q x with
      | true =>
        simp only [List.filter_cons, hp, hq, Bool.or_true, if_true, Bool.false_eq_true, if_false]
        exact List.perm_middle.trans (ih.cons x)
      | false =>
        simp only [List.filter_cons, hp, hq, Bool.or_false, Bool.false_eq_true, if_false]
        exact ih
theorem range_sorted (p : Nat → Bool) (n : Nat) : (((List.range n).filter p).map Int.ofNat).Pairwise (· ≤ ·) := by
  rw [List.pairwise_map]
  refine List.Pairwise.imp ?_ (List.Pairwise.filter p (List.pairwise_lt_range (n := n)))
  intro a b h
  show (a : Int) ≤ (b : Int)
  omega
theorem words_two {words : LL} (hw : Wds words) {t : List Nd} {P : List LI} (has : ∀ q, q < words.length → ∃ k, k < t.length ∧ P.getD k [] = words.getD q []) {v f : Nat} (hf : FailOk t P v f) :
    srtI (ownW words words.length (P.getD v []) ++ sufW words (P.getD f [])) = sufW words (P.getD v []) := by
  refine sorted_same ?_ (srtI_sorted _) (range_sorted _ _)
  refine (srtI_perm _).trans ?_
  unfold ownW sufW
  rw [← List.map_append]
  refine List.Perm.map _ ?_
  refine (filter_two _ _ _ fun q _ h => ?_).trans ?_
  · simp only [decide_eq_true_eq, List.isSuffixOf_iff_suffix] at h
    have h1 := hf.less
    have h2 := h.2.length_le
    rw [h.1] at h2
    omega
  · refine List.Perm.of_eq (List.filter_congr fun q hq => ?_)
    rw [List.mem_range] at hq
    rw [Bool.eq_iff_iff]
    simp only [Bool.or_eq_true, decide_eq_true_eq, List.isSuffixOf_iff_suffix]
    constructor
    · rintro (h | h)
      · rw [h]; exact List.suffix_refl _
      · exact h.trans hf.suf
    · intro h
      rcases Nat.lt_or_ge (words.getD q []).length (P.getD v []).length with h1 | h1
      · right
        obtain ⟨k, hk, e⟩ := has q hq
        rw [← e] at h h1 ⊢
        exact suf_le h hf.suf (hf.best k hk h h1)
      · left
        exact suf_same h h1
structure Lk (words : LL) (t : List Nd) (P : List LI) (Dn : List Nat) (Pc : Nat → Int → Prop) : Prop where
  T : Trie t P
  has : ∀ q, q < words.length → ∃ k, k < t.length ∧ P.getD k [] = words.getD q []
  pre : ∀ k, 0 < k → k < t.length → ∃ w ∈ words, P.getD k [] <+: w
  nd : Dn.Nodup
  lt : ∀ v ∈ Dn, v < t.length
  root : 0 ∈ Dn
  kids : ∀ v c (k : Nat), v < t.length → Pc v c → mget (t.getD v zN).1 c = some (k : Int) → k ∈ Dn
  par : ∀ k ∈ Dn, ∀ i c, i < t.length → P.getD k [] = P.getD i [] ++ [c] → Pc i c
  lnk : ∀ k ∈ Dn, 0 < k → Lnk t P k
  wds : ∀ k ∈ Dn, (t.getD k zN).2.2.2 = sufW words (P.getD k [])
  raw : ∀ k, k < t.length → k ∉ Dn → (t.getD k zN).2.1 = 0 ∧ (t.getD k zN).2.2.2 = ownW words words.length (P.getD k [])
theorem FailOk.of {t t' : List Nd} {P : List LI} {v f : Nat} (h : FailOk t P v f) (hl : t'.length = t.length) : FailOk t' P v f := ⟨by rw [hl]; exact h.lt, h.suf, h.less, by rw [hl]; exact h.best⟩
theorem Lk.push {words : LL} (hw : Wds words) {t : List Nd} {P : List LI} {Dn : List Nat} {Pc : Nat → Int → Prop} (L : Lk words t P Dn Pc) {a to f : Nat} {c : Int} (ha : a < t.length) (hto : to < t.length) (e : P.getD to [] = P.getD a [] ++ [c]) (hn : to ∉ Dn) (hf : FailOk t P to f) (hfd : f ∈ Dn) :
    Lk words (t.set to ((t.getD to zN).1, ((f : Int), ((t.getD to zN).2.2.1, srtI ((t.getD to zN).2.2.2 ++ (t.getD f zN).2.2.2))))) P (Dn ++ [to]) (fun v x => Pc v x ∨ (v = a ∧ x = c)) := by
  have hl : (t.set to ((t.getD to zN).1, ((f : Int), ((t.getD to zN).2.2.1, srtI ((t.getD to zN).2.2.2 ++ (t.getD f zN).2.2.2))))).length = t.length := List.length_set
  have ge : (t.set to ((t.getD to zN).1, ((f : Int), ((t.getD to zN).2.2.1, srtI ((t.getD to zN).2.2.2 ++ (t.getD f zN).2.2.2))))).getD to zN = ((t.getD to zN).1, ((f : Int), ((t.getD to zN).2.2.1, srtI ((t.getD to zN).2.2.2 ++ (t.getD f zN).2.2.2)))) := getD_set_eq hto
  have gn : ∀ k, k ≠ to → (t.set to ((t.getD to zN).1, ((f : Int), ((t.getD to zN).2.2.1, srtI ((t.getD to zN).2.2.2 ++ (t.getD f zN).2.2.2))))).getD k zN = t.getD k zN := fun k hk => getD_set_ne (Ne.symm hk)
  generalize (t.set to ((t.getD to zN).1, ((f : Int), ((t.getD to zN).2.2.1, srtI ((t.getD to zN).2.2.2 ++ (t.getD f zN).2.2.2))))) = t' at hl ge gn ⊢
  have g1 : ∀ k, (t'.getD k zN).1 = (t.getD k zN).1 := by
    intro k
    by_cases ek : k = to
    · subst ek; rw [ge]
    · rw [gn k ek]
  refine ⟨L.T.same hl fun i hi => ⟨g1 i, ?_⟩, by rw [hl]; exact L.has, by rw [hl]; exact L.pre, ?_, ?_, List.mem_append_left _ L.root, ?_, ?_, ?_, ?_, ?_⟩
  · by_cases ek : i = to
    · subst ek; rw [ge]
    · rw [gn i ek]
  · rw [List.nodup_append]
    exact ⟨L.nd, by simp, fun x hx y hy exy => hn (by rw [← List.mem_singleton.1 hy, ← exy]; exact hx)⟩
  · intro v hv
    rw [hl]
    rcases List.mem_append.1 hv with h | h
    · exact L.lt v h
    · rw [List.mem_singleton.1 h]; exact hto
  · intro v x k hv hp hk
    rw [hl] at hv
    rw [g1] at hk
    rcases hp with hp | ⟨rfl, rfl⟩
    · exact List.mem_append_left _ (L.kids v x k hv hp hk)
    · rw [L.T.go hv hto e] at hk
      have : to = k := by injection hk with hk; omega
      subst this
      exact List.mem_append_right _ (List.mem_singleton.2 rfl)
  · intro k hk i x hi ek
    rw [hl] at hi
    rcases List.mem_append.1 hk with h | h
    · exact .inl (L.par k h i x hi ek)
    · rw [List.mem_singleton] at h
      subst h
      rw [e] at ek
      obtain ⟨e1, e2⟩ := snoc_inj ek
      exact .inr ⟨(L.T.inj a i ha hi e1).symm, e2.symm⟩
  · intro k hk h0
    rcases List.mem_append.1 hk with h | h
    · obtain ⟨f', h1, h2⟩ := L.lnk k h h0
      exact ⟨f', by rw [gn k fun ek => hn (by rw [← ek]; exact h)]; exact h1, h2.of hl⟩
    · rw [List.mem_singleton] at h
      subst h
      exact ⟨f, by rw [ge], hf.of hl⟩
  · intro k hk
    rcases List.mem_append.1 hk with h | h
    · rw [gn k fun ek => hn (by rw [← ek]; exact h)]; exact L.wds k h
    · rw [List.mem_singleton] at h
      subst h
      rw [ge]
      show srtI _ = _
      rw [(L.raw k hto hn).2, L.wds f hfd]
      exact words_two hw L.has hf
  · intro k hk hkn
    rw [hl] at hk
    have h1 : k ∉ Dn := fun h => hkn (List.mem_append_left _ h)
    have h2 : k ≠ to := fun h => hkn (List.mem_append_right _ (List.mem_singleton.2 h))
    rw [gn k h2]
    exact L.raw k hk h1
theorem Lk.mono {words : LL} {t : List Nd} {P : List LI} {Dn : List Nat} {Pc Pd : Nat → Int → Prop} (L : Lk words t P Dn Pc) (h1 : ∀ v c, Pc v c → Pd v c) (h2 : ∀ v c (k : Nat), v < t.length → Pd v c → mget (t.getD v zN).1 c = some (k : Int) → Pc v c) : Lk words t P Dn Pd :=
  ⟨L.T, L.has, L.pre, L.nd, L.lt, L.root, fun v c k hv hp hk => L.kids v c k hv (h2 v c k hv hp hk) hk, fun k hk i c hi e => h1 _ _ (L.par k hk i c hi e), L.lnk, L.wds, L.raw⟩
theorem Lk.room {words : LL} {t : List Nd} {P : List LI} {Dn : List Nat} {Pc : Nat → Int → Prop} (L : Lk words t P Dn Pc) : Dn.length ≤ t.length := by
  refine pigeon t.length Dn.length (fun i => Dn.getD i 0) (fun i hi => L.lt _ (getD_mem hi)) (fun i j hij hj e => ?_)
  rw [getD_lt _ (show i < Dn.length by omega), getD_lt _ hj] at e
  have hn := L.nd
  rw [List.nodup_iff_pairwise_ne] at hn
  exact List.pairwise_iff_getElem.1 hn i j (by omega) hj hij e
theorem Lk.done {words : LL} {t : List Nd} {P : List LI} {W R : List Nat} {a : Nat} {Pc : Nat → Int → Prop} (L : Lk words t P (W ++ a :: R) Pc) (hW : ∀ v c, v ∈ W → Pc v c) (hR : ∀ b ∈ R, (P.getD a []).length ≤ (P.getD b []).length) :
    ∀ (n u : Nat), (P.getD u []).length = n → u < t.length → (P.getD u []).length ≤ (P.getD a []).length → u ∈ W ++ a :: R := by
  intro n
  induction n with
  | zero =>
    intro u hn hu _
    rw [(L.T.zero hu).1 (List.eq_nil_of_length_eq_zero hn)]
    exact L.root
  | succ n ih =>
    intro u hn hu hle
    have h0 : 0 < u := by
      rcases Nat.eq_zero_or_pos u with e | e
      · subst e; rw [L.T.root] at hn; cases hn
      · exact e
    obtain ⟨i, c, hi, e, hm⟩ := L.T.back u h0 hu
    have hl : (P.getD u []).length = (P.getD i []).length + 1 := by rw [e]; simp
    have := ih i (by omega) hi (by omega)
    rcases List.mem_append.1 this with h | h
    · exact L.kids i c u hi (hW i c h) hm
    · rcases List.mem_cons.1 h with h | h
      · subst h; omega
      · have := hR i h; omega
theorem link_next {t : List Nd} {P : List LI} (T : Trie t P) {a f0 to r : Nat} {c : Int} (e : P.getD to [] = P.getD a [] ++ [c]) (h0 : FailOk t P a f0) (hr : Best t P (P.getD f0 [] ++ [c]) r) : FailOk t P to r := by
  refine ⟨hr.lt, ?_, ?_, fun k hk hs hl => ?_⟩
  · rw [e]; exact hr.suf.trans (suf_add c h0.suf)
  · have h1 := hr.suf.length_le
    have h2 := h0.less
    rw [e]
    simp only [List.length_append, List.length_singleton] at h1 ⊢
    omega
  · rw [e] at hs hl
    rcases suf_snoc hs with e1 | ⟨u, e1, hu⟩
    · rw [e1]; simp
    · have hk0 : 0 < k := by
        rcases Nat.eq_zero_or_pos k with e6 | e6
        · subst e6; rw [T.root] at e1; exact absurd e1.symm (by simp)
        · exact e6
      obtain ⟨i, c', hi, e7, _⟩ := T.back k hk0 hk
      rw [e1] at e7
      obtain ⟨e8, _⟩ := snoc_inj e7
      rw [e1] at hl
      simp only [List.length_append, List.length_singleton] at hl
      rw [e8] at hu hl
      have h3 := h0.best i hi hu (by omega)
      refine hr.best k hk ?_
      rw [e1, e8]
      exact suf_add c (suf_le hu h0.suf h3)
theorem link_root {t : List Nd} {P : List LI} (T : Trie t P) {to : Nat} {c : Int} (e : P.getD to [] = P.getD 0 [] ++ [c]) : FailOk t P to 0 := by
  rw [T.root] at e
  refine ⟨T.pos, by rw [T.root]; exact List.nil_suffix, by rw [T.root, e]; simp, fun k hk _ hl => ?_⟩
  rw [e] at hl
  simp only [List.nil_append, List.length_singleton] at hl
  omega
end Dec
namespace Dec
open Go Go.Proofs
structure Ac (words : LL) (t : List Nd) (P : List LI) : Prop where
  T : Trie t P
  has : ∀ q, q < words.length → ∃ k, k < t.length ∧ P.getD k [] = words.getD q []
  pre : ∀ k, 0 < k → k < t.length → ∃ w ∈ words, P.getD k [] <+: w
  lnk : ∀ k, k < t.length → 0 < k → Lnk t P k
  wds : ∀ k, k < t.length → (t.getD k zN).2.2.2 = sufW words (P.getD k [])
theorem Lk.all {words : LL} {t : List Nd} {P : List LI} {W : List Nat} (L : Lk words t P W (fun v _ => v ∈ W)) : ∀ (n u : Nat), (P.getD u []).length = n → u < t.length → u ∈ W := by
  intro n
  induction n with
  | zero =>
    intro u hn hu
    rw [(L.T.zero hu).1 (List.eq_nil_of_length_eq_zero hn)]
    exact L.root
  | succ n ih =>
    intro u hn hu
    have h0 : 0 < u := by
      rcases Nat.eq_zero_or_pos u with e | e
      · subst e; rw [L.T.root] at hn; cases hn
      · exact e
    obtain ⟨i, c, hi, e, hm⟩ := L.T.back u h0 hu
    have hl : (P.getD u []).length = (P.getD i []).length + 1 := by rw [e]; simp
    exact L.kids i c u hi (ih i (by omega) hi) hm
theorem wrapU8 {n : Int} (h : 0 ≤ n ∧ n < 256) : IntKind.wrap .u8 n = n := by
  simp [IntKind.wrap, IntKind.signed, IntKind.bits]; omega
theorem five {l : List Nd} {a b : Nat} (ha : a < l.length) (hb : b < l.length) (hne : b ≠ a) (x y z : Nd) : (((l.set a x).set a y).set b (l.getD b zN)).set a z = l.set a z ∧ (((l.set a x).set a y).set b (l.getD b zN)).getD a zN = y := by
  refine ⟨?_, ?_⟩
  · rw [List.set_set, List.set_comm _ _ hne, List.set_set]
    have : (l.set a z).set b ((l.set a z).getD b zN) = l.set a z := set_getD_self (by simpa using hb)
    rw [getD_set_ne (Ne.symm hne)] at this
    exact this
  · rw [getD_set_ne hne, List.set_set, getD_set_eq ha]
theorem k5_of {lo lo3 len2 : Nat} {queue qu : LI} {v16 : Int} {tv3 : List Nd} {X2 : Nat × Nat × Int × LI × List Nd → Prop} {to f : Nat}
    (he : (mget ((tv3.getD (((queue.getD (lo + ((0 : Int)).toNat) (0 : Int))).toNat) (([] : (List (Int × Int))), zT)).1) (IntKind.wrap .u8 v16)).getD (0 : Int) = (to : Int)) (hto : to < tv3.length) (hf : f < tv3.length) (hne : f ≠ to)
    (hroom : (tv3.getD to zN).2.2.2.length + (tv3.getD f zN).2.2.2.length ≤ 1000) (hin : InR (v16 + (1 : Int)))
    (hX : X2 (lo3, len2 + 1, v16 + 1, qu, tv3.set to ((tv3.getD to zN).1, ((f : Int), ((tv3.getD to zN).2.2.1, srtI ((tv3.getD to zN).2.2.2 ++ (tv3.getD f zN).2.2.2)))))) :
    VC71_k5 lo queue len2 v16 tv3 X2 qu lo3 (tv3.set to ((tv3.getD to zN).1, ((f : Int), (tv3.getD to zN).2.2))) := by
  have g1 : (tv3.set to ((tv3.getD to zN).1, ((f : Int), (tv3.getD to zN).2.2))).getD to (([] : (List (Int × Int))), zT) = ((tv3.getD to zN).1, ((f : Int), (tv3.getD to zN).2.2)) := getD_set_eq hto
  have g2 : (tv3.set to ((tv3.getD to zN).1, ((f : Int), (tv3.getD to zN).2.2))).getD f (([] : (List (Int × Int))), zT) = tv3.getD f zN := getD_set_ne (Ne.symm hne)
  unfold VC71_k5 VC71_k4
  simp only [he, Int.toNat_natCast, g1, g2]
  have h5 := fun y z => five hto hf hne ((tv3.getD to zN).1, ((f : Int), (tv3.getD to zN).2.2)) y z
  simp only [(h5 _ _).1, (h5 _ ((tv3.getD to zN))).2]
  have hi : inIdx (to : Int) (tv3.set to ((tv3.getD to zN).1, ((f : Int), (tv3.getD to zN).2.2))).length := ⟨by omega, by simp; omega⟩
  refine ⟨hi, hi, ⟨by omega, by simp; omega⟩, Ne.symm hne, by simp only [roomN, roomW]; omega, hi, ⟨by omega, by simp; omega⟩, ⟨by simp only [roomN, roomW, List.length_append]; omega, hin, ?_⟩⟩
  exact hX
theorem drop_head {l : LI} {n : Nat} {x : Int} {r : LI} (h : l.drop n = x :: r) : l.getD n 0 = x ∧ l.drop (n + 1) = r ∧ n < l.length := by
  have hl : n < l.length := by
    rcases Nat.lt_or_ge n l.length with h1 | h1
    · exact h1
    · rw [List.drop_of_length_le h1] at h; cases h
  rw [List.drop_eq_getElem_cons hl] at h
  injection h with h1 h2
  exact ⟨by rw [getD_lt _ hl]; exact h1, h2, hl⟩
structure Ordr (P : List LI) (Q : List Nat) : Prop where
  up : Q.Pairwise fun a b => (P.getD a []).length ≤ (P.getD b []).length
  near : ∀ a ∈ Q, ∀ b ∈ Q, (P.getD b []).length ≤ (P.getD a []).length + 1
theorem l2_loop {words : LL} (hw : Wds words) {N : Nat} (hN : N ≤ 481) {P : List LI} {W R0 : List Nat} {a : Nat} {lo : Nat} {queue : LI} (hq : queue.getD lo 0 = (a : Int)) {t0 : List Nd} (h0 : t0.length = N) (L0 : Lk words t0 P (W ++ a :: R0) (fun v _ => v ∈ W)) (hO : Ordr P (a :: R0))
    {lo1 : Nat} {queue1 : LI} (hq1 : queue1.drop lo1 = R0.map Int.ofNat) (hlen : lo1 + R0.length = queue1.length) (hql : queue1.length ≤ W.length + 1 + R0.length) {X1 : Nat × Nat × LI × List Nd → Prop}
    (hX1 : ∀ (lo2 : Nat) (queue2 : LI) (t : List Nd) (R : List Nat), t.length = N → Lk words t P ((W ++ [a]) ++ R) (fun v _ => v ∈ W ++ [a]) → Ordr P R → queue2.drop lo2 = R.map Int.ofNat → lo2 + R.length = queue2.length → queue2.length ≤ W.length + 1 + R.length → X1 (lo2, R.length, queue2, t)) :
    Loop (σ := Nat × Nat × Int × LI × List Nd) (fun s X => VC71_l2 lo queue X1 s.1 s.2.1 s.2.2.1 s.2.2.2.1 s.2.2.2.2 X) (lo1, R0.length, (0 : Int), queue1, t0) := by
  have haW : a ∉ W := by
    intro h
    have := L0.nd
    rw [List.nodup_append] at this
    exact this.2.2 a h a (List.mem_cons_self ..) rfl
  refine Loop.by (fun s : Nat × Nat × Int × LI × List Nd => ∃ (c : Nat) (R : List Nat), s.2.2.1 = (c : Int) ∧ c ≤ 256 ∧ s.2.1 = R.length ∧ s.2.2.2.2.length = N ∧ Lk words s.2.2.2.2 P (W ++ a :: R) (fun v x => v ∈ W ∨ (v = a ∧ x < (c : Int))) ∧ R.Pairwise (fun a b => (P.getD a []).length ≤ (P.getD b []).length) ∧ (∀ b ∈ R, (P.getD a []).length ≤ (P.getD b []).length ∧ (P.getD b []).length ≤ (P.getD a []).length + 1) ∧ s.2.2.2.1.drop s.1 = R.map Int.ofNat ∧ s.1 + R.length = s.2.2.2.1.length ∧ s.2.2.2.1.length ≤ W.length + 1 + R.length)
    (fun s => 256 - s.2.2.1.toNat) ⟨0, R0, rfl, by omega, rfl, h0, L0.mono (fun v c h => .inl h) (fun v c k hv h hk => ?_), (List.pairwise_cons.1 hO.up).2, fun b hb => ⟨(List.pairwise_cons.1 hO.up).1 b hb, hO.near a (List.mem_cons_self ..) b (List.mem_cons_of_mem _ hb)⟩, hq1, hlen, hql⟩ ?_
  · rcases h with h | ⟨_, h⟩
    · exact h
    · obtain ⟨_, _, _, _, h2, _⟩ := L0.T.next v hv c _ hk
      simp at h; omega
  rintro ⟨lo2, len2, v16, queue2, t⟩ ⟨c, R, e1, hc, e2, hN2, L, hup, hnr, hqd, hql2, hqm⟩ X hX
  dsimp only at e1 e2 hN2 L hup hnr hqd hql2 hqm hX ⊢
  subst e1; subst e2
  have ha : a < t.length := L.lt a (by simp)
  have hDn := L.room
  have hdn : (W ++ a :: R).length = W.length + 1 + R.length := by simp; omega
  unfold VC71_l2
  have e0 : lo + ((0 : Int)).toNat = lo := by simp
  rw [e0, hq]
  simp only [Int.toNat_natCast]
  refine ⟨fun hlt => ?_, fun hge => ?_⟩
  · simp only [decide_eq_true_eq] at hlt
    have hwr : IntKind.wrap .u8 (c : Int) = (c : Int) := wrapU8 ⟨by omega, by omega⟩
    have hin : InR ((c : Int) + 1) := by unfold InR; omega
    refine ⟨⟨by omega, by omega⟩, fun hno => ?_, fun hso => ?_⟩
    · rw [hwr] at hno
      have hno : (mget (t.getD a zN).1 (c : Int)).isSome = false := by simpa using hno
      refine ⟨hin, hX _ ⟨c + 1, R, by simp, by omega, rfl, hN2, L.mono (fun v x h => ?_) (fun v x k hv h hk => ?_), hup, hnr, hqd, hql2, hqm⟩ (by simp only [Int.toNat_natCast]; omega)⟩
      · rcases h with h | ⟨h, h'⟩
        · exact .inl h
        · exact .inr ⟨h, by push_cast; omega⟩
      · rcases h with h | ⟨h, h'⟩
        · exact .inl h
        · refine .inr ⟨h, ?_⟩
          have : x ≠ (c : Int) := by
            intro e
            subst e; subst h
            rw [hk] at hno; cases hno
          push_cast at h'; omega
    · have hso2 : (mget (t.getD a zN).1 (c : Int)).isSome = true := by rw [hwr] at hso; simpa using hso
      obtain ⟨j, hj⟩ := Option.isSome_iff_exists.1 hso2
      obtain ⟨to, rfl, hto, ep, _⟩ := L.T.next a ha _ j hj
      have he : (mget ((t.getD a (([] : (List (Int × Int))), zT)).1) (IntKind.wrap .u8 (c : Int))).getD (0 : Int) = (to : Int) := by
        rw [hwr]
        show (mget (t.getD a zN).1 (c : Int)).getD 0 = _
        rw [hj]; rfl
      have he2 : (mget ((t.getD (((queue.getD (lo + ((0 : Int)).toNat) (0 : Int))).toNat) (([] : (List (Int × Int))), zT)).1) (IntKind.wrap .u8 (c : Int))).getD (0 : Int) = (to : Int) := by
        rw [e0, hq, Int.toNat_natCast]; exact he
      rw [he]
      have hdepth : (P.getD to []).length = (P.getD a []).length + 1 := by rw [ep]; simp
      have hton : to ∉ W ++ a :: R := by
        intro h
        rcases L.par to h a (c : Int) ha ep with h1 | ⟨_, h1⟩
        · exact haW h1
        · omega
      have hdone := L.done (fun v x h => .inl h) (fun b hb => (hnr b hb).1)
      have wlen : ∀ k, k < t.length → (t.getD k zN).2.2.2.length ≤ 8 := by
        intro k hk
        have hf : ∀ p : Nat → Bool, (((List.range words.length).filter p).map Int.ofNat).length ≤ 8 := by
          intro p
          rw [List.length_map]
          have := List.length_filter_le p (List.range words.length)
          rw [List.length_range] at this
          have := hw.few
          omega
        by_cases h : k ∈ W ++ a :: R
        · rw [L.wds k h]; exact hf _
        · rw [(L.raw k hk h).2]; exact hf _
      refine ⟨⟨hql2, by simp only [roomN, roomW, List.length_singleton]; omega⟩, fun qu lo3 hd hl3 hl4 => ?_⟩
      have fin : ∀ f : Nat, FailOk t P to f → VC71_k5 lo queue R.length (c : Int) t X qu lo3 (t.set to ((t.getD to zN).1, ((f : Int), (t.getD to zN).2.2))) := by
        intro f hf
        have hfd : f ∈ W ++ a :: R := hdone _ f rfl hf.lt (by have := hf.less; omega)
        have hne : f ≠ to := by
          intro e
          have := hf.less
          rw [e] at this; omega
        refine k5_of he2 hto hf.lt hne (by have := wlen to hto; have := wlen f hf.lt; omega) hin (hX _ ⟨c + 1, R ++ [to], by simp, by omega, by simp, by simp [hN2], ?_, ?_, ?_, ?_, ?_, ?_⟩ (by simp only [Int.toNat_natCast]; omega))
        · have h5 := L.push hw ha hto ep hton hf hfd
          rw [List.append_assoc, List.cons_append] at h5
          refine h5.mono (fun v x h => ?_) (fun v x k hv h hk => ?_)
          · rcases h with (h | ⟨h, h'⟩) | ⟨h, h'⟩
            · exact .inl h
            · exact .inr ⟨h, by push_cast; omega⟩
            · exact .inr ⟨h, by push_cast; omega⟩
          · rcases h with h | ⟨h, h'⟩
            · exact .inl (.inl h)
            · push_cast at h'
              by_cases ex : x = (c : Int)
              · exact .inr ⟨h, ex⟩
              · exact .inl (.inr ⟨h, by omega⟩)
        · rw [List.pairwise_append]
          exact ⟨hup, by simp, fun x hx y hy => by rw [List.mem_singleton.1 hy]; have := (hnr x hx).2; omega⟩
        · intro b hb
          rcases List.mem_append.1 hb with h | h
          · exact hnr b h
          · rw [List.mem_singleton.1 h]; omega
        · rw [hd, hqd, List.map_append]; rfl
        · simp at hl3 ⊢; omega
        · simp at hl4 ⊢; omega
      refine ⟨fun hpos => ⟨⟨by omega, by omega⟩, ?_⟩, fun hz => ?_⟩
      · simp only [decide_eq_true_eq] at hpos
        obtain ⟨f0, ef, hf0⟩ := L.lnk a (by simp) (by omega)
        have ef : (t.getD a (([] : (List (Int × Int))), zT)).2.1 = (f0 : Int) := ef
        rw [ef]
        have hless := hf0.less
        refine step_loop (K := fun v6 => VC71_k6 lo queue R.length (c : Int) t X qu lo3 v6) (s := P.getD f0 []) (c := (c : Int)) L.T (fun v Y h => ?_) (P.getD a []).length (fun v hv h0 hle => L.lnk v (hdone _ v rfl hv hle) h0) (fun r hr => ?_) hf0.lt (by omega) (List.suffix_refl _) (fun k hk u _ hu => hu.length_le)
        · unfold VC71_l3
          rw [hwr]
          exact h
        · unfold VC71_k6
          rw [he2, Int.toNat_natCast]
          exact ⟨⟨by omega, by omega⟩, fin r (link_next L.T ep hf0 hr)⟩
      · simp only [decide_eq_false_iff_not] at hz
        have : a = 0 := by omega
        subst this
        have h6 := fin 0 (link_root L.T ep)
        have e7 : (t.getD to zN).2.1 = 0 := (L.raw to hto hton).1
        rw [show t.set to ((t.getD to zN).1, (((0 : Nat) : Int), (t.getD to zN).2.2)) = t by
          have := set_getD_self (d := zN) hto
          rw [show ((t.getD to zN).1, (((0 : Nat) : Int), (t.getD to zN).2.2)) = t.getD to zN from Prod.ext rfl (Prod.ext e7.symm rfl)]
          exact this] at h6
        exact h6
  · simp only [decide_eq_false_iff_not] at hge
    have : c = 256 := by omega
    subst this
    refine hX1 lo2 queue2 t R hN2 ?_ ⟨hup, fun x hx y hy => by have := (hnr x hx).1; have := (hnr y hy).2; omega⟩ hqd hql2 hqm
    have h7 : Lk words t P (W ++ a :: R) (fun v _ => v ∈ W ++ [a]) := L.mono (fun v x h => ?_) (fun v x k hv h hk => ?_)
    · rw [List.append_assoc]; exact h7
    · rcases h with h | ⟨h, _⟩
      · exact List.mem_append_left _ h
      · exact List.mem_append_right _ (List.mem_singleton.2 h)
    · rcases List.mem_append.1 h with h | h
      · exact .inl h
      · obtain ⟨_, _, _, _, h2, h3⟩ := L.T.next v hv x _ hk
        exact .inr ⟨List.mem_singleton.1 h, by omega⟩
theorem k1_of {words : LL} (hw : Wds words) {t0 : List Nd} {P : List LI} (hB : Blt words words.length t0 P) (hl : t0.length ≤ 481) {K : List Nd → Prop} (hK : ∀ t, t.length = t0.length → Ac words t P → K t) : VC71_k1 K t0 := by
  unfold VC71_k1
  have h00 : ownW words words.length [] = sufW words [] := by
    unfold ownW sufW
    congr 1
    refine List.filter_congr fun q hq => ?_
    rw [List.mem_range] at hq
    have := hw.full _ (getD_mem (d := []) hq)
    rw [Bool.eq_iff_iff]
    simp only [decide_eq_true_eq, List.isSuffixOf_iff_suffix]
    constructor
    · intro h; exact absurd h this
    · intro h; exact List.suffix_nil.1 h
  intro X hX
  have key : ∀ (n : Nat) (W Q : List Nat) (lo : Nat) (queue : LI) (t : List Nd), n + W.length = t0.length → t.length = t0.length → Lk words t P (W ++ Q) (fun v _ => v ∈ W) → Ordr P Q → queue.drop lo = Q.map Int.ofNat → lo + Q.length = queue.length → queue.length ≤ W.length + Q.length → X (lo, Q.length, queue, t) := by
    intro n
    induction n with
    | zero =>
      intro W Q lo queue t hn hN L hO hqd hql hqm
      have hroom := L.room
      rw [List.length_append] at hroom
      have : Q = [] := List.eq_nil_of_length_eq_zero (by omega)
      subst this
      refine hX _ ?_
      show VC71_l1 K lo 0 queue t X
      unfold VC71_l1 VC71_k2
      rw [List.append_nil] at L
      exact ⟨by omega, fun hpos => by simp at hpos, fun _ => hK t hN ⟨L.T, L.has, L.pre, fun k hk h0 => L.lnk k (L.all _ k rfl hk) h0, fun k hk => L.wds k (L.all _ k rfl hk)⟩⟩
    | succ n ih =>
      intro W Q lo queue t hn hN L hO hqd hql hqm
      have hroom := L.room
      rw [List.length_append] at hroom
      refine hX _ ?_
      show VC71_l1 K lo Q.length queue t X
      unfold VC71_l1 VC71_k2
      refine ⟨by omega, fun hpos => ?_, fun hz => ?_⟩
      · simp only [decide_eq_true_eq] at hpos
        refine ⟨⟨by omega, by omega⟩, ⟨by omega, by omega⟩, ?_⟩
        cases Q with
        | nil => simp at hpos
        | cons a R =>
          obtain ⟨h1, h2, h3⟩ := drop_head hqd
          have h1 : queue.getD lo 0 = (a : Int) := h1
          have e2 : (1 : Int).toNat = 1 := rfl
          simp only [e2, List.length_cons, Nat.add_sub_cancel]
          rw [List.length_cons] at hql hqm
          refine l2_loop hw hl h1 hN L hO h2 (by omega) (by omega) fun lo2 queue2 t' R' g1 g2 g3 g4 g5 g6 => ?_
          exact ih (W ++ [a]) R' lo2 queue2 t' (by simp; omega) g1 g2 g3 g4 g5 (by simp; omega)
      · simp only [decide_eq_false_iff_not] at hz
        have : Q = [] := List.eq_nil_of_length_eq_zero (by omega)
        subst this
        rw [List.append_nil] at L
        exact hK t hN ⟨L.T, L.has, L.pre, fun k hk h0 => L.lnk k (L.all _ k rfl hk) h0, fun k hk => L.wds k (L.all _ k rfl hk)⟩
  refine key t0.length [] [0] 0 [0] t0 (by simp) rfl ?_ ⟨by simp, fun a ha b hb => by simp at ha hb; subst ha; subst hb; omega⟩ rfl rfl (by simp)
  refine ⟨hB.T, hB.has, hB.pre, by simp, fun v hv => ?_, by simp, fun v c k hv h => (by cases h), fun k hk i c hi e => ?_, fun k hk h0 => ?_, fun k hk => ?_, fun k hk _ => ⟨hB.fail k hk, hB.own k hk⟩⟩
  · simp at hv; subst hv; exact hB.T.pos
  · simp at hk; subst hk
    rw [hB.T.root] at e
    exact absurd e.symm (by simp)
  · simp at hk; omega
  · simp at hk; subst hk
    rw [hB.own 0 hB.T.pos, hB.T.root]; exact h00
theorem VC71_of {words : LL} (hw : Wds words) {K : List Nd → Prop} (hK : ∀ t P, t.length ≤ 481 → Ac words t P → K t) : VC71 words K :=
  VC71_build hw fun t P hB hl => k1_of hw hB hl fun t' e h => hK t' P (by omega) h
end Dec
