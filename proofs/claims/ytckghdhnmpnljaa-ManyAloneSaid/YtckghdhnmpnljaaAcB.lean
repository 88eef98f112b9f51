/-
Aho and Corasick's nodes as plain data: prefixes, the longest ones that end a word, what a step finds (plain). many.build's first half: all words' prefixes become nodes.
-/
import Derived.Test.YtckghdhnmpnljaaDecSi
import Derived.Test.YtckghdhnmpnljaaLib
import Derived.Test.YtckghdhnmpnljaaMaps
import Derived.Test.YtckghdhnmpnljaaGenMb
set_option linter.unusedSimpArgs false
set_option linter.unusedVariables false
namespace Dec
open Go Go.Proofs
abbrev Nd := (List (Int × Int)) × (Int × (Int × LI))
abbrev zN : Nd := (([] : List (Int × Int)), zT)
structure Trie (t : List Nd) (P : List LI) : Prop where
  len : P.length = t.length
  pos : 0 < t.length
  root : P.getD 0 [] = []
  inj : ∀ i j, i < t.length → j < t.length → P.getD i [] = P.getD j [] → i = j
  next : ∀ i, i < t.length → ∀ c j, mget (t.getD i zN).1 c = some j → ∃ k : Nat, j = (k : Int) ∧ k < t.length ∧ P.getD k [] = P.getD i [] ++ [c] ∧ 0 ≤ c ∧ c < 256
  back : ∀ k, 0 < k → k < t.length → ∃ i c, i < t.length ∧ P.getD k [] = P.getD i [] ++ [c] ∧ mget (t.getD i zN).1 c = some (k : Int)
  long : ∀ i, i < t.length → (t.getD i zN).2.2.1 = ((P.getD i []).length : Int)
theorem snoc_inj {α : Type} {a b : List α} {x y : α} (h : a ++ [x] = b ++ [y]) : a = b ∧ x = y := by
  have := List.append_inj' h rfl
  exact ⟨this.1, by simpa using this.2⟩
section
variable {t : List Nd} {P : List LI} (T : Trie t P)
include T
theorem Trie.go {i k : Nat} {c : Int} (hi : i < t.length) (hk : k < t.length) (e : P.getD k [] = P.getD i [] ++ [c]) : mget (t.getD i zN).1 c = some (k : Int) := by
  have h0 : 0 < k := by
    rcases Nat.eq_zero_or_pos k with e0 | e0
    · subst e0; rw [T.root] at e; exact absurd e.symm (by simp)
    · exact e0
  obtain ⟨i', c', h1, h2, h3⟩ := T.back k h0 hk
  rw [e] at h2
  obtain ⟨e1, e2⟩ := snoc_inj h2
  have := T.inj i i' hi h1 e1
  subst this; subst e2
  exact h3
theorem Trie.none {i k : Nat} {c : Int} (hi : i < t.length) (hk : k < t.length) (h : (mget (t.getD i zN).1 c).isSome = false) : P.getD k [] ≠ P.getD i [] ++ [c] := by
  intro e
  rw [T.go hi hk e] at h
  cases h
theorem Trie.zero {k : Nat} (hk : k < t.length) : P.getD k [] = [] ↔ k = 0 := by
  constructor
  · intro e
    exact T.inj k 0 hk T.pos (by rw [e, T.root])
  · intro e; subst e; exact T.root
end
theorem suf_snoc {u s : LI} {c : Int} (h : u <:+ s ++ [c]) : u = [] ∨ ∃ v, u = v ++ [c] ∧ v <:+ s := by
  obtain ⟨r, hr⟩ := h
  rcases List.eq_nil_or_concat u with e | ⟨v, x, e⟩
  · exact .inl e
  · right
    rw [List.concat_eq_append] at e
    subst e
    rw [← List.append_assoc] at hr
    obtain ⟨h1, h2⟩ := snoc_inj hr
    subst h2
    exact ⟨v, rfl, r, h1⟩
theorem suf_add {u s : LI} (c : Int) (h : u <:+ s) : u ++ [c] <:+ s ++ [c] := by
  obtain ⟨r, hr⟩ := h
  exact ⟨r, by rw [← List.append_assoc, hr]⟩
theorem suf_le {u v s : LI} (h1 : u <:+ s) (h2 : v <:+ s) (h : u.length ≤ v.length) : u <:+ v := List.suffix_of_suffix_length_le h1 h2 h
theorem suf_same {u v : LI} (h : u <:+ v) (hl : v.length ≤ u.length) : u = v := h.eq_of_length_le hl
structure Best (t : List Nd) (P : List LI) (s : LI) (v : Nat) : Prop where
  lt : v < t.length
  suf : P.getD v [] <:+ s
  best : ∀ k, k < t.length → P.getD k [] <:+ s → (P.getD k []).length ≤ (P.getD v []).length
structure FailOk (t : List Nd) (P : List LI) (v f : Nat) : Prop where
  lt : f < t.length
  suf : P.getD f [] <:+ P.getD v []
  less : (P.getD f []).length < (P.getD v []).length
  best : ∀ k, k < t.length → P.getD k [] <:+ P.getD v [] → (P.getD k []).length < (P.getD v []).length → (P.getD k []).length ≤ (P.getD f []).length
def Lnk (t : List Nd) (P : List LI) (v : Nat) : Prop := ∃ f : Nat, (t.getD v zN).2.1 = (f : Int) ∧ FailOk t P v f
theorem step_loop {t : List Nd} {P : List LI} (T : Trie t P) {c : Int} {s : LI} {K : Int → Prop} {B : Int → (Int → Prop) → Prop}
    (hB : ∀ v X, (inIdx v t.length ∧ (((mget ((t.getD (v).toNat (([] : (List (Int × Int))), zT)).1) c).isSome = true → K ((mget ((t.getD (v).toNat (([] : (List (Int × Int))), zT)).1) c).getD (0 : Int))) ∧ ((mget ((t.getD (v).toNat (([] : (List (Int × Int))), zT)).1) c).isSome = false → (((decide (v = (0 : Int))) = true → K (0 : Int)) ∧ ((decide (v = (0 : Int))) = false → (inIdx v t.length ∧ X ((t.getD (v).toNat (([] : (List (Int × Int))), zT)).2.1))))))) → B v X)
    (n : Nat) (hd : ∀ v, v < t.length → 0 < v → (P.getD v []).length ≤ n → Lnk t P v) (hK : ∀ r, Best t P (s ++ [c]) r → K (r : Int)) {v : Nat} (hv : v < t.length) (hn : (P.getD v []).length ≤ n) (h1 : P.getD v [] <:+ s) (h2 : ∀ k, k < t.length → ∀ u, P.getD k [] = u ++ [c] → u <:+ s → u.length ≤ (P.getD v []).length) : Loop B (v : Int) := by
  refine Loop.by (fun x : Int => ∃ v : Nat, x = (v : Int) ∧ v < t.length ∧ (P.getD v []).length ≤ n ∧ P.getD v [] <:+ s ∧ ∀ k, k < t.length → ∀ u, P.getD k [] = u ++ [c] → u <:+ s → u.length ≤ (P.getD v []).length) (fun x => (P.getD x.toNat []).length) ⟨v, rfl, hv, hn, h1, h2⟩ ?_
  rintro x ⟨v, rfl, hv, hn, h1, h2⟩ X hX
  refine hB _ _ ?_
  simp only [Int.toNat_natCast] at hX ⊢
  refine ⟨⟨by omega, by omega⟩, fun hs => ?_, fun hs => ⟨fun e0 => ?_, fun e0 => ⟨⟨by omega, by omega⟩, ?_⟩⟩⟩
  · obtain ⟨j, hj⟩ := Option.isSome_iff_exists.1 hs
    obtain ⟨k, rfl, hk, e, _⟩ := T.next v hv c j hj
    rw [hj]
    refine hK k ⟨hk, by rw [e]; exact suf_add c h1, fun q hq hqs => ?_⟩
    rcases suf_snoc hqs with e1 | ⟨u, e1, hu⟩
    · rw [e1]; simp
    · have := h2 q hq u e1 hu
      rw [e1, e]
      simp only [List.length_append, List.length_singleton]
      omega
  · have e0 : v = 0 := by simp only [decide_eq_true_eq] at e0; omega
    subst e0
    refine hK 0 ⟨hv, by rw [T.root]; exact List.nil_suffix, fun q hq hqs => ?_⟩
    rcases suf_snoc hqs with e1 | ⟨u, e1, hu⟩
    · rw [e1]; simp
    · have h3 := h2 q hq u e1 hu
      rw [T.root] at h3
      have e2 : u = [] := List.eq_nil_of_length_eq_zero (by simpa using h3)
      subst e2
      exact absurd (by rw [e1, T.root]) (T.none hv hq hs)
  · have e0 : 0 < v := by simp only [decide_eq_false_iff_not] at e0; omega
    obtain ⟨f, e, hf⟩ := hd v hv e0 hn
    have e : (t.getD v (([] : (List (Int × Int))), zT)).2.1 = (f : Int) := e
    rw [e]
    have hless := hf.less
    refine hX _ ⟨f, rfl, hf.lt, by omega, hf.suf.trans h1, fun k hk u eu hu => ?_⟩ (by simpa using hless)
    have h3 := h2 k hk u eu hu
    have h4 := suf_le hu h1 h3
    have hne : u.length < (P.getD v []).length := by
      rcases Nat.lt_or_ge u.length (P.getD v []).length with h5 | h5
      · exact h5
      · have := suf_same h4 h5
        subst this
        exact absurd eu (T.none hv hk hs)
    have h0 : 0 < k := by
      rcases Nat.eq_zero_or_pos k with e6 | e6
      · subst e6; rw [T.root] at eu; exact absurd eu.symm (by simp)
      · exact e6
    obtain ⟨i, c', hi, e7, _⟩ := T.back k h0 hk
    rw [eu] at e7
    obtain ⟨e8, _⟩ := snoc_inj e7
    rw [e8] at h4 hne ⊢
    exact hf.best i hi h4 hne
end Dec
namespace Dec
open Go Go.Proofs
section
variable {α : Type} {d : α}
theorem getD_app_lt {l m : List α} {i : Nat} (h : i < l.length) : (l ++ m).getD i d = l.getD i d := by
  rw [getD_lt _ (by simp; omega), getD_lt _ h, List.getElem_append_left h]
theorem getD_app_eq {l : List α} {x : α} {n : Nat} (h : l.length = n) : (l ++ [x]).getD n d = x := by subst h; simp [List.getD]
theorem getD_set_eq {l : List α} {i : Nat} {x : α} (h : i < l.length) : (l.set i x).getD i d = x := by simp [List.getD, h]
theorem getD_set_ne {l : List α} {i j : Nat} {x : α} (h : i ≠ j) : (l.set i x).getD j d = l.getD j d := by simp [List.getD, List.getElem?_set_ne h]
theorem set_getD_self {l : List α} {i : Nat} (h : i < l.length) : l.set i (l.getD i d) = l := by
  rw [getD_lt d h]; exact List.set_getElem_self h
end
theorem Trie.same {t t' : List Nd} {P : List LI} (T : Trie t P) (hl : t'.length = t.length) (h : ∀ i, i < t.length → (t'.getD i zN).1 = (t.getD i zN).1 ∧ (t'.getD i zN).2.2.1 = (t.getD i zN).2.2.1) : Trie t' P := by
  refine ⟨by rw [hl]; exact T.len, by rw [hl]; exact T.pos, T.root, by rw [hl]; exact T.inj, ?_, ?_, ?_⟩
  · rw [hl]
    intro i hi c j e
    rw [(h i hi).1] at e
    exact T.next i hi c j e
  · rw [hl]
    intro k h0 hk
    obtain ⟨i, c, hi, e1, e2⟩ := T.back k h0 hk
    exact ⟨i, c, hi, e1, by rw [(h i hi).1]; exact e2⟩
  · rw [hl]
    intro i hi
    rw [(h i hi).2]
    exact T.long i hi
def addN (t : List Nd) (a : Nat) (c : Int) : List Nd := t.set a (mset (t.getD a zN).1 c (t.length : Int), (t.getD a zN).2) ++ [(([] : List (Int × Int)), ((0 : Int), ((t.getD a zN).2.2.1 + 1, ([] : LI))))]
theorem addN_len (t : List Nd) (a : Nat) (c : Int) : (addN t a c).length = t.length + 1 := by simp [addN]
theorem addN_old {t : List Nd} {a i : Nat} {c : Int} (ha : a < t.length) (hi : i < t.length) : ((addN t a c).getD i zN).1 = (if i = a then mset (t.getD a zN).1 c (t.length : Int) else (t.getD i zN).1) ∧ ((addN t a c).getD i zN).2 = (t.getD i zN).2 := by
  unfold addN
  rw [getD_app_lt (by simpa using hi)]
  by_cases e : i = a
  · subst e; rw [getD_set_eq hi, if_pos rfl]; exact ⟨rfl, rfl⟩
  · rw [getD_set_ne (Ne.symm e), if_neg e]; exact ⟨rfl, rfl⟩
theorem addN_new {t : List Nd} {a : Nat} {c : Int} : (addN t a c).getD t.length zN = (([] : List (Int × Int)), ((0 : Int), ((t.getD a zN).2.2.1 + 1, ([] : LI)))) := by
  unfold addN
  exact getD_app_eq (by simp)
theorem Trie.add {t : List Nd} {P : List LI} (T : Trie t P) {a : Nat} {c : Int} (ha : a < t.length) (hc : 0 ≤ c ∧ c < 256) (hno : (mget (t.getD a zN).1 c).isSome = false) : Trie (addN t a c) (P ++ [P.getD a [] ++ [c]]) := by
  have hl := T.len
  have gP : ∀ i, i < t.length → (P ++ [P.getD a [] ++ [c]]).getD i [] = P.getD i [] := fun i hi => getD_app_lt (by omega)
  have gN : (P ++ [P.getD a [] ++ [c]]).getD t.length [] = P.getD a [] ++ [c] := getD_app_eq hl
  refine ⟨by rw [addN_len, List.length_append, hl]; rfl, by rw [addN_len]; omega, by rw [gP 0 T.pos]; exact T.root, ?_, ?_, ?_, ?_⟩
  · rw [addN_len]
    intro i j hi hj e
    rcases Nat.lt_or_ge i t.length with h1 | h1
    · rcases Nat.lt_or_ge j t.length with h2 | h2
      · rw [gP i h1, gP j h2] at e; exact T.inj i j h1 h2 e
      · have : j = t.length := by omega
        subst this
        rw [gP i h1, gN] at e
        exact absurd e (T.none ha h1 hno)
    · have : i = t.length := by omega
      subst this
      rcases Nat.lt_or_ge j t.length with h2 | h2
      · rw [gP j h2, gN] at e
        exact absurd e.symm (T.none ha h2 hno)
      · omega
  · rw [addN_len]
    intro i hi c' j e
    rcases Nat.lt_or_ge i t.length with h1 | h1
    · rw [(addN_old ha h1).1] at e
      by_cases ei : i = a
      · subst ei
        rw [if_pos rfl, mget_mset] at e
        by_cases ec : c' = c
        · subst ec
          rw [if_pos rfl] at e
          injection e with e
          exact ⟨t.length, e.symm, by omega, by rw [gN, gP i h1], hc⟩
        · rw [if_neg ec] at e
          obtain ⟨k, h2, h3, h4, h5⟩ := T.next i h1 c' j e
          exact ⟨k, h2, by omega, by rw [gP k h3, gP i h1]; exact h4, h5⟩
      · rw [if_neg ei] at e
        obtain ⟨k, h2, h3, h4, h5⟩ := T.next i h1 c' j e
        exact ⟨k, h2, by omega, by rw [gP k h3, gP i h1]; exact h4, h5⟩
    · have : i = t.length := by omega
      subst this
      rw [addN_new] at e
      simp [mget] at e
  · rw [addN_len]
    intro k h0 hk
    rcases Nat.lt_or_ge k t.length with h1 | h1
    · obtain ⟨i, c', hi, e1, e2⟩ := T.back k h0 h1
      refine ⟨i, c', by omega, by rw [gP k h1, gP i hi]; exact e1, ?_⟩
      rw [(addN_old ha hi).1]
      by_cases ei : i = a
      · subst ei
        rw [if_pos rfl, mget_mset]
        have : c' ≠ c := by
          intro ec
          subst ec
          rw [e2] at hno
          cases hno
        rw [if_neg this]; exact e2
      · rw [if_neg ei]; exact e2
    · have : k = t.length := by omega
      subst this
      refine ⟨a, c, by omega, by rw [gN, gP a ha], ?_⟩
      rw [(addN_old ha ha).1, if_pos rfl, mget_mset, if_pos rfl]
  · rw [addN_len]
    intro i hi
    rcases Nat.lt_or_ge i t.length with h1 | h1
    · rw [(addN_old ha h1).2, gP i h1]; exact T.long i h1
    · have : i = t.length := by omega
      subst this
      rw [addN_new, gN]
      show (t.getD a zN).2.2.1 + 1 = _
      rw [T.long a ha, List.length_append]
      rfl
def ownW (words : LL) (m : Nat) (u : LI) : LI := ((List.range m).filter fun q => decide (words.getD q [] = u)).map Int.ofNat
structure Blt (words : LL) (m : Nat) (t : List Nd) (P : List LI) : Prop where
  T : Trie t P
  fail : ∀ k, k < t.length → (t.getD k zN).2.1 = 0
  pre : ∀ k, 0 < k → k < t.length → ∃ w ∈ words, P.getD k [] <+: w
  own : ∀ k, k < t.length → (t.getD k zN).2.2.2 = ownW words m (P.getD k [])
  has : ∀ q, q < m → ∃ k, k < t.length ∧ P.getD k [] = words.getD q []
theorem ownW_succ (words : LL) (m : Nat) (u : LI) : ownW words (m + 1) u = if words.getD m [] = u then ownW words m u ++ [(m : Int)] else ownW words m u := by
  unfold ownW
  rw [List.range_succ, List.filter_append, List.map_append]
  by_cases h : words.getD m [] = u
  · rw [if_pos h, List.filter_cons_of_pos (by simp only [decide_eq_true_eq]; exact h)]; rfl
  · rw [if_neg h, List.filter_cons_of_neg (by simp only [decide_eq_true_eq]; exact h)]; exact List.append_nil _
structure Wds (words : LL) : Prop where
  few : words.length ≤ 8
  short : ∀ w ∈ words, w.length ≤ 60
  full : ∀ w ∈ words, w ≠ []
  byte : ∀ w ∈ words, ∀ c ∈ w, 0 ≤ c ∧ c < 256
theorem word_loop {words : LL} (hw : Wds words) {m : Nat} (hm : m < words.length) {X4 : Int × List Nd → Prop} {t0 : List Nd} {P0 : List LI} (h0 : Blt words m t0 P0) (hlen : t0.length ≤ 1 + 60 * m)
    (hK : ∀ (a : Nat) (t : List Nd) (P : List LI), Blt words m t P → t.length ≤ 1 + 60 * (m + 1) → a < t.length → P.getD a [] = words.getD m [] → VC71_k7 (m : Int) X4 (a : Int) t) :
    Loop (σ := Int × Int × List Nd) (fun s X => VC71_l5 words (m : Int) X4 s.1 s.2.1 s.2.2 X) ((0 : Int), (0 : Int), t0) := by
  have hwm : words.getD m [] ∈ words := getD_mem hm
  have hsh := hw.short _ hwm
  have hfew := hw.few
  refine Loop.by (fun s : Int × Int × List Nd => ∃ (a i : Nat) (P : List LI), s.1 = (a : Int) ∧ s.2.1 = (i : Int) ∧ Blt words m s.2.2 P ∧ a < s.2.2.length ∧ i ≤ (words.getD m []).length ∧ P.getD a [] = (words.getD m []).take i ∧ s.2.2.length ≤ 1 + 60 * m + i) (fun s => (words.getD m []).length - s.2.1.toNat)
    ⟨0, 0, P0, rfl, rfl, h0, h0.T.pos, Nat.zero_le _, by rw [h0.T.root, List.take_zero], by simpa using hlen⟩ ?_
  rintro ⟨av, iv, t⟩ ⟨a, i, P, ea, ei, hB, ha, hi, hPa, hl⟩ X hX
  dsimp only at ea ei hB ha hl hX ⊢
  subst ea; subst ei
  have T := hB.T
  unfold VC71_l5 VC71_k8
  simp only [Int.toNat_natCast]
  refine ⟨fun hlt => ?_, fun hge => ?_⟩
  · simp only [decide_eq_true_eq] at hlt
    have hi2 : i < (words.getD m []).length := by omega
    have hcm : (words.getD m []).getD i 0 ∈ words.getD m [] := getD_mem hi2
    have hcb := hw.byte _ hwm _ hcm
    have htk : (words.getD m []).take (i + 1) = (words.getD m []).take i ++ [(words.getD m []).getD i 0] := by
      rw [List.take_succ_eq_append_getElem hi2, getD_lt _ hi2]
    have hai : inIdx (a : Int) t.length := ⟨by omega, by omega⟩
    have hin : InR ((i : Int) + 1) := by unfold InR; omega
    refine ⟨⟨by omega, by omega⟩, hai, fun hno => ⟨hai, ?_⟩, fun hso => ⟨hin, ?_⟩⟩
    · have hno : (mget (t.getD a zN).1 ((words.getD m []).getD i 0)).isSome = false := by simpa using hno
      have hT2 := T.add ha hcb hno
      have hlong := T.long a ha
      have hPl : (P.getD a []).length ≤ 60 := by rw [hPa, List.length_take]; omega
      have e1 : (t.set a ((mset (t.getD a zN).1 ((words.getD m []).getD i 0) (t.length : Int)), (t.getD a zN).2)).getD a zN = ((mset (t.getD a zN).1 ((words.getD m []).getD i 0) (t.length : Int)), (t.getD a zN).2) := getD_set_eq ha
      have e1' : (t.set a ((mset (t.getD a (([] : List (Int × Int)), zT)).1 ((words.getD m ([] : LI)).getD i (0 : Int)) (t.length : Int)), (t.getD a (([] : List (Int × Int)), zT)).2)).getD a (([] : List (Int × Int)), zT) = ((mset (t.getD a zN).1 ((words.getD m []).getD i 0) (t.length : Int)), (t.getD a zN).2) := e1
      rw [e1']
      refine ⟨⟨by omega, by simp; omega⟩, by unfold InR; dsimp only; rw [hlong]; omega, by simp only [roomN, roomW, List.length_set, List.length_singleton]; omega, hin, ?_⟩
      refine hX (_, _, addN t a ((words.getD m []).getD i 0)) ⟨t.length, i + 1, P ++ [P.getD a [] ++ [(words.getD m []).getD i 0]], rfl, by simp, ?_, by rw [addN_len]; omega, by omega, ?_, by rw [addN_len]; omega⟩ (by simp only [Int.toNat_natCast]; omega)
      · have hl2 := T.len
        have gP : ∀ k, k < t.length → (P ++ [P.getD a [] ++ [(words.getD m []).getD i 0]]).getD k [] = P.getD k [] := fun k hk => getD_app_lt (by omega)
        have gN : (P ++ [P.getD a [] ++ [(words.getD m []).getD i 0]]).getD t.length [] = P.getD a [] ++ [(words.getD m []).getD i 0] := getD_app_eq hl2
        refine ⟨hT2, fun k hk => ?_, fun k h0 hk => ?_, fun k hk => ?_, fun q hq => ?_⟩
        · rw [addN_len] at hk
          rcases Nat.lt_or_ge k t.length with h1 | h1
          · rw [(addN_old ha h1).2]; exact hB.fail k h1
          · rw [show k = t.length by omega, addN_new]
        · rw [addN_len] at hk
          rcases Nat.lt_or_ge k t.length with h1 | h1
          · rw [gP k h1]; exact hB.pre k h0 h1
          · rw [show k = t.length by omega, gN, hPa, ← htk]
            exact ⟨_, hwm, List.take_prefix _ _⟩
        · rw [addN_len] at hk
          rcases Nat.lt_or_ge k t.length with h1 | h1
          · rw [(addN_old ha h1).2, gP k h1]; exact hB.own k h1
          · rw [show k = t.length by omega, addN_new, gN]
            show ([] : LI) = _
            unfold ownW
            rw [List.filter_eq_nil_iff.2, List.map_nil]
            intro q hq
            rw [List.mem_range] at hq
            obtain ⟨k', hk', e⟩ := hB.has q hq
            rw [← e]
            simp only [decide_eq_true_eq]
            exact T.none ha hk' hno
        · obtain ⟨k, hk, e⟩ := hB.has q hq
          exact ⟨k, by rw [addN_len]; omega, by rw [gP k hk]; exact e⟩
      · rw [getD_app_eq T.len, hPa, htk]
    · have hso : (mget (t.getD a zN).1 ((words.getD m []).getD i 0)).isSome = true := by simpa using hso
      obtain ⟨j, hj⟩ := Option.isSome_iff_exists.1 hso
      obtain ⟨k, rfl, hk, e, _⟩ := T.next a ha _ j hj
      have hj' : (mget ((t.getD a (([] : List (Int × Int)), zT)).1) ((words.getD m ([] : LI)).getD i (0 : Int))).getD (0 : Int) = (k : Int) := by
        show (mget (t.getD a zN).1 ((words.getD m []).getD i 0)).getD 0 = _
        rw [hj]; rfl
      rw [hj']
      exact hX _ ⟨k, i + 1, P, rfl, by simp, hB, hk, by omega, by rw [e, hPa, htk], by dsimp only; omega⟩ (by simp only [Int.toNat_natCast]; omega)
  · simp only [decide_eq_false_iff_not] at hge
    have : i = (words.getD m []).length := by omega
    subst this
    rw [List.take_length] at hPa
    exact hK a t P hB (by omega) ha hPa
theorem VC71_build {words : LL} (hw : Wds words) {K : List Nd → Prop} (hK : ∀ t P, Blt words words.length t P → t.length ≤ 481 → VC71_k1 K t) : VC71 words K := by
  unfold VC71
  have hfew := hw.few
  refine Loop.by (fun s : Int × List Nd => ∃ (m : Nat) (P : List LI), s.1 = (m : Int) ∧ m ≤ words.length ∧ Blt words m s.2 P ∧ s.2.length ≤ 1 + 60 * m) (fun s => words.length - s.1.toNat) ⟨0, [[]], rfl, Nat.zero_le _, ?_, by simp⟩ ?_
  · refine ⟨⟨rfl, by simp, rfl, fun i j hi hj _ => by simp at hi hj; omega, fun i hi c j e => ?_, fun k h0 hk => by simp at hk; omega, fun i hi => ?_⟩, fun k hk => ?_, fun k h0 hk => by simp at hk; omega, fun k hk => ?_, fun q hq => by omega⟩
    · have : i = 0 := by simp at hi; omega
      subst this
      simp [List.getD, mget] at e
    · have : i = 0 := by simp at hi; omega
      subst this; rfl
    · have : k = 0 := by simp at hk; omega
      subst this; rfl
    · have : k = 0 := by simp at hk; omega
      subst this; rfl
  · rintro ⟨mv, t⟩ ⟨m, P, em, hm, hB, hl⟩ X hX
    dsimp only at em hB hl hX ⊢
    subst em
    unfold VC71_l4
    refine ⟨fun hlt => ?_, fun hge => ?_⟩
    · simp only [decide_eq_true_eq] at hlt
      have hm2 : m < words.length := by omega
      refine ⟨⟨by omega, by omega⟩, word_loop hw hm2 hB hl fun a t P hB hl ha hPa => ?_⟩
      unfold VC71_k7
      simp only [Int.toNat_natCast]
      have hai : inIdx (a : Int) t.length := ⟨by omega, by omega⟩
      have hown := hB.own a ha
      have hol : (t.getD a zN).2.2.2.length ≤ 8 := by
        rw [hown]; unfold ownW
        rw [List.length_map]
        have := List.length_filter_le (fun q => decide (words.getD q [] = P.getD a [])) (List.range m)
        rw [List.length_range] at this
        omega
      refine ⟨hai, by simp only [roomN, roomW, List.length_singleton]; have : (t.getD a (([] : List (Int × Int)), zT)).2.2.2.length ≤ 8 := hol; omega, hai, by unfold InR; omega, ?_⟩
      refine hX (_, t.set a ((t.getD a zN).1, ((t.getD a zN).2.1, ((t.getD a zN).2.2.1, ((t.getD a zN).2.2.2 ++ [(m : Int)]))))) ⟨m + 1, P, by simp, by omega, ?_, by simp; omega⟩ (by simp only [Int.toNat_natCast]; omega)
      dsimp only
      have g : ∀ k, k < t.length → (t.set a ((t.getD a zN).1, ((t.getD a zN).2.1, ((t.getD a zN).2.2.1, ((t.getD a zN).2.2.2 ++ [(m : Int)]))))).getD k zN = if k = a then ((t.getD a zN).1, ((t.getD a zN).2.1, ((t.getD a zN).2.2.1, ((t.getD a zN).2.2.2 ++ [(m : Int)])))) else t.getD k zN := by
        intro k hk
        by_cases e : k = a
        · subst e; rw [getD_set_eq hk, if_pos rfl]
        · rw [getD_set_ne (Ne.symm e), if_neg e]
      refine ⟨hB.T.same (by simp) fun i hi => ?_, fun k hk => ?_, fun k h0 hk => ?_, fun k hk => ?_, fun q hq => ?_⟩
      · rw [g i hi]
        by_cases e : i = a
        · subst e; rw [if_pos rfl]; exact ⟨rfl, rfl⟩
        · rw [if_neg e]; exact ⟨rfl, rfl⟩
      · rw [List.length_set] at hk
        rw [g k hk]
        by_cases e : k = a
        · subst e; rw [if_pos rfl]; exact hB.fail k hk
        · rw [if_neg e]; exact hB.fail k hk
      · rw [List.length_set] at hk
        exact hB.pre k h0 hk
      · rw [List.length_set] at hk
        rw [g k hk, ownW_succ]
        by_cases e : k = a
        · subst e; rw [if_pos rfl, if_pos hPa.symm, ← hB.own k hk]
        · rw [if_neg e, if_neg fun h => e (hB.T.inj k a hk ha (by rw [hPa, h]))]
          exact hB.own k hk
      · rw [List.length_set]
        by_cases e : q = m
        · subst e; exact ⟨a, ha, hPa⟩
        · exact hB.has q (by omega)
    · simp only [decide_eq_false_iff_not] at hge
      have : m = words.length := by omega
      subst this
      exact hK t P hB (by omega)
end Dec
