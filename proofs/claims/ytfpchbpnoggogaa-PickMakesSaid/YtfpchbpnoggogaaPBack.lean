/-
  Trees of steps over a word: what grow makes, and where they stand (plain).
-/
import Derived.Test.YtfpchbpnoggogaaGro
set_option linter.unusedSimpArgs false
set_option linter.unusedVariables false
namespace Dec
open Go Go.Proofs Cfg
def RowOf (S : Int → Nat → Nat → List Int → Tree → Prop) : List Int → Nat → List Nat → List Int → List Tree → Prop
  | [], _, es, a, ts => es = [] ∧ a = [] ∧ ts = []
  | s :: l, i, es, a, ts => ∃ e es' a1 a2 t ts', es = e :: es' ∧ a = a1 ++ a2 ∧ ts = t :: ts' ∧ S s i e a1 t ∧ RowOf S l e es' a2 ts'
def TreeOf (g : Gr) (w : List Int) : Nat → Int → Nat → Nat → List Int → Tree → Prop
  | 0, _, _, _, _, _ => False
  | f + 1, s, i, j, a, t => t.word.length = j - i ∧ i < j ∧ ((s < g.1 ∧ j = i + 1 ∧ w[i]? = some s ∧ a = [] ∧ t.rule = -1) ∨ (¬ s < g.1 ∧ ∃ (k : Nat) (es : List Nat) (a' : List Int), k < g.2.2.2.length ∧ (g.2.2.2.getD k (0, [])).1 = s - g.1 ∧ es ∈ cutsL (g.2.2.2.getD k (0, [])).2.length i j ∧ a = (k : Int) :: a' ∧ t.rule = (k : Int) ∧ RowOf (TreeOf g w f) (g.2.2.2.getD k (0, [])).2 i es a' t.kids))
section
variable {g : Gr} {w : List Int}
theorem row_mem {S : Int → Nat → Nat → List Int → Tree → Prop} {T : Int → Nat → Nat → List (List Int)} {N : Nat} (hS : ∀ s i j a t, S s i j a t → j ≤ N → a ∈ T s i j) : ∀ (l : List Int) (i : Nat) (es : List Nat) (a : List Int) (ts : List Tree), RowOf S l i es a ts → Chain N i es → a ∈ prodT T l i es
  | [], i, es, a, ts, h, _ => by
    obtain ⟨_, rfl, _⟩ := h
    simp [prodT]
  | s :: l, i, es, a, ts, h, hc => by
    obtain ⟨e, es', a1, a2, t, ts', rfl, rfl, rfl, h1, h2⟩ := h
    simp only [prodT, List.mem_flatMap, List.mem_map]
    exact ⟨a1, hS s i e a1 t h1 hc.2.1, a2, row_mem hS l e es' a2 ts' h2 hc.2.2, rfl⟩
theorem mem_blk (hp : Prop1 g) {s : Int} (hs : ¬ s < g.1) {i j : Nat} (hj : j ≤ w.length) {k : Nat} (hk : k < g.2.2.2.length) (hl : (g.2.2.2.getD k (0, [])).1 = s - g.1) {a : List Int} (ha : a ∈ rowT (SG g w) (g.2.2.2.getD k (0, [])).2 i j) : (k : Int) :: a ∈ SG g w s i j := by
  rw [sg_blk hp hs hj]
  unfold from_
  rw [List.drop_zero]
  refine List.mem_flatMap.2 ⟨k, List.mem_range.2 hk, ?_⟩
  unfold blk
  rw [if_pos hl]
  exact List.mem_map.2 ⟨a, ha, rfl⟩
theorem tree_mem (hp : Prop1 g) : ∀ (f : Nat) (s : Int) (i j : Nat) (a : List Int) (t : Tree), TreeOf g w f s i j a t → j ≤ w.length → a ∈ SG g w s i j
  | 0, _, _, _, _, _, h, _ => h.elim
  | f + 1, s, i, j, a, t, ⟨_, hij, h⟩, hj => by
    rcases h with ⟨hs, rfl, hw, rfl, _⟩ | ⟨hs, k, es, a', hk, hl, he, rfl, _, hr⟩
    · unfold SG
      rw [sgnT_sym hs, if_pos ⟨rfl, hw⟩]
      simp
    · refine mem_blk hp hs hj hk hl ?_
      unfold rowT
      exact List.mem_flatMap.2 ⟨es, he, row_mem (N := w.length) (fun s i j a t h hj => tree_mem hp f s i j a t h hj) _ _ _ _ _ hr ((cuts_sc _ _ _ _ hij he).chain hj)⟩
def At (w : List Int) (i : Nat) (u : List Int) : Prop := i + u.length ≤ w.length ∧ ∀ x, x < u.length → w[i + x]? = u[x]?
theorem At.split {i : Nat} {u v : List Int} (h : At w i (u ++ v)) : At w i u ∧ At w (i + u.length) v := by
  obtain ⟨h1, h2⟩ := h
  rw [List.length_append] at h1
  refine ⟨⟨by omega, fun x hx => ?_⟩, by omega, fun x hx => ?_⟩
  · rw [h2 x (by rw [List.length_append]; omega), List.getElem?_append_left hx]
  · have := h2 (u.length + x) (by rw [List.length_append]; omega)
    rw [List.getElem?_append_right (by omega), Nat.add_sub_cancel_left] at this
    rw [Nat.add_assoc]
    exact this
theorem cuts_cons {n m i j : Nat} {es : List Nat} (h1 : i < m) (h2 : m < j) (h : es ∈ cutsL (n + 1) m j) : m :: es ∈ cutsL (n + 2) i j := by
  rw [cutsL_succ, List.mem_flatMap]
  refine ⟨m, List.mem_map.2 ⟨m - (i + 1), List.mem_range.2 (by omega), by omega⟩, List.mem_map.2 ⟨es, h, rfl⟩⟩
theorem growL_tree {S : Int → List Int → Option (Tree × List Int)} {T : Int → Nat → Nat → List Int → Tree → Prop}
    (hS : ∀ s st t r i, S s st = some (t, r) → At w i t.word → ∃ a, st = a ++ r ∧ T s i (i + t.word.length) a t ∧ 0 < t.word.length) :
    ∀ (l : List Int) (st : List Int) (ts : List Tree) (wd r : List Int) (i : Nat), l ≠ [] → growL S l st = some (ts, wd, r) → At w i wd → ∃ es a, st = a ++ r ∧ es ∈ cutsL l.length i (i + wd.length) ∧ RowOf T l i es a ts ∧ 0 < wd.length
  | [], _, _, _, _, _, h, _, _ => absurd rfl h
  | [s], st, ts, wd, r, i, _, h, hat => by
    rw [growL] at h
    cases h1 : S s st with
    | none => rw [h1] at h; cases h
    | some z =>
      rw [h1] at h
      simp only [Option.bind_some, growL] at h
      injection h with h; injection h with h2 h3; injection h3 with h3 h4
      subst h2 h3 h4
      rw [List.append_nil] at hat ⊢
      obtain ⟨a, e, ht, hpos⟩ := hS s st z.1 z.2 i h1 hat
      exact ⟨[i + z.1.word.length], a, e, by simp [cutsL], ⟨_, [], a, [], z.1, [], rfl, by simp, rfl, ht, rfl, rfl, rfl⟩, hpos⟩
  | s :: s' :: l, st, ts, wd, r, i, _, h, hat => by
    rw [growL] at h
    cases h1 : S s st with
    | none => rw [h1] at h; cases h
    | some z =>
      rw [h1] at h
      simp only [Option.bind_some] at h
      cases h2 : growL S (s' :: l) z.2 with
      | none => rw [h2] at h; cases h
      | some q =>
        rw [h2] at h
        simp only [Option.bind_some] at h
        injection h with h; injection h with h3 h4; injection h4 with h4 h5
        subst h3 h4 h5
        obtain ⟨ha1, ha2⟩ := hat.split
        obtain ⟨a, e, ht, hpos⟩ := hS s st z.1 z.2 i h1 ha1
        obtain ⟨es, b, e2, hes, hrow, hpos2⟩ := growL_tree hS (s' :: l) z.2 q.1 q.2.1 q.2.2 (i + z.1.word.length) (by simp) h2 ha2
        rw [Nat.add_assoc, ← List.length_append] at hes
        refine ⟨(i + z.1.word.length) :: es, a ++ b, by rw [e, e2, List.append_assoc], cuts_cons (by omega) (by rw [List.length_append]; omega) hes, ⟨_, es, a, b, z.1, q.1, rfl, rfl, rfl, ht, hrow⟩, by rw [List.length_append]; omega⟩
theorem gro_tree (hp : Prop1 g) : ∀ (f : Nat) (s : Int) (st : List Int) (t : Tree) (r : List Int) (i : Nat), growF g f s st = some (t, r) → At w i t.word → ∃ a, st = a ++ r ∧ TreeOf g w f s i (i + t.word.length) a t ∧ 0 < t.word.length
  | 0, _, _, _, _, _, h, _ => by cases h
  | f + 1, s, st, t, r, i, h, hat => by
    by_cases hs : s < g.1
    · rw [growF_sym hs] at h
      injection h with h; injection h with h1 h2
      subst h1 h2
      refine ⟨[], rfl, ⟨by show (1 : Nat) = _; simp [Tree.word], by simp [Tree.word], .inl ⟨hs, rfl, ?_, rfl, rfl⟩⟩, by simp [Tree.word]⟩
      have := hat.2 0 (by simp [Tree.word])
      simpa [Tree.word] using this
    · cases st with
      | nil => rw [growF_nil hs] at h; cases h
      | cons k st =>
        rw [growF_cons hs] at h
        split at h
        · rename_i hk
          obtain ⟨hk0, hk1, hk2⟩ := hk
          obtain ⟨n, rfl⟩ := Int.eq_ofNat_of_zero_le hk0
          simp only [Int.toNat_natCast] at hk2 h
          cases h1 : growL (growF g f) (g.2.2.2.getD n (0, [])).2 st with
          | none => rw [h1] at h; cases h
          | some y =>
            rw [h1] at h
            simp only [Option.bind_some] at h
            injection h with h; injection h with h2 h3
            subst h2 h3
            have hn : n < g.2.2.2.length := by omega
            obtain ⟨hne, _⟩ := hp _ (getD_mem (d := ((0 : Int), ([] : List Int))) hn)
            obtain ⟨es, a, e, hes, hrow, hpos⟩ := growL_tree (T := TreeOf g w f) (fun s st t r i h hat => gro_tree hp f s st t r i h hat) _ st y.1 y.2.1 y.2.2 i hne h1 hat
            refine ⟨(n : Int) :: a, by rw [e]; rfl, ⟨by simp [Tree.word], by simp only [Tree.word]; omega, .inr ⟨hs, n, es, a, hn, hk2, hes, rfl, rfl, hrow⟩⟩, hpos⟩
        · cases h
theorem At.whole : At w 0 w := ⟨by omega, fun x _ => by rw [Nat.zero_add]⟩
end
end Dec
namespace Dec
open Go Go.Proofs Cfg
theorem RowOf.len {S : Int → Nat → Nat → List Int → Tree → Prop} : ∀ {l : List Int} {i : Nat} {es : List Nat} {a : List Int} {ts : List Tree}, RowOf S l i es a ts → ts.length = l.length
  | [], _, _, _, _, h => by rw [h.2.2]; rfl
  | s :: l, _, _, _, _, ⟨e, es', a1, a2, t, ts', _, _, h3, _, h5⟩ => by rw [h3, List.length_cons, List.length_cons, h5.len]
theorem at_drop {α : Type} {l : List α} {v : Nat} {x : α} {r : List α} (h : l.drop v = x :: r) (d : α) : v < l.length ∧ l.getD v d = x ∧ l.drop (v + 1) = r := by
  have hv : v < l.length := by
    refine Nat.lt_of_not_le fun hle => ?_
    rw [List.drop_eq_nil_of_le hle] at h
    cases h
  rw [List.drop_eq_getElem_cons hv] at h
  injection h with h1 h2
  exact ⟨hv, by rw [getD_lt _ hv, h1], h2⟩
theorem mem_pos {l : List (List Int)} {a : List Int} (h : a ∈ l) : ∃ q, q < l.length ∧ l.getD q [] = a := by
  obtain ⟨q, hq, e⟩ := List.mem_iff_getElem.1 h
  exact ⟨q, hq, by rw [getD_lt _ hq, e]⟩
theorem ints_inj {a b : List Nat} : ints a = ints b ↔ a = b := by
  constructor
  · intro h
    refine List.ext_getElem? fun x => ?_
    have := congrArg (fun l : List Int => l[x]?) h
    simp only [ints, List.getElem?_map] at this
    cases h1 : a[x]? with
    | none => cases h2 : b[x]? with
      | none => rfl
      | some v => rw [h1, h2] at this; simp at this
    | some u => cases h2 : b[x]? with
      | none => rw [h1, h2] at this; simp at this
      | some v => rw [h1, h2] at this; injection this with this; exact congrArg some (Int.ofNat.inj this)
  · intro h; rw [h]
theorem VC70_of {a b : List Int} (hl : a.length ≤ 1000) {K : Bool → Prop} (h : K (decide (a = b))) : VC70 a b K := by
  unfold VC70
  refine ⟨fun hne => ?_, fun heq => ?_⟩
  · have : a ≠ b := by
      intro e
      simp only [Bool.not_eq_true', decide_eq_false_iff_not] at hne
      exact hne (by rw [e])
    rwa [decide_eq_false this] at h
  · have hlen : a.length = b.length := by
      simp only [Bool.not_eq_false', decide_eq_true_eq] at heq
      omega
    refine loop_count a.length (fun i => ∀ j, j < i → a.getD j 0 = b.getD j 0) (by intro j hj; omega) ?_
    intro i hi hP X hX
    unfold VC70_l1
    simp only [Int.toNat_natCast]
    refine ⟨fun hb => ?_, fun hb => ?_⟩
    · simp only [decide_eq_true_eq] at hb
      refine ⟨⟨by omega, by omega⟩, ⟨by omega, by omega⟩, fun hd => ?_, fun hs => ⟨by unfold InR; omega, hX (by omega) fun j hj => ?_⟩⟩
      · simp only [Bool.not_eq_true', decide_eq_false_iff_not] at hd
        have : a ≠ b := fun e => hd (by rw [e])
        rwa [decide_eq_false this] at h
      · simp only [Bool.not_eq_false', decide_eq_true_eq] at hs
        by_cases e : j < i
        · exact hP j e
        · have : j = i := by omega
          subst this
          exact hs
    · simp only [decide_eq_false_iff_not] at hb
      unfold VC70_k1
      have : a = b := ext_getD 0 hlen fun j hj => hP j (by omega)
      rwa [decide_eq_true this] at h
section
variable {g : Gr} {w : List Int}
theorem TreeOf.wd : ∀ {f : Nat} {s : Int} {i j : Nat} {a : List Int} {t : Tree}, TreeOf g w f s i j a t → t.word.length = j - i ∧ i < j
  | 0, _, _, _, _, _, h => h.elim
  | _ + 1, _, _, _, _, _, h => ⟨h.1, h.2.1⟩
def preB (g : Gr) (w : List Int) (s : Int) (i j k : Nat) : List (List Int) := ((List.range g.2.2.2.length).take k).flatMap (blk g w s i j)
theorem pre_from (hp : Prop1 g) {s : Int} (hs : ¬ s < g.1) {i j : Nat} (hj : j ≤ w.length) (k : Nat) : SG g w s i j = preB g w s i j k ++ from_ g w s i j k := by
  rw [sg_blk hp hs hj]
  unfold preB from_
  rw [List.drop_zero, ← List.flatMap_append, List.take_append_drop]
theorem preB_succ {s : Int} {i j k : Nat} (hk : k < g.2.2.2.length) : preB g w s i j (k + 1) = preB g w s i j k ++ blk g w s i j k := by
  unfold preB
  rw [List.take_add_one, List.getElem?_eq_getElem (by simpa using hk), List.getElem_range]
  simp
theorem blk_len {s : Int} {i j k : Nat} : (blk g w s i j k).length = if (g.2.2.2.getD k (0, [])).1 = s - g.1 then cntR g w (g.2.2.2.getD k (0, [])).2 i j else 0 := by
  unfold blk
  split
  · rw [List.length_map]; rfl
  · rfl
theorem pos_final (hp : Prop1 g) {s : Int} (hs : ¬ s < g.1) {i j : Nat} (hj : j ≤ w.length) {k : Nat} (hk : k < g.2.2.2.length) (hl : (g.2.2.2.getD k (0, [])).1 = s - g.1) {L : List Int} (hL : (g.2.2.2.getD k (0, [])).2 = L) {pre post : List (List Nat)} {es : List Nat} (hc : cutsL L.length i j = pre ++ es :: post) :
    (preB g w s i j k).length + (pre.flatMap (prodT (SG g w) L i)).length + (prodT (SG g w) L i es).length ≤ cntS g w s i j ∧
    ∀ q, q < (prodT (SG g w) L i es).length → (SG g w s i j).getD ((preB g w s i j k).length + (pre.flatMap (prodT (SG g w) L i)).length + q) [] = (k : Int) :: (prodT (SG g w) L i es).getD q [] := by
  have e : SG g w s i j = preB g w s i j k ++ (((pre.flatMap (prodT (SG g w) L i)) ++ ((prodT (SG g w) L i es) ++ post.flatMap (prodT (SG g w) L i))).map ((k : Int) :: ·) ++ from_ g w s i j (k + 1)) := by
    rw [pre_from hp hs hj k, from_succ hk]
    congr 1
    congr 1
    unfold blk rowT
    rw [if_pos hl, hL, hc, List.flatMap_append, List.flatMap_cons]
  unfold cntS
  constructor
  · rw [e]
    simp only [List.length_append, List.length_map]
    omega
  · intro q hq
    rw [e, getD_append_r (by omega), getD_append_l (by simp only [List.length_append, List.length_map]; omega), getD_map' (d := []) (by simp only [List.length_append]; omega)]
    congr 1
    rw [getD_append_r (by omega), getD_append_l (by omega)]
    congr 1
    omega
def PlI (g : Gr) (w : List Int) (B : Nat) (L : List Int) (i j : Nat) (es : List Nat) (l : List (List Nat)) (n : Int) (kn : Kn) : Prop :=
  KnOk g w kn ∧ ∃ pre, pre ++ l = cutsL L.length i j ∧ es ∉ pre ∧ n = ((B + (pre.flatMap (prodT (SG g w) L i)).length : Nat) : Int)
def PlF (g : Gr) (w : List Int) (B : Nat) (L : List Int) (i j : Nat) (es : List Nat) (k n : Int) (kn : Kn) : Prop :=
  k = 6 ∧ KnOk g w kn ∧ ∃ pre post, cutsL L.length i j = pre ++ es :: post ∧ n = ((B + (pre.flatMap (prodT (SG g w) L i)).length : Nat) : Int)
set_option maxHeartbeats 4000000 in
theorem place_of (hg : GoodG g) (hw : GoodW g.1 w) (hp : Prop1 g) : ∀ (f : Nat) (s : Int) (i j : Nat) (a : List Int) (t : Tree) (kn : Kn) (K : Int × Kn → Prop), TreeOf g w f s i j a t → j ≤ w.length → 0 ≤ s ∧ s < g.1 + g.2.1 → (cntS g w s i j : Int) ≤ 1099511627776 → KnOk g w kn →
    (∀ (p : Nat) kn', KnOk g w kn' → p < cntS g w s i j → (SG g w s i j).getD p [] = a → K ((p : Int), kn')) → VCc71_it g.1 g.2.1 g.2.2.1 g.2.2.2 w f t.rule t.kids t.word (i : Int) (j : Int) kn K := by
  intro f
  induction f with
  | zero => intro s i j a t kn K h; exact h.elim
  | succ f ih =>
    intro s i j a t kn K ht hj hsr hcap hk hK
    obtain ⟨hwl, hij, ht⟩ := ht
    have hk3 := hg.k
    have hn5 := hg.n
    have hfew := hg.few
    have hw12 := hw.1
    show VCc71 g.1 g.2.1 g.2.2.1 g.2.2.2 w (VCc71_it g.1 g.2.1 g.2.2.1 g.2.2.2 w f) t.rule t.kids t.word (i : Int) (j : Int) kn K
    unfold VCc71
    rcases ht with ⟨hs, rfl, hws, rfl, hrule⟩ | ⟨hs, k, es, a', hkl, hleft, hes, rfl, hrule, hrow⟩
    · rw [hrule]
      refine ⟨fun _ => ?_, fun h => (by simp at h)⟩
      have e : SG g w s i (i + 1) = [[]] := by unfold SG; rw [sgnT_sym hs, if_pos ⟨rfl, hws⟩]
      have := hK 0 kn hk (by unfold cntS; rw [e]; simp) (by rw [e]; rfl)
      exact this
    · rw [hrule]
      have hmem : g.2.2.2.getD k (0, []) ∈ g.2.2.2 := getD_mem hkl
      have hshort := hg.short _ hmem
      have hright := hg.right _ hmem
      obtain ⟨hne, hlone⟩ := hp _ hmem
      have hpos : 0 < (g.2.2.2.getD k (0, [])).2.length := List.length_pos_iff.2 hne
      obtain ⟨L, hL⟩ : ∃ L, (g.2.2.2.getD k (0, [])).2 = L := ⟨_, rfl⟩
      have hsc := cuts_sc _ i j es hij hes
      have hesl := (cutsL_mem _ _ _ _ hes).1
      rw [hL] at hshort hright hpos hes hesl hrow
      have hkidl := hrow.len
      refine ⟨fun h => (by simp only [decide_eq_true_eq] at h; omega), fun _ => ⟨⟨by omega, by omega⟩, ?_⟩⟩
      -- the own ends
      refine Loop.by (fun q : Int × Int × List Int => ∃ v av : Nat, ∃ ar, q.2.1 = (v : Int) ∧ v ≤ L.length ∧ q.1 = (av : Int) ∧ q.2.2 = ints (es.take v) ∧ SC av (es.drop v) j ∧ RowOf (TreeOf g w f) (L.drop v) av (es.drop v) ar (t.kids.drop v)) (fun q => ((L.length : Int) - q.2.1).toNat) ⟨0, i, a', rfl, by omega, rfl, by simp, by simpa using hsc, by simpa using hrow⟩ ?_
      rintro ⟨at_, v', own⟩ ⟨v, av, ar, e, hv, eat, eown, hsc', hrow'⟩ X hX
      dsimp only at e eat eown hX
      subst e eat eown
      dsimp only
      unfold VCc71_l3
      simp only [Int.toNat_natCast]
      refine ⟨fun hb => ?_, fun hb => ?_⟩
      · simp only [decide_eq_true_eq] at hb
        have hvL : v < L.length := by omega
        have eL : L.drop v = L.getD v 0 :: L.drop (v + 1) := by rw [List.drop_eq_getElem_cons hvL, getD_lt _ hvL]
        rw [eL] at hrow'
        obtain ⟨e, es', a1, a2, tt, ts', h1, h2, h3, h4, h5⟩ := hrow'
        rw [h1] at hsc'
        obtain ⟨d1, d2, d3⟩ := hsc'
        obtain ⟨hve, ee, ed⟩ := at_drop h1 0
        obtain ⟨hvt, et, etd⟩ := at_drop h3 (Tree.node 0 [] [])
        have hwd := h4.wd.1
        rw [et, hwd]
        refine ⟨⟨by omega, by omega⟩, by unfold InR; omega, ?_, by unfold InR; omega, hX _ ⟨v + 1, e, a2, by simp, by omega, by dsimp only; omega, ?_, by rw [ed]; exact d3, by rw [ed, etd]; exact h5⟩ (by dsimp only; omega)⟩
        · unfold roomN
          simp only [List.length_map, List.length_take, List.length_cons, List.length_nil]
          omega
        · dsimp only
          rw [List.take_add_one, getD_opt (d := 0) hve, ee]
          simp only [ints, Option.toList_some, List.map_append, List.map_cons, List.map_nil]
          congr 2
          show (av : Int) + ((e - av : Nat) : Int) = (e : Int)
          omega
      · simp only [decide_eq_false_iff_not] at hb
        have ev : v = L.length := by omega
        subst ev
        rw [List.take_of_length_le (by omega)]
        clear hrow' hsc' hX
        -- the rules ahead
        have hpre : ∀ v, (preB g w s i j v).length ≤ cntS g w s i j := by
          intro v
          unfold cntS
          rw [pre_from hp hs hj v, List.length_append]
          omega
        unfold VCc71_k1
        refine Loop.by (fun q : Int × Int × Kn => ∃ v : Nat, q.1 = (v : Int) ∧ v ≤ k ∧ q.2.1 = ((preB g w s i j v).length : Int) ∧ KnOk g w q.2.2) (fun q => ((k : Int) - q.1).toNat) ⟨0, rfl, by omega, by simp [preB], hk⟩ ?_
        rintro ⟨v', n', kn1⟩ ⟨v, e, hv, en, hk1⟩ X hX
        dsimp only at e en hk1 hX
        subst e en
        dsimp only
        unfold VCc71_l2
        simp only [Int.toNat_natCast]
        refine ⟨fun hb => ?_, fun hb => ?_⟩
        · simp only [decide_eq_true_eq] at hb
          have hvl : v < g.2.2.2.length := by omega
          have hvm : g.2.2.2.getD v (0, []) ∈ g.2.2.2 := getD_mem hvl
          have hlen := preB_succ (w := w) (s := s) (i := i) (j := j) hvl
          have hcap' := hpre (v + 1)
          simp only [hleft]
          refine ⟨⟨by omega, by omega⟩, fun hhit => ?_, fun hmiss => ?_⟩
          · simp only [decide_eq_true_eq] at hhit
            refine ⟨2 * w.length + 1, row_of hg hw hp _ v 0 i j kn1 _ (by rw [if_pos rfl]; omega) hvl (List.length_pos_iff.2 (hp _ hvm).1) (by omega) hj hk1 (fun r kn' hk' hr => ?_)⟩
            rw [List.drop_zero] at hr
            have hbl := blk_len (g := g) (w := w) (s := s) (i := i) (j := j) (k := v)
            rw [if_pos hhit] at hbl
            rw [hlen, List.length_append, hbl] at hcap'
            have er : r = (cntR g w (g.2.2.2.getD v (0, [])).2 i j : Int) := by unfold CapV at hr; omega
            unfold VCc71_k8 VCc71_k7
            dsimp only
            rw [er]
            refine ⟨by unfold InR; omega, by unfold InR; omega, hX _ ⟨v + 1, by simp, by omega, ?_, hk'⟩ (by dsimp only; omega)⟩
            dsimp only
            rw [hlen, List.length_append, hbl]
            push_cast
            rfl
          · simp only [decide_eq_false_iff_not] at hmiss
            have hbl := blk_len (g := g) (w := w) (s := s) (i := i) (j := j) (k := v)
            rw [if_neg hmiss] at hbl
            unfold VCc71_k7
            refine ⟨by unfold InR; omega, hX _ ⟨v + 1, by simp, by omega, ?_, hk1⟩ (by dsimp only; omega)⟩
            dsimp only
            rw [hlen, List.length_append, hbl]
            push_cast
            omega
        · simp only [decide_eq_false_iff_not] at hb
          have ev : v = k := by omega
          subst ev
          clear hX
          unfold VCc71_k2
          simp only [Int.toNat_natCast, hL]
          refine ⟨L.length + 1, ?_⟩
          have hB0 := hpre v
          have key := choose9_of (c1 := g.1) (c2 := g.2.1) (c3 := g.2.2.1) (c4 := g.2.2.2) (c5 := w) (c7 := (v : Int)) (c8 := t.kids) (c9 := t.word) (c10 := (i : Int)) (c11 := (j : Int)) (c12 := (g.2.2.2.getD v (0, [])).1) (c13 := L) (c14 := ints es) (Y := VCc71_y1 g.1 g.2.1 g.2.2.1 g.2.2.2 w (v : Int) (i : Int) (ints es)) (parts := L.length) (i0 := i) (j0 := j) (I := PlI g w (preB g w s i j v).length L i j es) (F := PlF g w (preB g w s i j v).length L i j es) ⟨hpos, by omega⟩ (by omega) (by omega) ?_
            (L.length + 1) L.length [] i (by omega) hpos (by simp) rfl (by omega) [] ((preB g w s i j v).length : Int) kn1
          · refine key _ ?_ (fun n' kn' h => ?_) (fun k' n' kn' h => ?_)
            · exact ⟨hk1, [], by simp, by simp, by simp⟩
            · exfalso
              obtain ⟨_, pre, h1, h2, _⟩ := h
              rw [List.append_nil] at h1
              rw [h1] at h2
              exact h2 hes
            · dsimp only
              obtain ⟨rfl, hk2, pre, post, hcut, en⟩ := h
              refine ⟨fun h => (by cases h), fun _ => ⟨rfl, ?_⟩⟩
              obtain ⟨hB, hfin⟩ := pos_final hp hs hj hkl hleft hL hcut
              subst en
              obtain ⟨B, hBe⟩ : ∃ B, (preB g w s i j v).length + (pre.flatMap (prodT (SG g w) L i)).length = B := ⟨_, rfl⟩
              rw [hBe] at hB hfin
              unfold VCc71_k3
              refine VC97_of (by rw [List.length_map]; omega) ?_
              have hmemA : ∀ (l : List Int) (x : Nat) (es : List Nat) (a : List Int) (ts : List Tree), RowOf (TreeOf g w f) l x es a ts → Chain w.length x es → a ∈ prodT (SG g w) l x es := fun l x es a ts h1 h2 => row_mem (N := w.length) (fun s i j a t h hj => tree_mem hp f s i j a t h hj) l x es a ts h1 h2
              refine Loop.by (fun q : Int × Int × Kn => ∃ v av d : Nat, ∃ ar, q.1 = (v : Int) ∧ v ≤ L.length ∧ q.2.1 = ((B + d : Nat) : Int) ∧ KnOk g w q.2.2 ∧ SC av (es.drop v) j ∧ RowOf (TreeOf g w f) (L.drop v) av (es.drop v) ar (t.kids.drop v) ∧ (rangesL (i : Int) (ints es)).drop v = rangesL (av : Int) (ints (es.drop v)) ∧ (prodT (SG g w) (L.drop v) av (es.drop v)).length ≤ (prodT (SG g w) L i es).length ∧
                ∀ q, q < (prodT (SG g w) (L.drop v) av (es.drop v)).length → (prodT (SG g w) (L.drop v) av (es.drop v)).getD q [] = ar → d + q < (prodT (SG g w) L i es).length ∧ (prodT (SG g w) L i es).getD (d + q) [] = a') (fun q => ((L.length : Int) - q.1).toNat)
                ⟨0, i, 0, a', rfl, by omega, by dsimp only; omega, hk2, by simpa using hsc, by simpa using hrow, by simp, by simp, fun q h1 h2 => by simp only [List.drop_zero] at h1 h2; rw [Nat.zero_add]; exact ⟨h1, h2⟩⟩ ?_
              rintro ⟨v', n3, kn3⟩ ⟨u, av, d, ar, e, hv', en, hk4, hsc', hrow', hrng, hple, hq⟩ X hX
              dsimp only at e en hk4 hX
              subst e en
              dsimp only
              unfold VCc71_l1
              simp only [Int.toNat_natCast, hL]
              refine ⟨fun hb => ?_, fun hb => ?_⟩
              · simp only [decide_eq_true_eq] at hb
                have huL : u < L.length := by omega
                have eL : L.drop u = L.getD u 0 :: L.drop (u + 1) := by rw [List.drop_eq_getElem_cons huL, getD_lt _ huL]
                obtain ⟨sg, hsg⟩ : ∃ sg, L.getD u 0 = sg := ⟨_, rfl⟩
                rw [hsg] at eL
                have hsgm : sg ∈ L := by rw [← hsg]; exact getD_mem huL
                rw [eL] at hrow' hple hq
                obtain ⟨e, es', a1, a2, tt, ts', h1, h2, h3, h4, h5⟩ := hrow'
                rw [h1] at hsc' hrng hple hq
                obtain ⟨d1, d2, d3⟩ := hsc'
                obtain ⟨hve, ee, ed⟩ := at_drop h1 0
                obtain ⟨hvt, et, etd⟩ := at_drop h3 (Tree.node 0 [] [])
                subst h2
                rw [prodT_len] at hple
                have hch := d3.chain hj
                have hm1 := tree_mem hp f _ _ _ _ _ h4 (show e ≤ w.length by omega)
                have hm2 := hmemA _ _ _ _ _ h5 hch
                obtain ⟨q2, hq2, hq2e⟩ := mem_pos hm2
                have hc1 : 0 < (SG g w sg av e).length := List.length_pos_of_mem hm1
                have hc2 : 0 < (prodT (SG g w) (L.drop (u + 1)) e es').length := by omega
                have hle1 : cntS g w sg av e ≤ cntS g w s i j := by
                  have := Nat.le_mul_of_pos_right (SG g w sg av e).length hc2
                  unfold cntS at hB ⊢
                  omega
                have hle2 : (prodT (SG g w) (L.drop (u + 1)) e es').length ≤ (prodT (SG g w) L i es).length := by
                  have := Nat.le_mul_of_pos_left (prodT (SG g w) (L.drop (u + 1)) e es').length hc1
                  omega
                have hrng' : (rangesL (i : Int) (ints es)).drop u = ((av : Int), (e : Int)) :: rangesL (e : Int) (ints es') := hrng
                obtain ⟨hru, hrg, hrd⟩ := at_drop hrng' ((0 : Int), (0 : Int))
                have hrl : (rangesL (i : Int) (ints es)).length = L.length := by rw [rangesL_len, List.length_map]; exact hesl
                have e1 : ((u : Int) + 1).toNat = u + 1 := by omega
                -- the kid, then the count behind it
                have hR : ∀ (K' : Int × Kn → Prop), (∀ (p : Nat) kn', KnOk g w kn' → p < cntS g w sg av e → (SG g w sg av e).getD p [] = a1 → K' ((p : Int), kn')) → VCc71_it g.1 g.2.1 g.2.2.1 g.2.2.2 w f (t.kids.getD u (Tree.node 0 [] [])).rule (t.kids.getD u (Tree.node 0 [] [])).kids (t.kids.getD u (Tree.node 0 [] [])).word ((rangesL (i : Int) (ints es)).getD u ((0 : Int), (0 : Int))).1 ((rangesL (i : Int) (ints es)).getD u ((0 : Int), (0 : Int))).2 kn3 K' := by
                  intro K' hK'
                  rw [et, hrg]
                  exact ih sg av e a1 tt kn3 K' h4 (by omega) (hright sg hsgm) (by omega) hk4 hK'
                have hM : ∀ (kn : Kn) (K' : Int × Kn → Prop), KnOk g w kn → (∀ kn', KnOk g w kn' → K' (((prodT (SG g w) (L.drop (u + 1)) e es').length : Int), kn')) → VCcr98 g.1 g.2.1 g.2.2.1 g.2.2.2 w (L.drop ((u : Int) + 1).toNat) ((rangesL (i : Int) (ints es)).drop ((u : Int) + 1).toNat) kn K' := by
                  intro kn K' hk' hK'
                  rw [e1, hrd]
                  refine many_of hg hw hp (fun s hs => hright s (List.mem_of_mem_drop hs)) (by rw [List.length_drop]; omega) (by rw [List.length_drop, ← hesl, ← ed, List.length_drop]) hch hk' (fun v' kn' hk'' hv' => ?_)
                  have : v' = ((prodT (SG g w) (L.drop (u + 1)) e es').length : Int) := by unfold CapV at hv'; omega
                  rw [this]
                  exact hK' kn' hk''
                have hdone : ∀ (p : Nat) (kn' : Kn), KnOk g w kn' → p < cntS g w sg av e → (SG g w sg av e).getD p [] = a1 → InR ((p : Int) * ((prodT (SG g w) (L.drop (u + 1)) e es').length : Int)) ∧ InR (((B + d : Nat) : Int) + (p : Int) * ((prodT (SG g w) (L.drop (u + 1)) e es').length : Int)) ∧ VCc71_k5 (u : Int) X (((B + d : Nat) : Int) + (p : Int) * ((prodT (SG g w) (L.drop (u + 1)) e es').length : Int)) kn' := by
                  intro p kn' hk' hp1 hp2
                  have hstep : ∀ q', q' < (prodT (SG g w) (L.drop (u + 1)) e es').length → (prodT (SG g w) (L.drop (u + 1)) e es').getD q' [] = a2 → (d + p * (prodT (SG g w) (L.drop (u + 1)) e es').length) + q' < (prodT (SG g w) L i es).length ∧ (prodT (SG g w) L i es).getD ((d + p * (prodT (SG g w) (L.drop (u + 1)) e es').length) + q') [] = a' := by
                    intro q' h6 h7
                    have hlt : p * (prodT (SG g w) (L.drop (u + 1)) e es').length + q' < (SG g w sg av e).length * (prodT (SG g w) (L.drop (u + 1)) e es').length := by
                      have h8 : (p + 1) * (prodT (SG g w) (L.drop (u + 1)) e es').length ≤ (SG g w sg av e).length * (prodT (SG g w) (L.drop (u + 1)) e es').length := Nat.mul_le_mul_right _ hp1
                      rw [Nat.add_mul, Nat.one_mul] at h8
                      omega
                    have h9 := hq (p * (prodT (SG g w) (L.drop (u + 1)) e es').length + q') (by rw [prodT_len]; exact hlt) (by
                      have h10 := prod_getD (prodT (SG g w) (L.drop (u + 1)) e es') (SG g w sg av e) _ hlt
                      have h11 : (p * (prodT (SG g w) (L.drop (u + 1)) e es').length + q') / (prodT (SG g w) (L.drop (u + 1)) e es').length = p := by
                        rw [Nat.mul_comm, Nat.mul_add_div hc2, Nat.div_eq_of_lt h6, Nat.add_zero]
                      have h12 : (p * (prodT (SG g w) (L.drop (u + 1)) e es').length + q') % (prodT (SG g w) (L.drop (u + 1)) e es').length = q' := by
                        rw [Nat.mul_comm, Nat.mul_add_mod, Nat.mod_eq_of_lt h6]
                      rw [h11, h12, hp2, h7] at h10
                      exact h10)
                    rw [← Nat.add_assoc] at h9
                    exact h9
                  have hb1 := (hstep q2 hq2 hq2e).1
                  have ecast : (p : Int) * ((prodT (SG g w) (L.drop (u + 1)) e es').length : Int) = ((p * (prodT (SG g w) (L.drop (u + 1)) e es').length : Nat) : Int) := by push_cast; rfl
                  rw [ecast]
                  unfold VCc71_k5
                  refine ⟨by unfold InR; omega, by unfold InR; omega, by unfold InR; omega, hX _ ⟨u + 1, e, d + p * (prodT (SG g w) (L.drop (u + 1)) e es').length, a2, by simp, by omega, by dsimp only; omega, hk', by rw [ed]; exact d3, by rw [ed, etd]; exact h5, by rw [ed]; exact hrd, by rw [ed]; exact hle2, by rw [ed]; exact hstep⟩ (by dsimp only; omega)⟩
                refine ⟨⟨by omega, by omega⟩, ⟨by omega, by omega⟩, by unfold InR; omega, ⟨by omega, by omega⟩, by unfold InR; omega, ⟨by omega, by omega⟩, ?_, ?_⟩
                · exact hR _ fun p kn' hk' hp1 hp2 => hM kn' _ hk' fun kn'' hk'' => hdone p kn'' hk'' hp1 hp2
                · exact hR _ fun p kn' hk' hp1 hp2 => ⟨hM kn' _ hk' fun kn'' hk'' => hdone p kn'' hk'' hp1 hp2, hM kn' _ hk' fun kn'' hk'' => hdone p kn'' hk'' hp1 hp2⟩
              · simp only [decide_eq_false_iff_not] at hb
                have eu : u = L.length := by omega
                subst eu
                rw [List.drop_length] at hrow' hq
                obtain ⟨_, hn, _⟩ := hrow'
                subst hn
                obtain ⟨h1, h2⟩ := hq 0 (by simp [prodT]) (by simp [prodT])
                rw [Nat.add_zero] at h1 h2
                unfold VCc71_k4
                have := hfin d h1
                rw [h2] at this
                exact hK (B + d) kn3 hk4 (by omega) this
          · -- the body
            intro es2 rest n' kn' hI Kt Kf hKt hKf
            obtain ⟨hk2, pre, h1, h2, en⟩ := hI
            subst en
            have hmemc : es2 ∈ cutsL L.length i j := by rw [← h1]; simp
            have hsc2 := cuts_sc _ i j es2 hij hmemc
            have hesl2 := (cutsL_mem _ _ _ _ hmemc).1
            unfold VCc71_y1
            refine VC70_of (by rw [List.length_map]; omega) ⟨fun heq => ?_, fun hne => ?_⟩
            · simp only [decide_eq_true_eq, ints_inj] at heq
              subst heq
              exact hKf _ _ _ ⟨rfl, hk2, pre, rest, h1.symm, rfl⟩
            · simp only [decide_eq_false_iff_not, ints_inj] at hne
              refine VC97_of (by rw [List.length_map]; omega) ?_
              simp only [Int.toNat_natCast, hL]
              refine many_of hg hw hp hright hshort hesl2 (hsc2.chain hj) hk2 (fun n kn2 hk2' hn => ?_)
              have hB := (pos_final hp hs hj hkl hleft hL h1.symm).1
              have hn' : n = ((prodT (SG g w) L i es2).length : Int) := by unfold CapV at hn; omega
              subst hn'
              unfold VCc71_k6
              refine ⟨by unfold InR; omega, hKt _ _ ⟨hk2', pre ++ [es2], by rw [List.append_assoc]; exact h1, ?_, ?_⟩⟩
              · rw [List.mem_append]
                rintro (h | h)
                · exact h2 h
                · exact hne (List.mem_singleton.1 h).symm
              · rw [List.flatMap_append, List.length_append, List.flatMap_cons, List.flatMap_nil, List.append_nil]
                push_cast
                omega
end
end Dec
namespace Dec
open Go Go.Proofs Cfg
section
variable {g : Gr} {w : List Int}
def PlOk (g : Gr) (w st : List Int) : Prop := All g w ∧ (cntW g w : Int) ≤ 1099511627776 ∧ st.length ≤ 60 ∧ ∃ t, growF g 62 (g.1 + g.2.2.1) st = some (t, []) ∧ t.word = w
def PlaceIs (g : Gr) (w st : List Int) (r : Int × Int) : Prop := (r.2 ≠ 0 ∧ ¬ PlOk g w st) ∨ (r.2 = 0 ∧ PlOk g w st ∧ ∃ p : Nat, r.1 = (p : Int) ∧ p < cntW g w ∧ (SG g w (g.1 + g.2.2.1) 0 w.length).getD p [] = st)
theorem VC35_of {st : List Int} {K : Int × Int → Prop} (h : ∀ r, PlaceIs g w st r → K r) : VC35 g w st K := by
  have hk1 : ∀ e : Int, e ≠ 0 → ¬ PlOk g w st → VC35_k1 g w st K e := by
    intro e he hn
    unfold VC35_k1
    refine ⟨fun _ => h (0, e) (.inl ⟨he, hn⟩), fun h0 => ?_⟩
    simp at h0
    exact absurd h0 he
  unfold VC35
  refine VC44_of (fun e he hng => ⟨fun _ => hk1 e he fun hs => hng ⟨hs.1.1, hs.1.2.1⟩, fun h0 => ?_⟩) (fun hg hw => ⟨fun h0 => ?_, fun _ => VC84_of hg fun b hb => ⟨fun hb0 => ?_, fun hb1 => ?_⟩⟩)
  · simp at h0; exact absurd h0 he
  · simp at h0
  · refine hk1 3 (by omega) fun hs => ?_
    rw [hb.2 hs.1.2.2] at hb0
    cases hb0
  have hp : Prop1 g := hb.1 (by cases b with
    | true => rfl
    | false => cases hb1)
  have hk := hg.k
  have hn := hg.n
  have hst := hg.start
  have hfew := hg.few
  have hw12 := hw.1
  have hs : ¬ g.1 + g.2.2.1 < g.1 := by omega
  refine ⟨by unfold InR; omega, fun hc => ?_, fun _ => ⟨fun hsome => ?_, fun _ => ?_⟩⟩
  · simp only [decide_eq_true_eq] at hc
    omega
  · cases hsome
  · refine sign_loop (w := w) hp (s := g.1 + g.2.2.1) (i := 0) (j := w.length) hs (Nat.le_refl _) knOk_nil ?_ ?_
    · intro n v kn X hv hk' hhit hmiss
      dsimp only
      unfold VC35_l1 VC35_k4
      simp only [Int.toNat_natCast]
      refine ⟨fun hb => ⟨⟨by omega, by omega⟩, by unfold InR; omega, fun he => ?_, fun hne => ?_⟩, fun hb => ?_⟩
      · simp only [decide_eq_true_eq] at he
        have hvm : g.2.2.2.getD v (0, []) ∈ g.2.2.2 := getD_mem hv
        have hne := (hp _ hvm).1
        refine ⟨2 * w.length + 1, row_of hg hw hp _ v 0 0 w.length kn _ (by rw [if_pos rfl]; omega) hv (List.length_pos_iff.2 hne) (by omega) (by omega) hk' (fun r kn' hk'' hr' => ?_)⟩
        rw [List.drop_zero] at hr'
        have := hhit he r kn' hk'' hr'
        exact ⟨this.1, by unfold InR; omega, this.2⟩
      · simp only [decide_eq_false_iff_not] at hne
        exact ⟨by unfold InR; omega, hmiss hne⟩
      · simp only [decide_eq_false_iff_not] at hb
        omega
    · intro n kn X hk' hn''
      have hn' : CapV n (cntW g w) := hn''
      dsimp only
      unfold VC35_l1
      simp only [Int.toNat_natCast]
      refine ⟨fun hb => ?_, fun _ => ?_⟩
      · simp only [decide_eq_true_eq] at hb
        omega
      · unfold VC35_k3 VC35_k2
        refine ⟨fun hc => hk1 1 (by omega) fun hs => ?_, fun hc => ⟨fun h0 => (by simp at h0), fun _ => ⟨fun hlong => h (0, 1) (.inl ⟨by simp, fun hs => ?_⟩), fun hshort => ⟨by unfold InR; omega, ?_⟩⟩⟩⟩
        · simp only [decide_eq_true_eq] at hc
          have := hs.2.1
          unfold CapV at hn'
          omega
        · simp only [decide_eq_true_eq] at hlong
          have := hs.2.2.1
          omega
        · simp only [decide_eq_false_iff_not] at hc hshort
          have hcn : n = (cntW g w : Int) := by unfold CapV at hn'; omega
          refine VCr61_of hg (by omega) (by omega) (fun hno => gcall_both (fun h => (by cases h)) (fun _ => ⟨fun _ => h (0, 5) (.inl ⟨by simp, ?_⟩), fun h => (by cases h)⟩)) (fun t r hsome ht hr => ?_)
          · rintro ⟨_, _, _, t, h1, _⟩
            rw [hno] at h1
            cases h1
          · have hbad : (r ≠ [] ∨ t.word ≠ w) → ¬ PlOk g w st := by
              rintro hor ⟨_, _, _, t', h1, h2⟩
              rw [hsome] at h1
              injection h1 with h1; injection h1 with h3 h4
              subst h3 h4
              rcases hor with h | h
              · exact h rfl
              · exact h h2
            cases r with
            | cons x r =>
              have e : decide ((0 : Int) < (((x :: r).length : Nat) : Int)) = true := by simp only [decide_eq_true_eq, List.length_cons]; omega
              refine gcall_both (fun h => ?_) (fun _ => ⟨fun _ => h (0, 5) (.inl ⟨by simp, hbad (.inl (by simp))⟩), fun h => ?_⟩)
              · simp only [e] at h; cases h
              · simp only [e] at h; cases h
            | nil =>
              refine gcall_both (fun _ => VC70_of (by show t.word.length ≤ 1000; omega) ⟨fun hne => h (0, 5) (.inl ⟨by simp, hbad (.inr ?_)⟩), fun heq => ?_⟩) (fun h => (by cases h))
              · intro e
                simp [e] at hne
              · have hww : t.word = w := by
                  by_cases e : t.word = w
                  · exact e
                  · simp [e] at heq
                have hok : PlOk g w st := ⟨⟨hg, hw, hp⟩, by omega, by omega, t, hsome, hww⟩
                obtain ⟨a, e, htree, _⟩ := gro_tree (w := w) hp 62 _ st t [] 0 hsome (by rw [hww]; exact At.whole)
                rw [List.append_nil] at e
                subst e
                rw [hww, Nat.zero_add] at htree
                refine ⟨62, place_of hg hw hp 62 (g.1 + g.2.2.1) 0 w.length st t _ _ htree (Nat.le_refl _) (by omega) (by show (cntW g w : Int) ≤ _; omega) (knOk_mset hk' (by rw [show (0 : Int) = ((0 : Nat) : Int) from rfl, mean_sign]; exact hn')) (fun p kn' _ h1 h2 => h _ (.inr ⟨rfl, hok, p, rfl, h1, h2⟩))⟩
theorem pickMakes (g : Gr) (st : List Int) : VC12 g st (fun b => b = true) := by
  unfold VC12
  refine VC30_of fun r hr => VC18_of (fun e he hng => ⟨fun _ => ?_, fun h0 => ?_⟩) (fun hg => ⟨fun h0 => (by simp at h0), fun _ => ⟨fun hbad => ?_, fun hgood => ?_⟩⟩)
  · rcases hr with ⟨h, _⟩ | ⟨_, h, _⟩
    · simp [h]
    · exact absurd h hng
  · simp at h0; exact absurd h0 he
  · rcases hr with ⟨_, h, _⟩ | ⟨h, _⟩
    · rw [h]; simp
    · simp [h] at hbad
  · rcases hr with ⟨h, _⟩ | ⟨_, _, h60, t, ht, hrt, hl60⟩
    · simp [h] at hgood
    refine VC35_of fun x hx => VC34_of (fun hno => ⟨fun _ => ?_, fun h => (by simp at h)⟩) (fun hall v hv => ⟨fun hbig => ?_, fun hsm => ⟨fun hwrong => ?_, fun hright => VC33_of fun y hy => ?_⟩⟩)
    · rcases hx with ⟨h, _⟩ | ⟨_, h, _⟩
      · simp [h]
      · exact absurd h.1 hno
    · rcases hx with ⟨h, _⟩ | ⟨_, h, _⟩
      · simp [h]
      · exfalso
        have := h.2.1
        simp only [Bool.not_true, Bool.false_or, decide_eq_true_eq] at hbig
        unfold CapV at hv
        omega
    · exfalso
      simp only [Bool.not_true, Bool.false_or, decide_eq_false_iff_not] at hsm
      rcases hx with ⟨_, hn⟩ | ⟨hx0, _, p, hxp, hp1, hp2⟩
      · exact hn ⟨hall, by unfold CapV at hv; omega, h60, t, ht, hrt.symm⟩
      · simp only [hx0, decide_true, Bool.not_true, Bool.false_or, Bool.or_eq_true, decide_eq_true_eq] at hwrong
        unfold CapV at hv
        omega
    · simp only [Bool.not_true, Bool.false_or, decide_eq_false_iff_not] at hsm
      rcases hx with ⟨h, _⟩ | ⟨hx0, hok, p, hxp, hp1, hp2⟩
      · simp [h] at hright
      have hsp : Spot g r.1 x.1 := ⟨hall, by omega, by omega, hok.2.1⟩
      rcases hy with ⟨_, _, hn⟩ | ⟨hy0, _, hya⟩
      · exact absurd hsp hn
      have hyst : y.1 = st := by rw [hya, hxp, Int.toNat_natCast, hp2]
      simp only [hy0, hyst, decide_true, Bool.true_and]
      refine gcall_both (fun _ => VC22_of (by omega) ?_) (fun h => (by cases h))
      simp
end
end Dec
