/-
  Derivatives of regular expressions in plain Lean (Brzozowski).
-/
import Derived.Test.YtckghdhnmpnljaaRex
import Derived.Test.YtckghdhnmpnljaaMaps
set_option linter.unusedSimpArgs false
set_option linter.unusedVariables false
namespace Rex
open Dec

theorem mat_shift {l : List Nd} {v : List Int} {s : Int} {t i j : Nat} (h : Mat l v t i j) : Mat l (s :: v) t (i + 1) (j + 1) := by
  induction h with
  | empty t i h hi => exact .empty t _ h (by simp; omega)
  | sym t i h hi => exact .sym t _ h (by simpa using hi)
  | cat t i m j h h1 h2 ih1 ih2 => exact .cat t _ _ _ h ih1 ih2
  | or1 t i j h h1 ih => exact .or1 t _ _ h ih
  | or2 t i j h h1 ih => exact .or2 t _ _ h ih
  | star0 t i h hi => exact .star0 t _ h (by simp; omega)
  | star1 t i m j h h1 h2 ih1 ih2 => exact .star1 t _ _ _ h ih1 ih2

theorem mat_unshift' {l : List Nd} {w : List Int} {t i' j' : Nat} (h : Mat l w t i' j') : ∀ (s : Int) (v : List Int) (i : Nat), w = s :: v → i' = i + 1 → ∃ j, j' = j + 1 ∧ Mat l v t i j := by
  induction h with
  | empty t a h hi => rintro s v i rfl rfl; exact ⟨i, rfl, .empty t i h (by simp at hi; omega)⟩
  | sym t a h hi => rintro s v i rfl rfl; exact ⟨i + 1, rfl, .sym t i h (by simpa using hi)⟩
  | cat t a m b h h1 h2 ih1 ih2 =>
    intro s v i hw hi
    obtain ⟨m', hm, k1⟩ := ih1 s v i hw hi
    obtain ⟨j', hj, k2⟩ := ih2 s v m' hw hm
    exact ⟨j', hj, .cat t i m' j' h k1 k2⟩
  | or1 t a b h h1 ih =>
    intro s v i hw hi
    obtain ⟨j', hj, k1⟩ := ih s v i hw hi
    exact ⟨j', hj, .or1 t i j' h k1⟩
  | or2 t a b h h1 ih =>
    intro s v i hw hi
    obtain ⟨j', hj, k1⟩ := ih s v i hw hi
    exact ⟨j', hj, .or2 t i j' h k1⟩
  | star0 t a h hi => rintro s v i rfl rfl; exact ⟨i, rfl, .star0 t i h (by simp at hi; omega)⟩
  | star1 t a m b h h1 h2 ih1 ih2 =>
    intro s v i hw hi
    obtain ⟨m', hm, k1⟩ := ih1 s v i hw hi
    obtain ⟨j', hj, k2⟩ := ih2 s v m' hw hm
    exact ⟨j', hj, .star1 t i m' j' h k1 k2⟩

theorem mat_shift_iff {l : List Nd} {v : List Int} {s : Int} {t i j : Nat} : Mat l (s :: v) t (i + 1) (j + 1) ↔ Mat l v t i j := by
  constructor
  · intro h
    obtain ⟨j', hj, h1⟩ := mat_unshift' h s v i rfl rfl
    have : j' = j := by omega
    subst this
    exact h1
  · exact mat_shift

/-- a star that matches something begins with something -/
theorem star_first' {l : List Nd} {w : List Int} {t i j : Nat} (h : Mat l w t i j) : (nd l t).1 = 6 → i < j → ∃ m, i < m ∧ Mat l w (nd l t).2.1.toNat i m ∧ Mat l w t m j := by
  induction h with
  | empty t i h hi => intro hk; omega
  | sym t i h hi => intro hk; omega
  | cat t i m j h h1 h2 ih1 ih2 => intro hk; omega
  | or1 t i j h h1 ih => intro hk; omega
  | or2 t i j h h1 ih => intro hk; omega
  | star0 t i h hi => intro _ hlt; omega
  | star1 t i m j h h1 h2 ih1 ih2 =>
    intro hk hlt
    have l1 := h1.le
    have l2 := h2.le
    by_cases him : i < m
    · obtain ⟨m', k1, k2, k3⟩ := ih1 hk him
      exact ⟨m', k1, k2, .star1 t m' m j h k3 h2⟩
    · have : i = m := by omega
      subst this
      exact ⟨j, hlt, h2, .star0 t j h l2.2⟩

/-- node d of out matches what is left of i behind s -/
def Der (l : List Nd) (s : Int) (out : List Nd) (i d : Nat) : Prop := ∀ (v : List Int) (j : Nat), Mat out v d 0 j ↔ Mat l (s :: v) i 0 (j + 1)

structure DInv (l : List Nd) (k s : Int) (m : List (Int × Int)) (out : List Nd) : Prop where
  ext : ∃ e, out = l ++ e
  ok : ∀ t, t < out.length → OkN k t (nd out t)
  der : ∀ (i d : Int), mget m i = some d → 0 ≤ d ∧ d < (out.length : Int) ∧ Der l s out i.toNat d.toNat

variable {l : List Nd} {k s : Int} {m : List (Int × Int)} {out : List Nd}

theorem mat_more {e : List Nd} (hok : ∀ t, t < out.length → OkN k t (nd out t)) {v : List Int} {t i j : Nat} (ht : t < out.length) : Mat (out ++ e) v t i j ↔ Mat out v t i j := mat_app hok ht

theorem Der.more {e : List Nd} (hok : ∀ t, t < out.length → OkN k t (nd out t)) {i d : Nat} (hd : d < out.length) (h : Der l s out i d) : Der l s (out ++ e) i d := fun v j => (mat_more hok hd).trans (h v j)

theorem nd_new (out : List Nd) (n : Nd) : nd (out ++ [n]) out.length = n := by
  simp [nd, List.getD_eq_getElem?_getD]

theorem ok_add (hok : ∀ t, t < out.length → OkN k t (nd out t)) {n : Nd} (hn : OkN k out.length n) : ∀ t, t < (out ++ [n]).length → OkN k t (nd (out ++ [n]) t) := by
  intro t ht
  simp only [List.length_append, List.length_singleton] at ht
  by_cases h : t < out.length
  · rw [nd_app h]; exact hok t h
  · have : t = out.length := by omega
    subst this
    rw [nd_new]; exact hn

theorem DInv.add (h : DInv l k s m out) {n : Nd} (hn : OkN k out.length n) : DInv l k s m (out ++ [n]) := by
  obtain ⟨e, he⟩ := h.ext
  refine ⟨⟨e ++ [n], by rw [he]; simp⟩, ok_add h.ok hn, fun i d hd => ?_⟩
  obtain ⟨h1, h2, h3⟩ := h.der i d hd
  exact ⟨h1, by simp; omega, h3.more h.ok (by omega)⟩

theorem DInv.put (h : DInv l k s m out) {i d : Int} (h1 : 0 ≤ d) (h2 : d < (out.length : Int)) (h3 : Der l s out i.toNat d.toNat) : DInv l k s (mset m i d) out := by
  refine ⟨h.ext, h.ok, fun i' d' hd => ?_⟩
  rw [mget_mset] at hd
  split at hd
  · rename_i he
    injection hd with hd
    subst hd he
    exact ⟨h1, h2, h3⟩
  · exact h.der i' d' hd

theorem DInv.old (h : DInv l k s m out) (hl : ∀ t, t < l.length → OkN k t (nd l t)) {v : List Int} {t i j : Nat} (ht : t < l.length) : Mat out v t i j ↔ Mat l v t i j := by
  obtain ⟨e, he⟩ := h.ext
  rw [he]
  exact mat_app hl ht

theorem DInv.len (h : DInv l k s m out) : l.length ≤ out.length := by
  obtain ⟨e, he⟩ := h.ext
  rw [he]; simp

/-- what a word without its first sign leaves of two in a row -/
def First (l : List Nd) (s : Int) (a b : Nat) (v : List Int) (j : Nat) : Prop := ∃ m, Mat l (s :: v) a 0 (m + 1) ∧ Mat l (s :: v) b (m + 1) (j + 1)

/-- the node (dA, B) behind all -/
theorem cat_first (h : DInv l k s m out) (hl : ∀ t, t < l.length → OkN k t (nd l t)) {a b : Nat} {dA B : Int} (h1 : 0 ≤ dA) (h2 : dA < (out.length : Int)) (hA : Der l s out a dA.toNat) (hb0 : 0 ≤ B) (hb : B < (l.length : Int)) (hbb : B.toNat = b) {v : List Int} {j : Nat} :
    Mat (out ++ [(4, (dA, B))]) v out.length 0 j ↔ First l s a b v j := by
  have hlen := h.len
  rw [mat_iff]
  simp only [nd_new]
  constructor
  · rintro (⟨h, _⟩ | ⟨h, _⟩ | ⟨_, m', k1, k2⟩ | ⟨h, _⟩ | ⟨h, _⟩)
    · omega
    · omega
    · rw [mat_more h.ok (by omega)] at k1 k2
      rw [hbb] at k2
      rw [h.old hl (by omega)] at k2
      exact ⟨m', (hA v m').1 k1, mat_shift k2⟩
    · omega
    · omega
  · rintro ⟨m', k1, k2⟩
    refine .inr (.inr (.inl ⟨trivial, m', ?_, ?_⟩))
    · rw [mat_more h.ok (by omega)]
      exact (hA v m').2 k1
    · rw [mat_more h.ok (by omega), hbb, h.old hl (by omega)]
      exact mat_shift_iff.1 k2

theorem or_new {x y : Int} (hok : ∀ t, t < out.length → OkN k t (nd out t)) (hx : 0 ≤ x ∧ x < (out.length : Int)) (hy : 0 ≤ y ∧ y < (out.length : Int)) {v : List Int} {i j : Nat} :
    Mat (out ++ [(5, (x, y))]) v out.length i j ↔ Mat out v x.toNat i j ∨ Mat out v y.toNat i j := by
  rw [mat_iff]
  simp only [nd_new]
  rw [mat_more hok (by omega), mat_more hok (by omega)]
  constructor
  · rintro (⟨h, _⟩ | ⟨h, _⟩ | ⟨h, _⟩ | ⟨_, h⟩ | ⟨h, _⟩)
    · omega
    · omega
    · omega
    · exact h
    · omega
  · intro h
    exact .inr (.inr (.inr (.inl ⟨trivial, h⟩)))

theorem none_new {v : List Int} {i j : Nat} : ¬ Mat (out ++ [(1, (0, 0))]) v out.length i j := by
  rw [mat_iff]
  simp only [nd_new]
  rintro (⟨h, _⟩ | ⟨h, _⟩ | ⟨h, _⟩ | ⟨h, _⟩ | ⟨h, _⟩) <;> omega

theorem empty_new {v : List Int} {i j : Nat} : Mat (out ++ [(2, (0, 0))]) v out.length i j ↔ i = j ∧ j ≤ v.length := by
  rw [mat_iff]
  simp only [nd_new]
  constructor
  · rintro (⟨_, h⟩ | ⟨h, _⟩ | ⟨h, _⟩ | ⟨h, _⟩ | ⟨h, _⟩)
    · exact h
    all_goals omega
  · intro h
    exact .inl ⟨trivial, h⟩

/-- what is left of a node of each kind -/
theorem left_sym {i : Nat} (hk : (nd l i).1 = 3) {v : List Int} {j : Nat} : Mat l (s :: v) i 0 (j + 1) ↔ j = 0 ∧ s = (nd l i).2.1 := by
  rw [mat_iff]
  constructor
  · rintro (⟨h, _⟩ | ⟨_, h1, h2⟩ | ⟨h, _⟩ | ⟨h, _⟩ | ⟨h, _⟩)
    · omega
    · simp at h2; exact ⟨by omega, h2⟩
    all_goals omega
  · rintro ⟨rfl, h2⟩
    exact .inr (.inl ⟨hk, rfl, by simp [h2]⟩)

theorem left_none {i : Nat} (hk : (nd l i).1 = 1 ∨ (nd l i).1 = 2) {v : List Int} {j : Nat} : ¬ Mat l (s :: v) i 0 (j + 1) := by
  rw [mat_iff]
  rintro (⟨_, h, _⟩ | ⟨h, _⟩ | ⟨h, _⟩ | ⟨h, _⟩ | ⟨h, _⟩) <;> omega

theorem left_cat {i : Nat} (hk : (nd l i).1 = 4) {v : List Int} {j : Nat} : Mat l (s :: v) i 0 (j + 1) ↔ First l s (nd l i).2.1.toNat (nd l i).2.2.toNat v j ∨ (Mat l (s :: v) (nd l i).2.1.toNat 0 0 ∧ Mat l (s :: v) (nd l i).2.2.toNat 0 (j + 1)) := by
  rw [mat_iff]
  constructor
  · rintro (⟨h, _⟩ | ⟨h, _⟩ | ⟨_, m', k1, k2⟩ | ⟨h, _⟩ | ⟨h, _⟩)
    · omega
    · omega
    · cases m' with
      | zero => exact .inr ⟨k1, k2⟩
      | succ m' => exact .inl ⟨m', k1, k2⟩
    all_goals omega
  · rintro (⟨m', k1, k2⟩ | ⟨k1, k2⟩)
    · exact .inr (.inr (.inl ⟨hk, _, k1, k2⟩))
    · exact .inr (.inr (.inl ⟨hk, _, k1, k2⟩))

theorem left_or {i : Nat} (hk : (nd l i).1 = 5) {v : List Int} {a j : Nat} : Mat l v i a j ↔ Mat l v (nd l i).2.1.toNat a j ∨ Mat l v (nd l i).2.2.toNat a j := by
  rw [mat_iff]
  constructor
  · rintro (⟨h, _⟩ | ⟨h, _⟩ | ⟨h, _⟩ | ⟨_, h⟩ | ⟨h, _⟩)
    · omega
    · omega
    · omega
    · exact h
    · omega
  · intro h
    exact .inr (.inr (.inr (.inl ⟨hk, h⟩)))

theorem left_star {i : Nat} (hk : (nd l i).1 = 6) {v : List Int} {j : Nat} : Mat l (s :: v) i 0 (j + 1) ↔ First l s (nd l i).2.1.toNat i v j := by
  constructor
  · intro h
    obtain ⟨m', h1, h2, h3⟩ := star_first' h hk (by omega)
    cases m' with
    | zero => omega
    | succ m' => exact ⟨m', h2, h3⟩
  · rintro ⟨m', k1, k2⟩
    exact star_left hk k1 k2

theorem eps_iff {i : Nat} {w : List Int} : Mat l w i 0 0 ↔ (nd l i).1 = 2 ∨ ((nd l i).1 = 4 ∧ Mat l w (nd l i).2.1.toNat 0 0 ∧ Mat l w (nd l i).2.2.toNat 0 0) ∨ ((nd l i).1 = 5 ∧ (Mat l w (nd l i).2.1.toNat 0 0 ∨ Mat l w (nd l i).2.2.toNat 0 0)) ∨ (nd l i).1 = 6 := by
  constructor
  · intro h
    rcases mat_iff.1 h with ⟨h, _⟩ | ⟨_, h, _⟩ | ⟨h, m', k1, k2⟩ | ⟨h, h1⟩ | ⟨h, _⟩
    · exact .inl h
    · omega
    · have := k2.le
      have : m' = 0 := by omega
      subst this
      exact .inr (.inl ⟨h, k1, k2⟩)
    · exact .inr (.inr (.inl ⟨h, h1⟩))
    · exact .inr (.inr (.inr h))
  · rintro (h | ⟨h, k1, k2⟩ | ⟨h, h1⟩ | h)
    · exact .empty _ _ h (by omega)
    · exact .cat _ _ _ _ h k1 k2
    · rcases h1 with h1 | h1
      · exact .or1 _ _ _ h h1
      · exact .or2 _ _ _ h h1
    · exact .star0 _ _ h (by omega)

end Rex
