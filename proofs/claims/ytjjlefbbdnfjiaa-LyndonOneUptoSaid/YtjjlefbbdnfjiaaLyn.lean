/-
  Words in their order, Lyndon words, rotations, powers: plain Lean, no program in sight.
-/
import Derived.Test.YtjjlefbbdnfjiaaFine
set_option linter.unusedSimpArgs false
set_option linter.unusedVariables false
namespace Lyn
open Fine

/-- the order of words -/
def LtL : List Int → List Int → Prop
  | _, [] => False
  | [], _ :: _ => True
  | x :: a, y :: b => x < y ∨ (x = y ∧ LtL a b)

theorem LtL_nil {a : List Int} : ¬ LtL a [] := by cases a <;> simp [LtL]

theorem LtL_irrefl : ∀ a : List Int, ¬ LtL a a
  | [] => by simp [LtL]
  | x :: a => by
    simp only [LtL]
    have := LtL_irrefl a
    rintro (h | h)
    · omega
    · exact this h.2

theorem LtL_trans : ∀ {a b c : List Int}, LtL a b → LtL b c → LtL a c
  | _, _, [], _, h => absurd h LtL_nil
  | _, [], _ :: _, h, _ => absurd h LtL_nil
  | [], _ :: _, _ :: _, _, _ => by simp [LtL]
  | x :: a, y :: b, z :: c, h1, h2 => by
    simp only [LtL] at h1 h2 ⊢
    rcases h1 with h1 | ⟨rfl, h1⟩
    · rcases h2 with h2 | ⟨rfl, h2⟩
      · exact Or.inl (by omega)
      · exact Or.inl h1
    · rcases h2 with h2 | ⟨rfl, h2⟩
      · exact Or.inl h2
      · exact Or.inr ⟨rfl, LtL_trans h1 h2⟩

theorem LtL_tri : ∀ a b : List Int, LtL a b ∨ a = b ∨ LtL b a
  | [], [] => Or.inr (Or.inl rfl)
  | [], _ :: _ => Or.inl (by simp [LtL])
  | _ :: _, [] => Or.inr (Or.inr (by simp [LtL]))
  | x :: a, y :: b => by
    simp only [LtL]
    rcases LtL_tri a b with h | h | h
    · by_cases e : x = y
      · exact Or.inl (Or.inr ⟨e, h⟩)
      · by_cases e2 : x < y
        · exact Or.inl (Or.inl e2)
        · exact Or.inr (Or.inr (Or.inl (by omega)))
    · by_cases e : x = y
      · exact Or.inr (Or.inl (by rw [e, h]))
      · by_cases e2 : x < y
        · exact Or.inl (Or.inl e2)
        · exact Or.inr (Or.inr (Or.inl (by omega)))
    · by_cases e : x = y
      · exact Or.inr (Or.inr (Or.inr ⟨e.symm, h⟩))
      · by_cases e2 : x < y
        · exact Or.inl (Or.inl e2)
        · exact Or.inr (Or.inr (Or.inl (by omega)))

theorem LtL_asymm {a b : List Int} (h : LtL a b) : ¬ LtL b a := fun h2 => LtL_irrefl _ (LtL_trans h h2)

theorem le_trans {a b c : List Int} (h1 : ¬ LtL b a) (h2 : ¬ LtL c b) : ¬ LtL c a := by
  intro h
  rcases LtL_tri a b with h3 | rfl | h3
  · exact h2 (LtL_trans h h3)
  · exact h2 h
  · exact h1 h3

theorem lt_of_le_lt {a b c : List Int} (h1 : ¬ LtL b a) (h2 : LtL b c) : LtL a c := by
  rcases LtL_tri a b with h3 | rfl | h3
  · exact LtL_trans h3 h2
  · exact h2
  · exact absurd h3 h1

theorem lt_of_lt_le {a b c : List Int} (h1 : LtL a b) (h2 : ¬ LtL c b) : LtL a c := by
  rcases LtL_tri b c with h3 | rfl | h3
  · exact LtL_trans h1 h3
  · exact h1
  · exact absurd h3 h2

theorem LtL_append : ∀ {a b c : List Int}, LtL (a ++ b) (a ++ c) ↔ LtL b c
  | [], b, c => by simp
  | x :: a, b, c => by
    simp only [List.cons_append, LtL, LtL_append (a := a)]
    constructor
    · rintro (h | h)
      · omega
      · exact h.2
    · intro h; exact Or.inr ⟨trivial, h⟩

theorem LtL_prefix {a b : List Int} (h : b ≠ []) : LtL a (a ++ b) := by
  have : LtL (a ++ []) (a ++ b) := LtL_append.2 (by cases b with | nil => exact absurd rfl h | cons _ _ => simp [LtL])
  simpa using this

theorem not_lt_prefix {a b : List Int} : ¬ LtL (a ++ b) a := by
  by_cases h : b = []
  · subst h; simpa using LtL_irrefl a
  · exact LtL_asymm (LtL_prefix h)

/-- they part at a place in both -/
def SL (a b : List Int) : Prop := ∃ t, t < a.length ∧ t < b.length ∧ a.getD t 0 < b.getD t 0 ∧ ∀ s, s < t → a.getD s 0 = b.getD s 0

theorem SL_lt : ∀ {a b : List Int}, SL a b → LtL a b
  | [], _, ⟨_, h, _⟩ => by simp at h
  | _ :: _, [], ⟨_, _, h, _⟩ => by simp at h
  | x :: a, y :: b, ⟨0, _, _, h, _⟩ => Or.inl (by simpa using h)
  | x :: a, y :: b, ⟨t + 1, h1, h2, h3, h4⟩ => by
    refine Or.inr ⟨by simpa using h4 0 (by omega), SL_lt ⟨t, by simpa using h1, by simpa using h2, by simpa using h3, fun s hs => by simpa using h4 (s + 1) (by omega)⟩⟩

theorem lt_cases : ∀ {a b : List Int}, LtL a b → SL a b ∨ ∃ c, c ≠ [] ∧ b = a ++ c
  | _, [], h => absurd h LtL_nil
  | [], y :: b, _ => Or.inr ⟨y :: b, by simp, by simp⟩
  | x :: a, y :: b, h => by
    rcases h with h | ⟨rfl, h⟩
    · exact Or.inl ⟨0, by simp, by simp, by simpa using h, fun s hs => by omega⟩
    · rcases lt_cases h with ⟨t, h1, h2, h3, h4⟩ | ⟨c, hc, rfl⟩
      · refine Or.inl ⟨t + 1, by simpa using h1, by simpa using h2, by simpa using h3, fun s hs => ?_⟩
        cases s with
        | zero => simp
        | succ s => simpa using h4 s (by omega)
      · exact Or.inr ⟨c, hc, by simp⟩

theorem SL_append {a b : List Int} (h : SL a b) (c d : List Int) : SL (a ++ c) (b ++ d) := by
  obtain ⟨t, h1, h2, h3, h4⟩ := h
  refine ⟨t, by simp only [List.length_append]; omega, by simp only [List.length_append]; omega, ?_, fun s hs => ?_⟩
  · simp only [List.getD, List.getElem?_append_left h1, List.getElem?_append_left h2] at h3 ⊢; exact h3
  · have := h4 s hs
    simp only [List.getD, List.getElem?_append_left (show s < a.length by omega), List.getElem?_append_left (show s < b.length by omega)] at this ⊢; exact this

/-- a Lyndon word -/
def Lyn (w : List Int) : Prop := w ≠ [] ∧ ∀ p s, w = p ++ s → p ≠ [] → s ≠ [] → LtL w s

theorem len_pos {a : List Int} (h : a ≠ []) : 0 < a.length := List.length_pos_iff.2 h

theorem Lyn.sl {w p s : List Int} (h : Lyn w) (e : w = p ++ s) (hp : p ≠ []) (hs : s ≠ []) : SL w s := by
  rcases lt_cases (h.2 p s e hp hs) with h | ⟨c, hc, e2⟩
  · exact h
  · have h1 := congrArg List.length e
    have h2 := congrArg List.length e2
    simp only [List.length_append] at h1 h2
    have := len_pos hp
    omega

theorem lyn_join {u v : List Int} (hu : Lyn u) (hv : Lyn v) (h : LtL u v) : Lyn (u ++ v) := by
  have hv1 : LtL (u ++ v) v := by
    rcases lt_cases h with h | ⟨c, hc, e⟩
    · have := SL_lt (SL_append h v []); simpa using this
    · subst e
      rw [LtL_append]
      exact hv.2 u c rfl hu.1 hc
  refine ⟨by simp [hu.1], fun p s e hp hs => ?_⟩
  rcases List.append_eq_append_iff.1 e with ⟨a, rfl, rfl⟩ | ⟨a, rfl, rfl⟩
  · by_cases ha : a = []
    · subst ha; simpa using hv1
    · exact LtL_trans hv1 (hv.2 a s rfl ha hs)
  · by_cases ha : a = []
    · subst ha; simpa using hv1
    · exact SL_lt (SL_append (hu.sl rfl hp ha) _ _)

theorem lyn_noborder {w p s q : List Int} (h : Lyn w) (e : w = p ++ s) (hp : p ≠ []) (e2 : w = s ++ q) : s = [] := by
  refine Decidable.byContradiction fun hs => ?_
  have := h.2 p s e hp hs
  rw [e2] at this
  exact not_lt_prefix this

theorem lyn_noper {w : List Int} (h : Lyn w) {p : Nat} (h1 : 1 ≤ p) (h2 : p < w.length) : ¬ Per (fun i => w[i]?) w.length p := by
  intro hp
  have e := (per_iff w p (by omega)).2 hp
  have := lyn_noborder h (List.take_append_drop p w).symm (fun e => by have := congrArg List.length e; rw [List.length_take] at this; simp only [List.length_nil] at this; omega) (q := w.drop (w.length - p)) (by rw [e, List.take_append_drop])
  have := congrArg List.length this
  simp at this
  omega

/-- non-increasing words -/
def NI : List (List Int) → Prop
  | [] => True
  | [_] => True
  | a :: b :: l => ¬ LtL a b ∧ NI (b :: l)

theorem NI.tail {a : List Int} : ∀ {l : List (List Int)}, NI (a :: l) → NI l
  | [], _ => trivial
  | _ :: _, h => h.2

theorem NI.le : ∀ {a : List Int} {l : List (List Int)}, NI (a :: l) → ∀ q, q ∈ l → ¬ LtL a q
  | _, [], _, q, hq => by simp at hq
  | a, b :: l, h, q, hq => by
    rcases List.mem_cons.1 hq with rfl | hq
    · exact h.1
    · exact le_trans (NI.le h.2 q hq) h.1

theorem inside : ∀ {l : List (List Int)} {a r : List Int}, a ≠ [] → a ++ r = l.flatten → ∃ q, q ∈ l ∧ ∃ x s y, a = x ++ s ∧ s ≠ [] ∧ q = s ++ y
  | [], a, r, ha, e => by simp [ha] at e
  | b :: l, a, r, ha, e => by
    simp only [List.flatten_cons] at e
    rcases List.append_eq_append_iff.1 e with ⟨c, rfl, e2⟩ | ⟨c, rfl, e2⟩
    · exact ⟨_, by simp, [], a, c, by simp, ha, rfl⟩
    · by_cases hc : c = []
      · subst hc
        exact ⟨b, by simp, [], b, [], by simp, by simpa using ha, by simp⟩
      · obtain ⟨q, hq, x, s, y, e3, hs, e4⟩ := inside hc e2.symm
        exact ⟨q, by simp [hq], b ++ x, s, y, by rw [e3]; simp, hs, e4⟩

theorem longer {a b r : List Int} {m : List (List Int)} (ha : Lyn a) (hb : b ≠ []) (hm : NI (b :: m)) {c : List Int} (hc : c ≠ []) (e : a = b ++ c) (e2 : c ++ r = m.flatten) : False := by
  obtain ⟨q, hq, x, s, y, e3, hs, e4⟩ := inside hc e2
  have h1 := ha.2 (b ++ x) s (by rw [e, e3]; simp) (by simp [hb]) hs
  have h2 : ¬ LtL q s := by rw [e4]; exact not_lt_prefix
  have h3 := hm.le q hq
  have h4 : ¬ LtL a b := by rw [e]; exact not_lt_prefix
  have h5 : ¬ LtL b s := le_trans h2 h3
  exact h4 (lt_of_lt_le h1 h5)

theorem uniq : ∀ {l m : List (List Int)}, NI l → NI m → (∀ x ∈ l, Lyn x) → (∀ x ∈ m, Lyn x) → l.flatten = m.flatten → l = m
  | [], [], _, _, _, _, _ => rfl
  | [], b :: m, _, _, _, h, e => by
    have := (h b (by simp)).1
    simp [this] at e
  | a :: l, [], _, _, h, _, e => by
    have := (h a (by simp)).1
    simp [this] at e
  | a :: l, b :: m, h1, h2, h3, h4, e => by
    simp only [List.flatten_cons] at e
    rcases List.append_eq_append_iff.1 e with ⟨c, e1, e2⟩ | ⟨c, e1, e2⟩
    · by_cases hc : c = []
      · subst hc
        simp only [List.append_nil] at e1
        simp only [List.nil_append] at e2
        rw [e1, uniq h1.tail h2.tail (fun x hx => h3 x (by simp [hx])) (fun x hx => h4 x (by simp [hx])) e2]
      · exact (longer (h4 b (by simp)) (h3 a (by simp)).1 h1 hc e1 e2.symm).elim
    · by_cases hc : c = []
      · subst hc
        simp only [List.append_nil] at e1
        simp only [List.nil_append] at e2
        rw [e1, uniq h1.tail h2.tail (fun x hx => h3 x (by simp [hx])) (fun x hx => h4 x (by simp [hx])) e2.symm]
      · exact (longer (h3 a (by simp)) (h4 b (by simp)).1 h2 hc e1 e2.symm).elim

/-- a Lyndon stretch, by places -/
def Seg (f : Nat → Int) (i n : Nat) : Prop := 0 < n ∧ ∀ d, 0 < d → d < n → ∃ t, d + t < n ∧ f (i + t) < f (i + d + t) ∧ ∀ s, s < t → f (i + s) = f (i + d + s)

theorem seg_lyn {w : List Int} {i n : Nat} (hin : i + n ≤ w.length) (h : Seg (fun t => w.getD t 0) i n) : Lyn ((w.drop i).take n) := by
  have hl : ((w.drop i).take n).length = n := by simp; omega
  have hg : ∀ t, t < n → ((w.drop i).take n).getD t 0 = w.getD (i + t) 0 := by
    intro t ht
    simp [List.getD, List.getElem?_take, ht, List.getElem?_drop]
  refine ⟨fun e => by rw [e] at hl; simp at hl; have := h.1; omega, fun p s e hp hs => ?_⟩
  have h1 := congrArg List.length e
  rw [hl, List.length_append] at h1
  have h2 := len_pos hp
  have h3 := len_pos hs
  obtain ⟨t, h4, h5, h6⟩ := h.2 p.length h2 (by omega)
  have hs2 : ∀ t, t < s.length → s.getD t 0 = w.getD (i + p.length + t) 0 := by
    intro t ht
    rw [show i + p.length + t = i + (p.length + t) by omega, ← hg (p.length + t) (by omega), e]
    simp only [List.getD]
    rw [List.getElem?_append_right (by omega), Nat.add_sub_cancel_left]
  refine SL_lt ⟨t, by omega, by omega, ?_, fun s' hs' => ?_⟩
  · rw [hg t (by omega), hs2 t (by omega)]; exact h5
  · rw [hg s' (by omega), hs2 s' (by omega)]; exact h6 s' hs'

theorem lyn_seg {w : List Int} {i n : Nat} (hin : i + n ≤ w.length) (h : Lyn ((w.drop i).take n)) : Seg (fun t => w.getD t 0) i n := by
  have hl : ((w.drop i).take n).length = n := by simp; omega
  have hg : ∀ t, t < n → ((w.drop i).take n).getD t 0 = w.getD (i + t) 0 := by
    intro t ht
    simp [List.getD, List.getElem?_take, ht, List.getElem?_drop]
  refine ⟨by have := len_pos h.1; omega, fun d hd hdn => ?_⟩
  obtain ⟨t, h1, h2, h3, h4⟩ := h.sl (List.take_append_drop d _).symm (fun e => by have := congrArg List.length e; simp at this; omega) (fun e => by have := congrArg List.length e; simp at this; omega)
  have hs2 : ∀ t, d + t < n → (((w.drop i).take n).drop d).getD t 0 = w.getD (i + d + t) 0 := by
    intro t ht
    rw [show i + d + t = i + (d + t) by omega, ← hg (d + t) ht]
    simp [List.getD]
  simp only [List.length_drop, hl] at h1 h2
  refine ⟨t, by omega, ?_, fun s hs => ?_⟩
  · rw [hg t (by omega), hs2 t (by omega)] at h3; exact h3
  · have := h4 s hs
    rw [hg s (by omega), hs2 s (by omega)] at this; exact this

/-- Duval's step: a greater byte ends a Lyndon stretch -/
theorem seg_grow {f : Nat → Int} {i j P : Nat} (hP : Seg f i P) (hj : i + P ≤ j) (hper : ∀ t, i ≤ t → t + P < j → f t = f (t + P)) (hlt : f (j - P) < f j) : Seg f i (j + 1 - i) := by
  have hpos := hP.1
  have hmul : ∀ m t, i ≤ t → t + m * P < j → f t = f (t + m * P) := by
    intro m
    induction m with
    | zero => intro t _ _; simp
    | succ m ih =>
      intro t h1 h2
      rw [Nat.add_mul, Nat.one_mul] at h2 ⊢
      rw [ih t h1 (by omega), hper (t + m * P) (by omega) (by omega), Nat.add_assoc]
  -- the byte that the period would put at j
  let g : Nat → Int := fun t => f (i + t % P)
  have hg : ∀ t, i + t < j → f (i + t) = g t := by
    intro t ht
    have e : t % P + t / P * P = t := by have := Nat.mod_add_div t P; rw [Nat.mul_comm] at this; exact this
    have := hmul (t / P) (i + t % P) (by omega) (by rw [Nat.add_assoc, e]; exact ht)
    rw [Nat.add_assoc, e] at this
    exact this.symm
  have hgj : f (j - P) = g (j - i) := by
    have := hg (j - P - i) (by omega)
    rw [show i + (j - P - i) = j - P by omega] at this
    rw [this]
    show f (i + (j - P - i) % P) = f (i + (j - i) % P)
    rw [show j - i = (j - P - i) + P by omega, Nat.add_mod_right]
  have hgP : ∀ m t, g (m * P + t) = g t := by
    intro m t
    show f _ = f _
    rw [Nat.mul_comm, Nat.mul_add_mod]
  refine ⟨by omega, fun d hd hdn => ?_⟩
  have hdl : d ≤ j - i := by omega
  -- d and its remainder
  have ed : d / P * P + d % P = d := by have := Nat.div_add_mod d P; rw [Nat.mul_comm] at this; exact this
  have hr := Nat.mod_lt d hpos
  by_cases h0 : d % P = 0
  · refine ⟨j - i - d, by omega, ?_, fun s hs => ?_⟩
    · rw [hg (j - i - d) (by omega), show i + d + (j - i - d) = j by omega]
      have e : g (j - i) = g (j - i - d) := by
        rw [show j - i = d / P * P + (j - i - d) by omega, hgP]
        congr 1
        omega
      rw [← e, ← hgj]
      exact hlt
    · rw [hg s (by omega), show i + d + s = i + (d + s) by omega, hg (d + s) (by omega), show d + s = d / P * P + s by omega, hgP]
  · obtain ⟨t0, h1, h2, h3⟩ := hP.2 (d % P) (by omega) hr
    have hgd : ∀ t, d % P + t < P → g (d + t) = f (i + d % P + t) := by
      intro t ht
      rw [show d + t = d / P * P + (d % P + t) by omega, hgP]
      show f _ = f _
      rw [Nat.mod_eq_of_lt ht, Nat.add_assoc]
    have hgt : ∀ t, t < P → g t = f (i + t) := by
      intro t ht
      show f _ = f _
      rw [Nat.mod_eq_of_lt ht]
    by_cases hlast : d + t0 < j - i
    · refine ⟨t0, by omega, ?_, fun s hs => ?_⟩
      · rw [show i + d + t0 = i + (d + t0) by omega, hg (d + t0) (by omega), hgd t0 h1]
        exact h2
      · rw [show i + d + s = i + (d + s) by omega, hg (d + s) (by omega), hgd s (by omega)]
        exact h3 s hs
    · have ht1 : j - i - d ≤ t0 := by omega
      refine ⟨j - i - d, by omega, ?_, fun s hs => ?_⟩
      · rw [show i + d + (j - i - d) = j by omega]
        have e1 : g (j - i) = f (i + d % P + (j - i - d)) := by
          rw [← hgd (j - i - d) (by omega)]
          congr 1
          omega
        rw [hgj, e1] at hlt
        by_cases he : j - i - d = t0
        · rw [he] at hlt ⊢
          omega
        · rw [h3 (j - i - d) (by omega)]
          exact hlt
      · rw [show i + d + s = i + (d + s) by omega, hg (d + s) (by omega), hgd s (by omega)]
        exact h3 s (by omega)

/-! ### rotations, words that commute -/

def rot (w : List Int) (k : Nat) : List Int := w.drop k ++ w.take k

theorem rot_length (w : List Int) (k : Nat) : (rot w k).length = w.length := by
  simp only [rot, List.length_append, List.length_drop, List.length_take]; omega

theorem rot_get {w : List Int} {k t : Nat} (hk : k ≤ w.length) (ht : t < w.length) : (rot w k)[t]? = w[(t + k) % w.length]? := by
  unfold rot
  by_cases h : t < w.length - k
  · rw [List.getElem?_append_left (by simp; omega), List.getElem?_drop, Nat.mod_eq_of_lt (by omega), Nat.add_comm]
  · rw [List.getElem?_append_right (by simp; omega), List.getElem?_take, List.length_drop, if_pos (by omega)]
    have e : t + k = (t - (w.length - k)) + w.length := by omega
    by_cases h2 : t + k < w.length
    · omega
    · rw [Nat.mod_eq_sub_mod (by omega)]
      by_cases h3 : t + k - w.length < w.length
      · rw [Nat.mod_eq_of_lt h3]
        congr 1
        omega
      · omega

theorem rot_rot {w : List Int} {a b : Nat} (ha : a ≤ w.length) (hb : b ≤ w.length) (h0 : 0 < w.length) : rot (rot w a) b = rot w ((a + b) % w.length) := by
  apply List.ext_getElem?
  intro t
  by_cases ht : t < w.length
  · rw [rot_get (by rw [rot_length]; exact hb) (by rw [rot_length]; exact ht), rot_length, rot_get ha (Nat.mod_lt _ h0), rot_get (Nat.le_of_lt (Nat.mod_lt _ h0)) ht]
    congr 1
    rw [Nat.mod_add_mod, Nat.add_mod_mod]
    congr 1
    omega
  · rw [List.getElem?_eq_none (by rw [rot_length, rot_length]; omega), List.getElem?_eq_none (by rw [rot_length]; omega)]

theorem commute_per {x y : List Int} (hx : x ≠ []) (hy : y ≠ []) (e : x ++ y = y ++ x) : Per (fun i => (x ++ y)[i]?) (x ++ y).length (Nat.gcd x.length y.length) := by
  have h1 := len_pos hx
  have h2 := len_pos hy
  have hl : (x ++ y).length = x.length + y.length := by simp
  refine fw _ x.length y.length _ rfl h1 h2 (by rw [hl]; omega) ?_ ?_
  · refine (per_iff _ _ (by rw [hl]; omega)).1 ?_
    rw [hl, show x.length + y.length - x.length = y.length by omega, List.drop_left]
    rw [e, List.take_left]
  · refine (per_iff _ _ (by rw [hl]; omega)).1 ?_
    rw [hl, show x.length + y.length - y.length = x.length by omega, List.take_left]
    rw [e, List.drop_left]

theorem per_mod {w : List Int} {p : Nat} (h : Per (fun i => w[i]?) w.length p) {j : Nat} (hj : j < w.length) : w[j]? = w[j % p]? := by
  have e : j % p + j / p * p = j := by have := Nat.mod_add_div j p; rw [Nat.mul_comm] at this; exact this
  have := h.mul (j / p) (j % p) (by omega)
  simp only [e] at this
  exact this.symm

theorem rot_per {w : List Int} {p k : Nat} (hk : k ≤ w.length) (hp : 0 < p) (hd : p ∣ w.length) (h : Per (fun i => w[i]?) w.length p) : Per (fun i => (rot w k)[i]?) (rot w k).length p := by
  intro i hi
  rw [rot_length] at hi
  simp only
  rw [rot_get hk (by omega), rot_get hk (by omega), per_mod h (Nat.mod_lt _ (by omega)), per_mod h (Nat.mod_lt _ (by omega)), Nat.mod_mod_of_dvd _ hd, Nat.mod_mod_of_dvd _ hd]
  rw [show i + p + k = i + k + p by omega, Nat.add_mod_right]

/-- no shorter word is repeated -/
def Prim (w : List Int) : Prop := ∀ p, 1 ≤ p → p < w.length → p ∣ w.length → ¬ Per (fun i => w[i]?) w.length p

theorem prim_rot {w : List Int} {k : Nat} (hk : k ≤ w.length) (h : Prim w) : Prim (rot w k) := by
  intro p h1 h2 h3 h4
  rw [rot_length] at h2 h3
  have h0 : 0 < w.length := by omega
  have := rot_per (k := w.length - k) (by rw [rot_length]; omega) (by omega) (by rw [rot_length]; exact h3) h4
  rw [rot_rot hk (by omega) h0, show k + (w.length - k) = w.length by omega, Nat.mod_self] at this
  have e : rot w 0 = w := by simp [rot]
  rw [e] at this
  exact h p h1 h2 h3 this

/-- the least rotation of a word that is no power is a Lyndon word -/
theorem least_lyn {b : List Int} (h0 : b ≠ []) (hp : Prim b) (hmin : ∀ k, k ≤ b.length → ¬ LtL (rot b k) b) : Lyn b := by
  refine ⟨h0, fun x y e hx hy => ?_⟩
  have hr : rot b x.length = y ++ x := by rw [e]; simp [rot]
  have hlen : b.length = x.length + y.length := by rw [e]; simp
  have h1 := hmin x.length (by omega)
  rw [hr] at h1
  have hx1 := len_pos hx
  have hy1 := len_pos hy
  rcases LtL_tri b (y ++ x) with h2 | h2 | h2
  · -- strictly less than its rotation
    rcases lt_cases h2 with ⟨t, h3, h4, h5, h6⟩ | ⟨c, hc, e2⟩
    · by_cases ht : t < y.length
      · refine SL_lt ⟨t, h3, ht, ?_, fun s hs => ?_⟩
        · simp only [List.getD, List.getElem?_append_left ht] at h5 ⊢; exact h5
        · have := h6 s hs
          simp only [List.getD, List.getElem?_append_left (show s < y.length by omega)] at this ⊢; exact this
      · -- y is a prefix of b
        have hpre : b.take y.length = y := by
          apply List.ext_getElem?
          intro s
          by_cases hs : s < y.length
          · have h7 := h6 s (by omega)
            simp only [List.getD, List.getElem?_append_left hs] at h7
            rw [List.getElem?_take, if_pos hs]
            rw [List.getElem?_eq_getElem (show s < b.length by omega), List.getElem?_eq_getElem hs] at h7 ⊢
            simpa using h7
          · rw [List.getElem?_take, if_neg hs, List.getElem?_eq_none (by omega)]
        have hb : b = y ++ b.drop y.length := by
          conv => lhs; rw [← List.take_append_drop y.length b, hpre]
        have hz : LtL (b.drop y.length) x := by rw [hb, LtL_append] at h2; exact h2
        have hzl : (b.drop y.length).length = x.length := by simp; omega
        have h8 : SL (b.drop y.length) x := by
          rcases lt_cases hz with h | ⟨c, hc, e3⟩
          · exact h
          · have := congrArg List.length e3
            simp only [List.length_append, hzl] at this
            have := len_pos hc
            omega
        have h9 := SL_lt (SL_append h8 y y)
        have h10 : rot b y.length = b.drop y.length ++ y := by unfold rot; rw [hpre]
        have := hmin y.length (by omega)
        rw [h10] at this
        rw [← e] at h9
        exact absurd h9 this
    · have := congrArg List.length e2
      simp only [List.length_append] at this
      have := len_pos hc
      omega
  · -- equal to it: a power
    rw [e] at h2
    have h3 := commute_per hx hy h2
    rw [← e] at h3
    have hg : Nat.gcd x.length y.length ≤ x.length := Nat.le_of_dvd hx1 (Nat.gcd_dvd_left _ _)
    have hg0 : 0 < Nat.gcd x.length y.length := Nat.gcd_pos_of_pos_left _ hx1
    exact absurd h3 (hp _ hg0 (by omega) (by rw [hlen]; exact Nat.dvd_add (Nat.gcd_dvd_left _ _) (Nat.gcd_dvd_right _ _)))
  · exact absurd h2 h1

/-! ### words that commute have one root -/

/-- the least repeated length -/
def RootLen (w : List Int) (p : Nat) : Prop := 1 ≤ p ∧ p ≤ w.length ∧ p ∣ w.length ∧ Per (fun i => w[i]?) w.length p ∧ ∀ q, 1 ≤ q → q < p → q ∣ w.length → ¬ Per (fun i => w[i]?) w.length q

theorem per_div {w : List Int} {p q : Nat} (hp : 1 ≤ p) (hpl : p ≤ w.length) (hq1 : 1 ≤ q) (hq : q ∣ p) (h1 : Per (fun i => w[i]?) w.length p) (h2 : Per (fun i => (w.take p)[i]?) (w.take p).length q) : Per (fun i => w[i]?) w.length q := by
  have hlt : (w.take p).length = p := by simp; omega
  have hm : ∀ j, j < w.length → w[j]? = w[j % q]? := by
    intro j hj
    have hj2 : j % p < p := Nat.mod_lt _ (by omega)
    rw [per_mod h1 hj]
    have := per_mod h2 (j := j % p) (by rw [hlt]; exact hj2)
    rw [List.getElem?_take, if_pos hj2, Nat.mod_mod_of_dvd _ hq, List.getElem?_take, if_pos (Nat.lt_of_lt_of_le (Nat.mod_lt _ hq1) (Nat.le_of_dvd (by omega) hq))] at this
    exact this
  intro i hi
  simp only
  rw [hm i (by omega), hm (i + q) hi, Nat.add_mod_right]

theorem root_dvd {w : List Int} {p g : Nat} (h : RootLen w p) (hg1 : 1 ≤ g) (hgd : g ∣ w.length) (hg : Per (fun i => w[i]?) w.length g) : p ∣ g := by
  obtain ⟨h1, h2, h3, h4, h5⟩ := h
  have hgl : g ≤ w.length := Nat.le_of_dvd (by omega) hgd
  have hgc : 0 < Nat.gcd p g := Nat.gcd_pos_of_pos_left _ h1
  have hsum : p + g ≤ w.length + Nat.gcd p g := by
    by_cases e1 : p = w.length
    · have : Nat.gcd p g = g := by rw [e1, Nat.gcd_comm]; exact Nat.gcd_eq_left hgd
      omega
    · by_cases e2 : g = w.length
      · have : Nat.gcd p g = p := by rw [e2]; exact Nat.gcd_eq_left h3
        omega
      · obtain ⟨a, ha⟩ := h3
        obtain ⟨b, hb⟩ := hgd
        have ha2 : 2 ≤ a := by
          rcases a with _ | _ | a
          · rw [Nat.mul_zero] at ha; omega
          · rw [Nat.zero_add, Nat.mul_one] at ha; exact absurd ha.symm e1
          · omega
        have hb2 : 2 ≤ b := by
          rcases b with _ | _ | b
          · rw [Nat.mul_zero] at hb; omega
          · rw [Nat.zero_add, Nat.mul_one] at hb; exact absurd hb.symm e2
          · omega
        have := Nat.mul_le_mul_left p ha2
        have := Nat.mul_le_mul_left g hb2
        omega
  have h6 := fw _ p g w.length rfl h1 hg1 hsum h4 hg
  have h7 : ¬ Nat.gcd p g < p := fun hlt => h5 _ hgc hlt (Nat.dvd_trans (Nat.gcd_dvd_left _ _) h3) h6
  have h8 : Nat.gcd p g = p := by have := Nat.le_of_dvd h1 (Nat.gcd_dvd_left p g); omega
  rw [← h8]
  exact Nat.gcd_dvd_right _ _

theorem per_prefix {w u : List Int} {v : List Int} {g : Nat} (e : w = u ++ v) (h : Per (fun i => w[i]?) w.length g) : Per (fun i => u[i]?) u.length g := by
  intro i hi
  have := h i (by rw [e, List.length_append]; omega)
  simp only [e] at this ⊢
  rw [List.getElem?_append_left (by omega), List.getElem?_append_left (by omega)] at this
  exact this

theorem root_take {w : List Int} {p g : Nat} (h : RootLen w p) (hg1 : 1 ≤ g) (hgd : g ∣ w.length) (hg : Per (fun i => w[i]?) w.length g) : RootLen (w.take g) p := by
  have hd := root_dvd h hg1 hgd hg
  obtain ⟨h1, h2, h3, h4, h5⟩ := h
  have hgl : g ≤ w.length := Nat.le_of_dvd (by omega) hgd
  have hl : (w.take g).length = g := by simp; omega
  refine ⟨h1, by rw [hl]; exact Nat.le_of_dvd hg1 hd, by rw [hl]; exact hd, per_prefix (List.take_append_drop g w).symm h4, fun q hq1 hq2 hq3 hq4 => ?_⟩
  rw [hl] at hq3
  exact h5 q hq1 hq2 (Nat.dvd_trans hq3 hgd) (per_div hg1 hgl hq1 hq3 hg hq4)

theorem RootLen.uniq {w : List Int} {p q : Nat} (h1 : RootLen w p) (h2 : RootLen w q) : p = q := by
  obtain ⟨a1, a2, a3, a4, a5⟩ := h1
  obtain ⟨b1, b2, b3, b4, b5⟩ := h2
  rcases Nat.lt_trichotomy p q with h | h | h
  · exact absurd a4 (b5 p a1 h a3)
  · exact h
  · exact absurd b4 (a5 q b1 h b3)

theorem rep_of_per {r : List Int} : ∀ (k : Nat) (w : List Int), w.length = k * r.length → w.take r.length = r.take w.length → Per (fun i => w[i]?) w.length r.length → w = (List.replicate k r).flatten
  | 0, w, hl, _, _ => by simp at hl; simp [hl]
  | k + 1, w, hl, ht, hp => by
    rw [Nat.add_mul, Nat.one_mul] at hl
    have e1 : w.take r.length = r := by rw [ht, List.take_of_length_le (by omega)]
    have e2 : w = r ++ w.drop r.length := by conv => lhs; rw [← List.take_append_drop r.length w, e1]
    have hl2 : (w.drop r.length).length = k * r.length := by simp; omega
    have := rep_of_per k (w.drop r.length) hl2 (by
      rw [(per_iff w r.length (by omega)).2 hp, List.take_take, hl, Nat.add_sub_cancel, List.length_take, Nat.min_eq_left (show k * r.length ≤ w.length by omega)]
      have e3 : min r.length (k * r.length) = min (k * r.length) r.length := Nat.min_comm _ _
      rw [e3, ← List.take_take, e1]) (fun i hi => by
      rw [List.length_drop] at hi
      have := hp (r.length + i) (by omega)
      simp only [List.getElem?_drop] at this ⊢
      rw [this]
      congr 1
      omega)
    rw [List.replicate_succ, List.flatten_cons, ← this]
    exact e2

theorem commute_iff {u v : List Int} {p q : Nat} (hu : RootLen u p) (hv : RootLen v q) : u ++ v = v ++ u ↔ u.take p = v.take q := by
  have hu0 : u ≠ [] := fun e => by have := hu.1; have := hu.2.1; rw [e] at this; simp at this; omega
  have hv0 : v ≠ [] := fun e => by have := hv.1; have := hv.2.1; rw [e] at this; simp at this; omega
  constructor
  · intro e
    have hper := commute_per hu0 hv0 e
    have hg1 : 1 ≤ Nat.gcd u.length v.length := Nat.gcd_pos_of_pos_left _ (len_pos hu0)
    have hgu := per_prefix (g := Nat.gcd u.length v.length) (w := u ++ v) (u := u) (v := v) rfl hper
    have hgv := per_prefix (g := Nat.gcd u.length v.length) (w := u ++ v) (u := v) (v := u) e hper
    have hru := root_take hu hg1 (Nat.gcd_dvd_left _ _) hgu
    have hrv := root_take hv hg1 (Nat.gcd_dvd_right _ _) hgv
    have hgul := Nat.le_of_dvd (len_pos hu0) (Nat.gcd_dvd_left u.length v.length)
    have hgvl := Nat.le_of_dvd (len_pos hv0) (Nat.gcd_dvd_right u.length v.length)
    have hz : u.take (Nat.gcd u.length v.length) = v.take (Nat.gcd u.length v.length) := by
      have := congrArg (List.take (Nat.gcd u.length v.length)) e
      rw [List.take_append_of_le_length hgul, List.take_append_of_le_length hgvl] at this
      exact this
    rw [hz] at hru
    have hpq := hru.uniq hrv
    subst hpq
    have hpg : p ≤ Nat.gcd u.length v.length := by have := hrv.2.1; simp at this; omega
    have := congrArg (List.take p) hz
    rw [List.take_take, List.take_take, Nat.min_eq_left hpg] at this
    exact this
  · intro e
    have hlu : (u.take p).length = p := by have := hu.2.1; simp; omega
    have hlv : (v.take q).length = q := by have := hv.2.1; simp; omega
    obtain ⟨i, hi⟩ := hu.2.2.1
    obtain ⟨j, hj⟩ := hv.2.2.1
    have e1 := rep_of_per (r := u.take p) i u (by rw [hlu, hi, Nat.mul_comm]) (by rw [hlu, List.take_take, Nat.min_eq_right hu.2.1]) (by rw [hlu]; exact hu.2.2.2.1)
    have e2 := rep_of_per (r := v.take q) j v (by rw [hlv, hj, Nat.mul_comm]) (by rw [hlv, List.take_take, Nat.min_eq_right hv.2.1]) (by rw [hlv]; exact hv.2.2.2.1)
    rw [← e] at e2
    generalize u.take p = r at e1 e2
    rw [e1, e2, ← List.flatten_append, ← List.flatten_append, List.replicate_append_replicate, List.replicate_append_replicate, Nat.add_comm]
end Lyn
