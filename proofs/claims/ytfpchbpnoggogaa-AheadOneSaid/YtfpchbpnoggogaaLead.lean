/-
  Proper grammars that one sign ahead decides (plain Lean).
-/
import Derived.Test.YtfpchbpnoggogaaTabX
import Derived.Test.YtfpchbpnoggogaaMaps
set_option linter.unusedSimpArgs false
set_option linter.unusedVariables false
namespace Cfg

/-- no rule is empty or a lone name -/
def Prop1 (K : Int) (R : Rules) : Prop := ∀ r ∈ R, r.2 ≠ [] ∧ ∀ s, r.2 = [s] → s < K

def FstN (K : Int) (R : Rules) : Nat → Int → Int → Prop
  | 0, _, _ => False
  | n + 1, A, s => ∃ r, r ∈ R ∧ r.1 = A ∧ ∃ x l, r.2 = x :: l ∧ (x < K → x = s) ∧ (¬ x < K → FstN K R n (x - K) s)

def Fst (K : Int) (R : Rules) (A s : Int) : Prop := ∃ n, FstN K R n A s

def Head (K : Int) (R : Rules) (x s : Int) : Prop := (x < K → x = s) ∧ (¬ x < K → Fst K R (x - K) s)

def Look (K : Int) (R : Rules) (r : Int × List Int) (s : Int) : Prop := ∃ x l, r.2 = x :: l ∧ Head K R x s

def Clear (K : Int) (R : Rules) : Prop := ∀ a b, a < b → b < R.length → (R.getD a (0, [])).1 = (R.getD b (0, [])).1 → ∀ s, ¬ (Look K R (R.getD a (0, [])) s ∧ Look K R (R.getD b (0, [])) s)

section
variable {K : Int} {R : Rules} {w : List Int}

theorem FstN.up : ∀ (n : Nat) (A s : Int), FstN K R n A s → FstN K R (n + 1) A s
  | 0, _, _, h => False.elim h
  | n + 1, A, s, ⟨r, h1, h2, x, l, h3, h4, h5⟩ => ⟨r, h1, h2, x, l, h3, h4, fun h => FstN.up n _ s (h5 h)⟩

theorem FstN.mono {n m : Nat} {A s : Int} (h : FstN K R n A s) (hm : n ≤ m) : FstN K R m A s := by
  induction hm with
  | refl => exact h
  | step _ ih => exact ih.up

theorem Look.fst {r : Int × List Int} {s : Int} (hr : r ∈ R) (h : Look K R r s) : Fst K R r.1 s := by
  obtain ⟨x, l, h1, h2, h3⟩ := h
  by_cases hx : x < K
  · exact ⟨1, r, hr, rfl, x, l, h1, h2, fun h => absurd hx h⟩
  · obtain ⟨n, hn⟩ := h3 hx
    exact ⟨n + 1, r, hr, rfl, x, l, h1, h2, fun _ => hn⟩

theorem Row.len (hp : Prop1 K R) {l : List Int} {i j : Nat} (h : Row K R w l i j) : i + l.length ≤ j := by
  induction h with
  | nil i h => simp
  | sym s l i j hs hi h ih => simp only [List.length_cons]; omega
  | name s l r i m j hs hr h1 h2 ih1 ih2 =>
    have := (hp _ hr).1
    have h3 : 1 ≤ r.length := by
      cases r with
      | nil => exact absurd rfl this
      | cons a b => simp
    simp only [List.length_cons]; omega

theorem Row.head (hp : Prop1 K R) {l : List Int} {i j : Nat} (h : Row K R w l i j) : ∀ x t, l = x :: t → ∃ s, w[i]? = some s ∧ Head K R x s := by
  induction h with
  | nil i h => intro x t e; cases e
  | sym s l i j hs hi h ih =>
    intro x t e
    cases e
    exact ⟨s, hi, fun _ => rfl, fun h => absurd hs h⟩
  | name s l r i m j hs hr h1 h2 ih1 ih2 =>
    intro x t e
    cases e
    have hne := (hp _ hr).1
    cases r with
    | nil => exact absurd rfl hne
    | cons y t' =>
      obtain ⟨q, h3, h4⟩ := ih1 y t' rfl
      exact ⟨q, h3, fun h => absurd h hs, fun _ => Look.fst hr ⟨y, t', rfl, h4⟩⟩

theorem Row.look (hp : Prop1 K R) {r : Int × List Int} (hr : r ∈ R) {i j : Nat} (h : Row K R w r.2 i j) : ∃ s, w[i]? = some s ∧ Look K R r s := by
  have hne := (hp _ hr).1
  obtain ⟨A, l⟩ := r
  cases l with
  | nil => exact absurd rfl hne
  | cons x t =>
    obtain ⟨s, h1, h2⟩ := h.head hp x t rfl
    exact ⟨s, h1, x, t, rfl, h2⟩

theorem mem_getD {a : Nat} (ha : a < R.length) : R.getD a (0, []) ∈ R := by
  rw [List.getD_eq_getElem?_getD, List.getElem?_eq_getElem ha]
  exact List.getElem_mem ha

theorem getD_of_mem {r : Int × List Int} (h : r ∈ R) : ∃ a, a < R.length ∧ R.getD a (0, []) = r := by
  obtain ⟨j, hj, ej⟩ := List.mem_iff_getElem.1 h
  exact ⟨j, hj, by rw [List.getD_eq_getElem?_getD, List.getElem?_eq_getElem hj]; exact ej⟩

/-- one sign tells the rule -/
theorem Clear.one (hc : Clear K R) {a b : Nat} (ha : a < R.length) (hb : b < R.length) (hn : (R.getD a (0, [])).1 = (R.getD b (0, [])).1) {s : Int} (h1 : Look K R (R.getD a (0, [])) s) (h2 : Look K R (R.getD b (0, [])) s) : a = b := by
  rcases Nat.lt_trichotomy a b with h | h | h
  · exact absurd ⟨h1, h2⟩ (hc a b h hb hn s)
  · exact h
  · exact absurd ⟨h2, h1⟩ (hc b a h ha hn.symm s)

theorem Clear.fit (hp : Prop1 K R) (hc : Clear K R) {a b : Nat} (ha : a < R.length) (hb : b < R.length) (hn : (R.getD a (0, [])).1 = (R.getD b (0, [])).1) {i j j' : Nat} (h1 : Row K R w (R.getD a (0, [])).2 i j) (h2 : Row K R w (R.getD b (0, [])).2 i j') : a = b := by
  obtain ⟨s, h3, h4⟩ := h1.look hp (mem_getD ha)
  obtain ⟨s', h5, h6⟩ := h2.look hp (mem_getD hb)
  rw [h3] at h5
  cases h5
  exact hc.one ha hb hn h4 h6

/-- what a row derives from a place ends at one place -/
theorem Clear.det (hp : Prop1 K R) (hc : Clear K R) {l : List Int} {i j : Nat} (h : Row K R w l i j) : ∀ j', Row K R w l i j' → j = j' := by
  induction h with
  | nil i h => intro j' h'; cases h'; rfl
  | sym s l i j hs hi h ih =>
    intro j' h'
    cases h' with
    | sym _ _ _ _ _ _ h2 => exact ih _ h2
    | name _ _ _ _ _ _ hs2 => exact absurd hs hs2
  | name s l r i m j hs hr h1 h2 ih1 ih2 =>
    intro j' h'
    cases h' with
    | sym _ _ _ _ hs2 => exact absurd hs2 hs
    | name _ _ r' _ m' _ _ hr' h1' h2' =>
      obtain ⟨a, ha, ea⟩ := getD_of_mem hr
      obtain ⟨b, hb, eb⟩ := getD_of_mem hr'
      have : a = b := hc.fit hp ha hb (by rw [ea, eb]) (i := i) (j := m) (j' := m') (w := w) (by rw [ea]; exact h1) (by rw [eb]; exact h1')
      subst this
      rw [ea] at eb
      cases eb
      have := ih1 _ h1'
      subst this
      exact ih2 _ h2'

theorem row_cons {s : Int} {l : List Int} {i j : Nat} : Row K R w (s :: l) i j ↔ ∃ m, Row K R w [s] i m ∧ Row K R w l m j := by
  constructor
  · intro h
    cases h with
    | sym _ _ _ _ hs hi h2 => exact ⟨i + 1, .sym _ _ _ _ hs hi (.nil _ (by have := h2.le; omega)), h2⟩
    | name _ _ r _ m _ hs hr h1 h2 => exact ⟨m, .name _ _ r _ m _ hs hr h1 (.nil _ h1.le.2), h2⟩
  · rintro ⟨m, h1, h2⟩
    cases h1 with
    | sym _ _ _ _ hs hi h3 => cases h3; exact .sym _ _ _ _ hs hi h2
    | name _ _ r _ m' _ hs hr h3 h4 => cases h4; exact .name _ _ r _ _ _ hs hr h3 h2

theorem row_sym {s : Int} {i j : Nat} (hs : s < K) : Row K R w [s] i j ↔ j = i + 1 ∧ w[i]? = some s := by
  constructor
  · intro h
    cases h with
    | sym _ _ _ _ _ hi h2 => cases h2; exact ⟨rfl, hi⟩
    | name _ _ r _ m _ hs2 => exact absurd hs hs2
  · rintro ⟨rfl, hi⟩
    have : i < w.length := by
      refine Nat.lt_of_not_le fun hle => ?_
      rw [List.getElem?_eq_none hle] at hi
      cases hi
    exact .sym _ _ _ _ hs hi (.nil _ (by omega))

theorem row_name {s : Int} {i j : Nat} (hs : ¬ s < K) : Row K R w [s] i j ↔ ∃ a, a < R.length ∧ (R.getD a (0, [])).1 = s - K ∧ Row K R w (R.getD a (0, [])).2 i j := by
  constructor
  · intro h
    cases h with
    | sym _ _ _ _ hs2 => exact absurd hs2 hs
    | name _ _ r _ m _ _ hr h1 h2 =>
      cases h2
      obtain ⟨a, ha, ea⟩ := getD_of_mem hr
      exact ⟨a, ha, by rw [ea], by rw [ea]; exact h1⟩
  · rintro ⟨a, ha, ea, h⟩
    refine .name _ _ (R.getD a (0, [])).2 _ j _ hs ?_ h (.nil _ h.le.2)
    rw [← ea]
    exact mem_getD ha

theorem row_append {l k : List Int} {i j : Nat} : Row K R w (l ++ k) i j ↔ ∃ m, Row K R w l i m ∧ Row K R w k m j := by
  induction l generalizing i with
  | nil =>
    constructor
    · intro h; exact ⟨i, .nil _ (by have := h.le; omega), h⟩
    · rintro ⟨m, h1, h2⟩; cases h1; exact h2
  | cons s l ih =>
    rw [List.cons_append, row_cons]
    constructor
    · rintro ⟨m, h1, h2⟩
      obtain ⟨m', h3, h4⟩ := ih.1 h2
      exact ⟨m', row_cons.2 ⟨m, h1, h3⟩, h4⟩
    · rintro ⟨m, h1, h2⟩
      obtain ⟨m', h3, h4⟩ := row_cons.1 h1
      exact ⟨m', h3, ih.2 ⟨m, h4, h2⟩⟩

/-! ### heights -/

theorem rank_names (s : Int) : ∀ (n : Nat) (A : Int), FstN K R (n + 1) A s → ¬ FstN K R n A s → ∃ l : List Int, l.length = n + 1 ∧ l.Nodup ∧ ∀ B ∈ l, (∃ r ∈ R, r.1 = B) ∧ FstN K R (n + 1) B s
  | 0, A, h, hn => by
    obtain ⟨r, h1, h2, h3⟩ := id h
    exact ⟨[A], rfl, by simp, by simpa using ⟨⟨r.2, by rw [← h2]; exact h1⟩, h⟩⟩
  | n + 1, A, h, hn => by
    obtain ⟨r, h1, h2, x, t, h3, h4, h5⟩ := id h
    have hx : ¬ x < K := fun hx => hn ⟨r, h1, h2, x, t, h3, h4, fun h => absurd hx h⟩
    have h6 := h5 hx
    have h7 : ¬ FstN K R n (x - K) s := fun h8 => hn ⟨r, h1, h2, x, t, h3, h4, fun _ => h8⟩
    obtain ⟨l, l1, l2, l3⟩ := rank_names s n (x - K) h6 h7
    refine ⟨A :: l, by simp [l1], List.nodup_cons.2 ⟨fun hm => hn (l3 A hm).2, l2⟩, ?_⟩
    intro B hB
    rcases List.mem_cons.1 hB with e | e
    · rw [e]; exact ⟨⟨r, h1, h2⟩, h⟩
    · exact ⟨(l3 B e).1, (l3 B e).2.up⟩

theorem nodup_le' {α : Type} [DecidableEq α] {a b : List α} (ha : a.Nodup) (hb : ∀ x, x ∈ a → x ∈ b) : a.length ≤ b.length := by
  refine Dec.pigeon b.length a.length (fun i => match a[i]? with | some x => b.idxOf x | none => 0) (fun i hi => ?_) fun i j hij hj e => ?_
  · simp only [List.getElem?_eq_getElem hi]
    exact List.idxOf_lt_length_of_mem (hb _ (List.getElem_mem hi))
  · simp only [List.getElem?_eq_getElem (show i < a.length by omega), List.getElem?_eq_getElem hj] at e
    have h1 := List.idxOf_lt_length_of_mem (hb _ (List.getElem_mem (show i < a.length by omega)))
    have h2 := List.idxOf_lt_length_of_mem (hb _ (List.getElem_mem hj))
    have e1 : b[b.idxOf a[i]]'h1 = a[i] := List.getElem_idxOf h1
    have e2 : b[b.idxOf a[j]]'h2 = a[j] := List.getElem_idxOf h2
    have e3 : a[i] = a[j] := by rw [← e1, ← e2]; congr 1
    have := (List.nodup_iff_pairwise_ne.1 ha)
    rw [List.pairwise_iff_getElem] at this
    exact this i j (by omega) hj hij e3

theorem nodup_few {l : List Int} (hl : l.Nodup) {N : Nat} (h : ∀ x ∈ l, 0 ≤ x ∧ x < (N : Int)) : l.length ≤ N := by
  have h1 : (l.map Int.toNat).Nodup := by
    rw [List.nodup_iff_pairwise_ne, List.pairwise_map]
    refine List.Pairwise.imp_of_mem ?_ (List.nodup_iff_pairwise_ne.1 hl)
    intro a b ha hb hne e
    have := h a ha
    have := h b hb
    exact hne (by omega)
  have := nodup_le' h1 (b := List.range N) (fun x hx => by
    obtain ⟨y, hy, rfl⟩ := List.mem_map.1 hx
    have := h y hy
    rw [List.mem_range]; omega)
  simpa using this

theorem Fst.five {s A : Int} (hR : ∀ r ∈ R, 0 ≤ r.1 ∧ r.1 < 5) (h : Fst K R A s) : FstN K R 5 A s := by
  obtain ⟨n, hn⟩ := h
  induction n with
  | zero => exact False.elim hn
  | succ n ih =>
    by_cases h1 : FstN K R n A s
    · exact ih h1
    · obtain ⟨l, h2, h3, h4⟩ := rank_names s n A hn h1
      have := nodup_few h3 (N := 5) (fun x hx => by
        obtain ⟨r, h5, h6⟩ := (h4 x hx).1
        have := hR r h5
        omega)
      exact hn.mono (by omega)

/-- how high a name stands above a sign -/
noncomputable def rk (K : Int) (R : Rules) (A s : Int) : Nat := Dec.howMany (fun n => ¬ FstN K R n A s) 6

theorem rk_le (A s : Int) : rk K R A s ≤ 6 := Dec.howMany_le _ _

theorem rk_lt (hR : ∀ r ∈ R, 0 ≤ r.1 ∧ r.1 < 5) (hc : Clear K R) {a : Nat} (ha : a < R.length) {x s : Int} {l : List Int} (he : (R.getD a (0, [])).2 = x :: l) (hx : ¬ x < K) (hl : Fst K R (x - K) s) : rk K R (x - K) s < rk K R (R.getD a (0, [])).1 s := by
  have hlook : Look K R (R.getD a (0, [])) s := ⟨x, l, he, fun h => absurd h hx, fun _ => hl⟩
  have step : ∀ n, FstN K R (n + 1) (R.getD a (0, [])).1 s → FstN K R n (x - K) s := by
    intro n hn
    obtain ⟨r, h1, h2, y, t, h3, h4, h5⟩ := hn
    obtain ⟨b, hb, eb⟩ := getD_of_mem h1
    have : a = b := hc.one ha hb (by rw [eb, h2]) hlook (by
      rw [eb]
      exact ⟨y, t, h3, h4, fun h => ⟨n, h5 h⟩⟩)
    subst this
    rw [eb] at he
    rw [he] at h3
    cases h3
    exact h5 hx
  have hA := (Look.fst (mem_getD ha) hlook).five hR
  unfold rk
  refine Dec.howMany_lt _ (fun i _ hi hA => hi ?_) ?_
  · cases i with
    | zero => exact False.elim hA
    | succ i => exact (step i hA).up
  · have : ∀ n, n ≤ 5 → FstN K R n (R.getD a (0, [])).1 s → ∃ i, i < 6 ∧ ¬ FstN K R i (R.getD a (0, [])).1 s ∧ ¬¬ FstN K R i (x - K) s := by
      intro n
      induction n with
      | zero => intro _ h; exact False.elim h
      | succ n ih =>
        intro hn h
        by_cases h2 : FstN K R n (R.getD a (0, [])).1 s
        · exact ih (by omega) h2
        · exact ⟨n, by omega, h2, fun h3 => h3 (step n h)⟩
    exact this 5 (by omega) hA
end
end Cfg
