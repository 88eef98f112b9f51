/-
Plain lemmas: association lists, and that few values can differ. Earley's items as plain functions: an item, a set of items, what a round adds; a set stays small and without repetition (plain). items: the loops of a position's closing compute the plain functions.
-/
import Derived.Test.YtfpchbpnoggogaaPop
import Derived.Test.YtfpchbpnoggogaaTabY
set_option linter.unusedSimpArgs false
set_option linter.unusedVariables false
set_option linter.unusedSectionVars false
namespace Dec
open Go
theorem mget_mset {α β : Type} [DecidableEq α] (l : List (α × β)) (x y : α) (v : β) : mget (mset l x v) y = if y = x then some v else mget l y := by
  induction l with
  | nil => by_cases h : y = x <;> simp [mset, mget, h]
  | cons p r ih =>
    obtain ⟨k, u⟩ := p
    by_cases h : x = k
    · subst h
      by_cases h2 : y = x <;> simp [mset, mget, h2]
    · by_cases h2 : y = k
      · subst h2
        have : ¬ y = x := fun e => h e.symm
        simp [mset, mget, h, this]
      · simp only [mset, if_neg h, mget, if_neg h2, ih]
theorem pigeon : ∀ (N n : Nat) (f : Nat → Nat), (∀ i, i < n → f i < N) → (∀ i j, i < j → j < n → f i ≠ f j) → n ≤ N
  | N, 0, _, _, _ => Nat.zero_le _
  | 0, n + 1, f, h, _ => absurd (h 0 (by omega)) (by omega)
  | N + 1, n + 1, f, h, hd => by
    by_cases hk : ∃ k, k < n + 1 ∧ f k = N
    · obtain ⟨k, hk1, hk2⟩ := hk
      have := pigeon N n (fun i => f (if i < k then i else i + 1)) (fun i hi => by
        have h1 : (if i < k then i else i + 1) < n + 1 := by split <;> omega
        have h2 : (if i < k then i else i + 1) ≠ k := by split <;> omega
        have h3 := h _ h1
        have h4 : f (if i < k then i else i + 1) ≠ N := by
          intro e
          rw [← hk2] at e
          rcases Nat.lt_or_gt_of_ne h2 with h5 | h5
          · exact hd _ _ h5 hk1 e
          · exact hd _ _ h5 h1 e.symm
        show f (if i < k then i else i + 1) < N
        omega) (fun i j hij hj => hd _ _ (by split <;> split <;> omega) (by split <;> omega))
      omega
    · have := pigeon N (n + 1) f (fun i hi => by
        have h1 := h i hi
        have h2 : f i ≠ N := fun e => hk ⟨i, hi, e⟩
        omega) hd
      omega
end Dec
namespace Dec
open Go Go.Proofs Cfg
abbrev It := Int × (Int × Int)
abbrev Hv := List (It × Int)
def rlOf (g : Gr) (x : It) : Rl := g.2.2.2.getD x.1.toNat ((0 : Int), ([] : LI))
def nxt (g : Gr) (x : It) : Option Int := if x.2.1 = ((rlOf g x).2.length : Int) then none else some ((rlOf g x).2.getD x.2.1.toNat (0 : Int))
def addI (l : LN) (x : It) : LN := if x ∈ l then l else l ++ [x]
def mv (x : It) : It := (x.1, (x.2.1 + 1, x.2.2))
def begF (g : Gr) (p : Nat) (name : Int) (i : Nat) (l : LN) : LN := (List.range i).foldl (fun l j => if (g.2.2.2.getD j ((0 : Int), ([] : LI))).1 = name then addI l ((j : Int), ((0 : Int), (p : Int))) else l) l
def scnF (g : Gr) (a : Int) (c : LN) (i : Nat) (l : LN) : LN := (List.range i).foldl (fun l j => if nxt g (c.getD j z3) = some a then addI l (mv (c.getD j z3)) else l) l
def cpl1 (g : Gr) (x y : It) (l : LN) : LN := if nxt g y = some (g.1 + (rlOf g x).1) then addI l (mv y) else l
def cmpF (g : Gr) (pr : List LN) (x : It) : Nat → Nat → LN → LN
  | 0, _, l => l
  | n + 1, j, l => if j < ((pr ++ [l]).getD x.2.2.toNat []).length then cmpF g pr x n (j + 1) (cpl1 g x (((pr ++ [l]).getD x.2.2.toNat []).getD j z3) l) else l
def oneF (g : Gr) (pr : List LN) (x : It) (l : LN) : LN := match nxt g x with
  | none => cmpF g pr x 1000 0 l
  | some s => if g.1 ≤ s then begF g pr.length (s - g.1) g.2.2.2.length l else l
def rndF (g : Gr) (pr : List LN) : Nat → Nat → LN → LN
  | 0, _, l => l
  | n + 1, i, l => if i < l.length then rndF g pr n (i + 1) (oneF g pr (l.getD i z3) l) else l
def clsF (g : Gr) (pr : List LN) : Nat → Int → LN → LN
  | 0, _, l => l
  | n + 1, many, l => if many = (l.length : Int) then l else clsF g pr n (l.length : Int) (rndF g pr 1000 0 l)
def setsF (g : Gr) (w : List Int) : Nat → List LN × LN
  | 0 => ([], begF g 0 g.2.2.1 g.2.2.2.length [])
  | p + 1 => let c := clsF g (setsF g w p).1 1000 (-1) (setsF g w p).2
    ((setsF g w p).1 ++ [c], scnF g (w.getD p 0) c c.length [])
structure ItOk (g : Gr) (p : Nat) (x : It) : Prop where
  r : 0 ≤ x.1 ∧ x.1 < (g.2.2.2.length : Int)
  d : 0 ≤ x.2.1 ∧ x.2.1 ≤ ((rlOf g x).2.length : Int)
  f : 0 ≤ x.2.2 ∧ x.2.2 ≤ (p : Int)
structure SetOk (g : Gr) (p : Nat) (l : LN) : Prop where
  ok : ∀ x ∈ l, ItOk g p x
  nd : l.Nodup
theorem ItOk.more {g : Gr} {p q : Nat} {x : It} (h : ItOk g p x) (hq : p ≤ q) : ItOk g q x := ⟨h.r, h.d, by have := h.f; omega⟩
theorem SetOk.nil {g : Gr} {p : Nat} : SetOk g p [] := ⟨fun x h => (by cases h), List.nodup_nil⟩
theorem rl_mem {g : Gr} {p : Nat} {x : It} (h : ItOk g p x) : rlOf g x ∈ g.2.2.2 := getD_mem (by have := h.r; omega)
theorem SetOk.len {g : Gr} (hg : GoodG g) {p : Nat} (hp : p ≤ 12) {l : LN} (h : SetOk g p l) : l.length ≤ 650 := by
  refine pigeon 650 l.length (fun i => (l.getD i z3).1.toNat * 65 + (l.getD i z3).2.1.toNat * 13 + (l.getD i z3).2.2.toNat) (fun i hi => ?_) (fun i j hij hj e => ?_)
  · have ho := h.ok _ (getD_mem (d := z3) hi)
    have h1 := hg.short _ (rl_mem ho)
    have := hg.few; have := ho.r; have := ho.d; have := ho.f
    omega
  · have ho := h.ok _ (getD_mem (d := z3) (show i < l.length by omega))
    have hq := h.ok _ (getD_mem (d := z3) hj)
    have h1 := hg.short _ (rl_mem ho); have h2 := hg.short _ (rl_mem hq)
    have a1 := ho.r; have a2 := ho.d; have a3 := ho.f; have b1 := hq.r; have b2 := hq.d; have b3 := hq.f
    have key : l.getD i z3 = l.getD j z3 := by
      refine Prod.ext (by omega) (Prod.ext (by omega) (by omega))
    rw [getD_lt _ (show i < l.length by omega), getD_lt _ hj] at key
    have hn := h.nd
    rw [List.nodup_iff_pairwise_ne] at hn
    exact List.pairwise_iff_getElem.1 hn i j (by omega) hj hij key
theorem SetOk.add {g : Gr} {p : Nat} {l : LN} (h : SetOk g p l) {x : It} (hx : ItOk g p x) : SetOk g p (addI l x) := by
  unfold addI
  split
  · exact h
  · rename_i hn
    refine ⟨fun y hy => ?_, ?_⟩
    · rcases List.mem_append.1 hy with e | e
      · exact h.ok _ e
      · rw [List.mem_singleton.1 e]; exact hx
    · rw [List.nodup_append]
      exact ⟨h.nd, by simp, fun a ha b hb e => hn (by rw [← List.mem_singleton.1 hb, ← e]; exact ha)⟩
theorem addI_len (l : LN) (x : It) : l.length ≤ (addI l x).length := by unfold addI; split <;> simp
theorem nxt_some {g : Gr} {p : Nat} {x : It} (h : ItOk g p x) {s : Int} (e : nxt g x = some s) : x.2.1 < ((rlOf g x).2.length : Int) ∧ s ∈ (rlOf g x).2 := by
  unfold nxt at e
  split at e
  · cases e
  · have := h.d
    refine ⟨by omega, ?_⟩
    injection e with e
    rw [← e]
    exact getD_mem (by omega)
theorem ItOk.mv {g : Gr} {p : Nat} {x : It} (h : ItOk g p x) {s : Int} (e : nxt g x = some s) : ItOk g p (mv x) := by
  have := (nxt_some h e).1
  exact ⟨h.r, by have h2 := h.d; unfold Dec.mv; unfold rlOf at *; dsimp only at *; omega, h.f⟩
theorem begF_succ (g : Gr) (p : Nat) (name : Int) (i : Nat) (l : LN) : begF g p name (i + 1) l = if (g.2.2.2.getD i ((0 : Int), ([] : LI))).1 = name then addI (begF g p name i l) ((i : Int), ((0 : Int), (p : Int))) else begF g p name i l := by
  unfold begF
  rw [List.range_succ, List.foldl_append]
  rfl
theorem scnF_succ (g : Gr) (a : Int) (c : LN) (i : Nat) (l : LN) : scnF g a c (i + 1) l = if nxt g (c.getD i z3) = some a then addI (scnF g a c i l) (mv (c.getD i z3)) else scnF g a c i l := by
  unfold scnF
  rw [List.range_succ, List.foldl_append]
  rfl
theorem SetOk.beg {g : Gr} {p : Nat} {name : Int} {l : LN} (h : SetOk g p l) : ∀ i, i ≤ g.2.2.2.length → SetOk g p (begF g p name i l) ∧ l.length ≤ (begF g p name i l).length := by
  intro i
  induction i with
  | zero => intro _; exact ⟨h, Nat.le_refl _⟩
  | succ i ih =>
    intro hi
    have ih := ih (by omega)
    rw [begF_succ]
    split
    · exact ⟨ih.1.add ⟨⟨by simp, by simp; omega⟩, ⟨by simp, by simp⟩, ⟨by simp, by simp⟩⟩, Nat.le_trans ih.2 (addI_len _ _)⟩
    · exact ih
theorem SetOk.scn {g : Gr} {p q : Nat} {a : Int} {c l : LN} (hc : SetOk g p c) (hq : p ≤ q) (h : SetOk g q l) : ∀ i, i ≤ c.length → SetOk g q (scnF g a c i l) := by
  intro i
  induction i with
  | zero => intro _; exact h
  | succ i ih =>
    intro hi
    have ih := ih (by omega)
    rw [scnF_succ]
    split
    · rename_i e
      exact ih.add (((hc.ok _ (getD_mem (by omega))).more hq).mv e)
    · exact ih
def PrOk (g : Gr) (pr : List LN) : Prop := ∀ q, q < pr.length → SetOk g q (pr.getD q [])
theorem src_ok {g : Gr} {pr : List LN} (hp : PrOk g pr) {l : LN} (h : SetOk g pr.length l) {x : It} (hx : ItOk g pr.length x) : SetOk g pr.length ((pr ++ [l]).getD x.2.2.toNat []) := by
  have hf := hx.f
  by_cases e : x.2.2.toNat < pr.length
  · rw [show (pr ++ [l]).getD x.2.2.toNat [] = pr.getD x.2.2.toNat [] by rw [getD_lt _ (by simp; omega), getD_lt _ e, List.getElem_append_left e]]
    have := hp _ e
    exact ⟨fun y hy => (this.ok y hy).more (by omega), this.nd⟩
  · rw [show x.2.2.toNat = pr.length by omega, show (pr ++ [l]).getD pr.length [] = l by simp [List.getD]]
    exact h
theorem SetOk.cpl1 {g : Gr} {p : Nat} {l : LN} (h : SetOk g p l) (x : It) {y : It} (hy : ItOk g p y) : SetOk g p (cpl1 g x y l) ∧ l.length ≤ (Dec.cpl1 g x y l).length := by
  unfold Dec.cpl1
  split
  · rename_i e
    exact ⟨h.add (hy.mv e), addI_len _ _⟩
  · exact ⟨h, Nat.le_refl _⟩
theorem SetOk.cmp {g : Gr} {pr : List LN} (hp : PrOk g pr) {x : It} (hx : ItOk g pr.length x) : ∀ (n j : Nat) {l : LN}, SetOk g pr.length l → SetOk g pr.length (cmpF g pr x n j l) ∧ l.length ≤ (cmpF g pr x n j l).length := by
  intro n
  induction n with
  | zero => intro j l h; exact ⟨h, Nat.le_refl _⟩
  | succ n ih =>
    intro j l h
    unfold cmpF
    split
    · rename_i hj
      have h1 := h.cpl1 x ((src_ok hp h hx).ok _ (getD_mem (d := z3) hj))
      have h2 := ih (j + 1) h1.1
      exact ⟨h2.1, Nat.le_trans h1.2 h2.2⟩
    · exact ⟨h, Nat.le_refl _⟩
theorem SetOk.one {g : Gr} {pr : List LN} (hp : PrOk g pr) {x : It} (hx : ItOk g pr.length x) {l : LN} (h : SetOk g pr.length l) : SetOk g pr.length (oneF g pr x l) ∧ l.length ≤ (oneF g pr x l).length := by
  unfold oneF
  split
  · exact SetOk.cmp hp hx _ _ h
  · split
    · exact h.beg _ (Nat.le_refl _)
    · exact ⟨h, Nat.le_refl _⟩
theorem SetOk.rnd {g : Gr} {pr : List LN} (hp : PrOk g pr) : ∀ (n i : Nat) {l : LN}, SetOk g pr.length l → SetOk g pr.length (rndF g pr n i l) ∧ l.length ≤ (rndF g pr n i l).length := by
  intro n
  induction n with
  | zero => intro i l h; exact ⟨h, Nat.le_refl _⟩
  | succ n ih =>
    intro i l h
    unfold rndF
    split
    · rename_i hi
      have h1 := h.one hp (h.ok _ (getD_mem (d := z3) hi))
      have h2 := ih (i + 1) h1.1
      exact ⟨h2.1, Nat.le_trans h1.2 h2.2⟩
    · exact ⟨h, Nat.le_refl _⟩
theorem SetOk.cls {g : Gr} {pr : List LN} (hp : PrOk g pr) : ∀ (n : Nat) (many : Int) {l : LN}, SetOk g pr.length l → SetOk g pr.length (clsF g pr n many l) := by
  intro n
  induction n with
  | zero => intro many l h; exact h
  | succ n ih =>
    intro many l h
    unfold clsF
    split
    · exact h
    · exact ih _ (SetOk.rnd hp _ _ h).1
theorem setsF_len (g : Gr) (w : List Int) : ∀ p, (setsF g w p).1.length = p
  | 0 => rfl
  | p + 1 => by simp only [setsF, List.length_append, List.length_singleton, setsF_len g w p]
theorem setsF_ok (g : Gr) (w : List Int) : ∀ p, PrOk g (setsF g w p).1 ∧ SetOk g p (setsF g w p).2 := by
  intro p
  induction p with
  | zero => exact ⟨fun q hq => by simp [setsF] at hq, (SetOk.nil.beg _ (Nat.le_refl _)).1⟩
  | succ p ih =>
    have hl := setsF_len g w p
    have hc : SetOk g p (clsF g (setsF g w p).1 1000 (-1) (setsF g w p).2) := by
      have := SetOk.cls ih.1 1000 (-1) (l := (setsF g w p).2) (by rw [hl]; exact ih.2)
      rw [hl] at this; exact this
    refine ⟨fun q hq => ?_, ?_⟩
    · simp only [setsF] at hq ⊢
      by_cases e : q < (setsF g w p).1.length
      · rw [getD_lt _ (by simp; omega), List.getElem_append_left e, ← getD_lt [] e]
        exact ih.1 q e
      · have : q = (setsF g w p).1.length := by simp at hq; omega
        subst this
        rw [show ((setsF g w p).1 ++ [clsF g (setsF g w p).1 1000 (-1) (setsF g w p).2]).getD (setsF g w p).1.length [] = clsF g (setsF g w p).1 1000 (-1) (setsF g w p).2 by simp [List.getD], hl]
        exact hc
    · simp only [setsF]
      exact hc.scn (Nat.le_succ p) SetOk.nil _ (Nat.le_refl _)
theorem setsF_take (g : Gr) (w : List Int) (n : Nat) : ∀ p, p ≤ n → setsF g (w.take n) p = setsF g w p
  | 0, _ => rfl
  | p + 1, h => by
    simp only [setsF, setsF_take g w n p (by omega)]
    rw [show (w.take n).getD p 0 = w.getD p 0 by simp [List.getD, List.getElem?_take, show p < n by omega]]
theorem setsF_pre (g : Gr) (w : List Int) (p : Nat) : ∀ d, (setsF g w (p + d)).1.take p = (setsF g w p).1
  | 0 => by rw [Nat.add_zero, List.take_of_length_le (by rw [setsF_len]; exact Nat.le_refl _)]
  | d + 1 => by
    rw [← Nat.add_assoc]
    simp only [setsF]
    rw [List.take_append_of_le_length (by rw [setsF_len]; omega)]
    exact setsF_pre g w p d
end Dec
namespace Dec
open Go Go.Proofs Cfg
def HasI (h : Hv) (l : LN) : Prop := ∀ x, (mget h x).isSome = decide (x ∈ l)
theorem HasI.add {h : Hv} {l : LN} (hh : HasI h l) (x : It) (v : Int) : HasI (mset h x v) (l ++ [x]) := by
  intro y
  rw [mget_mset]
  by_cases e : y = x
  · simp [e]
  · rw [if_neg e, hh y]
    simp [e]
theorem HasI.nil : HasI [] [] := fun x => rfl
theorem add_split {h : Hv} {l : LN} (hh : HasI h l) {x : It} {P Q : Prop} (h1 : x ∉ l → P) (h2 : x ∈ l → Q) : ((!(mget h x).isSome) = true → P) ∧ ((!(mget h x).isSome) = false → Q) := by
  rw [hh x]
  exact ⟨fun e => h1 (by simpa using e), fun e => h2 (by simpa using e)⟩
section
variable {α : Type}
theorem mid_get (pr : List α) (l : α) (post : List α) (d : α) : (pr ++ l :: post).getD pr.length d = l := by simp [List.getD]
theorem mid_get' (pr : List α) (l : α) (post : List α) (d : α) {n : Nat} (h : pr.length = n) : (pr ++ l :: post).getD n d = l := by rw [← h]; exact mid_get pr l post d
theorem mid_set (pr : List α) (l x : α) (post : List α) : (pr ++ l :: post).set pr.length x = pr ++ x :: post := by
  rw [List.set_append_right _ _ (Nat.le_refl _), Nat.sub_self]; rfl
theorem mid_set' (pr : List α) (l x : α) (post : List α) {n : Nat} (h : pr.length = n) : (pr ++ l :: post).set n x = pr ++ x :: post := by rw [← h]; exact mid_set pr l x post
theorem src_get (pr : List α) (l : α) (post : List α) (d : α) {k : Nat} (h : k ≤ pr.length) : (pr ++ l :: post).getD k d = (pr ++ [l]).getD k d := by
  by_cases e : k < pr.length
  · rw [getD_lt _ (by simp; omega), getD_lt _ (by simp; omega), List.getElem_append_left e, List.getElem_append_left e]
  · have : k = pr.length := by omega
    subst this
    rw [mid_get, mid_get]
theorem src_pre (pr : List α) (l : α) (d : α) {k : Nat} (e : k < pr.length) : (pr ++ [l]).getD k d = pr.getD k d := by
  rw [getD_lt _ (by simp; omega), getD_lt _ e, List.getElem_append_left e]
theorem mid_in (pr : List α) (l : α) (post : List α) {n : Nat} (h : pr.length = n) : inIdx (n : Int) (pr ++ l :: post).length := ⟨by omega, by simp; omega⟩
end
theorem room_add {g : Gr} (hg : GoodG g) {p : Nat} (h12 : p ≤ 12) {l : LN} (hl : SetOk g p l) (x : It) : roomN (l.length + [x].length) := by
  have := hl.len hg h12
  simp only [roomN, List.length_singleton]
  omega
theorem nxt_cases {g : Gr} {p : Nat} {y : It} (hy : ItOk g p y) {P : Int → Bool → Prop} (h : ∀ v b, nxt g y = (if b then some v else none) → P v b) :
    ((decide (y.2.1 = (((g.2.2.2.getD y.1.toNat ((0 : Int), ([] : LI))).2).length : Int))) = true → P (0 : Int) false) ∧ ((decide (y.2.1 = (((g.2.2.2.getD y.1.toNat ((0 : Int), ([] : LI))).2).length : Int))) = false → (inIdx y.2.1 ((g.2.2.2.getD y.1.toNat ((0 : Int), ([] : LI))).2).length ∧ P (((g.2.2.2.getD y.1.toNat ((0 : Int), ([] : LI))).2).getD y.2.1.toNat (0 : Int)) true)) := by
  refine ⟨fun e => h _ _ ?_, fun e => ⟨?_, h _ _ ?_⟩⟩
  · simp only [decide_eq_true_eq] at e
    unfold nxt rlOf
    rw [if_pos e]; rfl
  · simp only [decide_eq_false_iff_not] at e
    have := hy.d
    unfold rlOf at this
    exact ⟨by omega, by omega⟩
  · simp only [decide_eq_false_iff_not] at e
    unfold nxt rlOf
    rw [if_neg e]; rfl
theorem item_in {g : Gr} {p : Nat} {y : It} (hy : ItOk g p y) : inIdx y.1 g.2.2.2.length := ⟨hy.r.1, hy.r.2⟩
section
variable {g : Gr} (hg : GoodG g) {pr : List LN} {hp : List Hv} (hh : hp.length = pr.length) (h12 : pr.length ≤ 12) (hpr : PrOk g pr) {post : List LN} {hpost : List Hv}
include hg hh h12 hpr
theorem k14_of {l0 : LN} {i : Int} {x y : It} (ex : l0.getD i.toNat z3 = x) (hx : ItOk g pr.length x) {j : Nat} (hj : j < 1000) {l : LN} {h : Hv} (hl : SetOk g pr.length l) (hhl : HasI h l)
    (ey : ((pr ++ [l]).getD x.2.2.toNat []).getD j z3 = y) (hy : ItOk g pr.length y) {v42 : Int} {v52 : Bool} (hn : nxt g y = if v52 then some v42 else none) {X6 : Int × List LN × List Hv → Prop}
    (hX : ∀ h', HasI h' (cpl1 g x y l) → X6 ((j : Int) + 1, pr ++ cpl1 g x y l :: post, hp ++ h' :: hpost)) :
    VC31_k14 g (pr.length : Int) i (pr ++ l0 :: post) (j : Int) (pr ++ l :: post) (hp ++ h :: hpost) X6 v42 v52 := by
  have hf := hx.f
  unfold VC31_k14 VC31_k16 VC31_k15
  simp only [Int.toNat_natCast, mid_get, mid_set, mid_get' hp h hpost _ hh, mid_set' hp h _ hpost hh, ex, src_get pr l post [] (show x.2.2.toNat ≤ pr.length by omega), ey]
  have hin : InR ((j : Int) + 1) := by unfold InR; omega
  have e1 : (v52 && decide (v42 = g.1 + (g.2.2.2.getD x.1.toNat ((0 : Int), ([] : LI))).1)) = true ↔ nxt g y = some (g.1 + (rlOf g x).1) := by
    rw [hn]
    cases v52 <;> simp [rlOf]
  refine ⟨fun hc => ?_, fun hc => ?_⟩
  · have hc := e1.1 hc
    have h2 := hy.mv hc
    have h3 := nxt_some hy hc
    have h4 := hg.short _ (rl_mem hy)
    refine ⟨by unfold InR; have := hy.d; omega, mid_in hp h hpost hh, add_split hhl (fun hni => ?_) (fun hin2 => ⟨hin, ?_⟩)⟩
    · refine ⟨mid_in hp h hpost hh, mid_in pr l post rfl, mid_in pr l post rfl, room_add hg h12 hl _, mid_in pr l post rfl, hin, ?_⟩
      have e : cpl1 g x y l = l ++ [(y.1, (y.2.1 + (1 : Int), y.2.2))] := by unfold cpl1; rw [if_pos hc]; unfold addI; exact if_neg hni
      rw [e] at hX
      exact hX _ (hhl.add _ _)
    · have e : cpl1 g x y l = l := by unfold cpl1; rw [if_pos hc]; unfold addI; exact if_pos hin2
      rw [e] at hX
      exact hX _ hhl
  · have hc : ¬ nxt g y = some (g.1 + (rlOf g x).1) := fun e => by rw [e1.2 e] at hc; cases hc
    have e : cpl1 g x y l = l := by unfold cpl1; rw [if_neg hc]
    rw [e] at hX
    exact ⟨hin, hX _ hhl⟩
theorem cmp_loop {l0 : LN} {i : Int} {x : It} (ex : l0.getD i.toNat z3 = x) (hx : ItOk g pr.length x) {X5 X : Int × List LN × List Hv → Prop}
    (hX : ∀ s : Int × List LN × List Hv, VC31_l6 g (pr.length : Int) i (pr ++ l0 :: post) X5 s.1 s.2.1 s.2.2 X → X s) : ∀ (n j : Nat) (l : LN) (h : Hv), j + n = 1000 → j ≤ ((pr ++ [l]).getD x.2.2.toNat []).length → SetOk g pr.length l → HasI h l →
    (∀ h', HasI h' (cmpF g pr x n j l) → VC31_k13 i X5 (pr ++ cmpF g pr x n j l :: post) (hp ++ h' :: hpost)) → X ((j : Int), pr ++ l :: post, hp ++ h :: hpost) := by
  intro n
  have hf := hx.f
  induction n with
  | zero =>
    intro j l h hj hjl hl hhl hK
    have := (src_ok hpr hl hx).len hg h12
    omega
  | succ n ih =>
    intro j l h hj hjl hl hhl hK
    have hs := src_ok hpr hl hx
    have hsl := hs.len hg h12
    refine hX _ ?_
    show VC31_l6 g (pr.length : Int) i (pr ++ l0 :: post) X5 (j : Int) (pr ++ l :: post) (hp ++ h :: hpost) X
    unfold VC31_l6
    simp only [Int.toNat_natCast, mid_get, ex, src_get pr l post [] (show x.2.2.toNat ≤ pr.length by omega)]
    have hin : inIdx x.2.2 (pr ++ l :: post).length := ⟨by omega, by simp; omega⟩
    refine ⟨hin, fun hlt => ?_, fun hge => ?_⟩
    · simp only [decide_eq_true_eq] at hlt
      have hy : ItOk g pr.length (((pr ++ [l]).getD x.2.2.toNat []).getD j z3) := hs.ok _ (getD_mem (by omega))
      refine ⟨hin, ⟨by omega, hlt⟩, item_in hy, nxt_cases hy fun v b hvb => k14_of hg hh h12 hpr ex hx (by omega) hl hhl rfl hy hvb fun h' hh' => ?_⟩
      have hc := hl.cpl1 x hy
      have hg2 : j + 1 ≤ ((pr ++ [cpl1 g x (((pr ++ [l]).getD x.2.2.toNat []).getD j z3) l]).getD x.2.2.toNat []).length := by
        by_cases e : x.2.2.toNat < pr.length
        · rw [src_pre pr (cpl1 g x (((pr ++ [l]).getD x.2.2.toNat []).getD j z3) l) [] e]
          rw [src_pre pr l [] e] at hlt
          omega
        · have e2 : x.2.2.toNat = pr.length := by omega
          rw [e2, mid_get] at hlt hjl
          rw [e2, mid_get]
          rw [e2, mid_get] at hc
          have := hc.2
          rw [mid_get]
          omega
      have hcs : cmpF g pr x (n + 1) j l = cmpF g pr x n (j + 1) (cpl1 g x (((pr ++ [l]).getD x.2.2.toNat []).getD j z3) l) := by
        conv => lhs; unfold cmpF
        rw [if_pos (by omega)]
      rw [hcs] at hK
      have := ih (j + 1) _ h' (by omega) hg2 hc.1 hh' hK
      simpa using this
    · simp only [decide_eq_false_iff_not] at hge
      have hcs : cmpF g pr x (n + 1) j l = l := by
        unfold cmpF
        rw [if_neg (by omega)]
      rw [hcs] at hK
      exact hK h hhl
theorem beg_loop {v4 : Int} {i : Int} {X5 X : Int × List LN × List Hv → Prop} {l0 : LN} (hl0 : SetOk g pr.length l0)
    (hX : ∀ s : Int × List LN × List Hv, VC31_l7 g (pr.length : Int) i X5 v4 s.1 s.2.1 s.2.2 X → X s) : ∀ (n j : Nat) (h : Hv), j + n = g.2.2.2.length → HasI h (begF g pr.length (v4 - g.1) j l0) →
    (∀ h', HasI h' (begF g pr.length (v4 - g.1) g.2.2.2.length l0) → VC31_k18 i X5 (pr ++ begF g pr.length (v4 - g.1) g.2.2.2.length l0 :: post) (hp ++ h' :: hpost)) → X ((j : Int), pr ++ begF g pr.length (v4 - g.1) j l0 :: post, hp ++ h :: hpost) := by
  intro n
  have hfew := hg.few
  induction n with
  | zero =>
    intro j h hj hhl hK
    refine hX _ ?_
    show VC31_l7 g (pr.length : Int) i X5 v4 (j : Int) _ _ X
    unfold VC31_l7
    refine ⟨fun hlt => ?_, fun _ => ?_⟩
    · simp only [decide_eq_true_eq] at hlt; omega
    · have : j = g.2.2.2.length := by omega
      subst this
      exact hK h hhl
  | succ n ih =>
    intro j h hj hhl hK
    have hl := (hl0.beg (name := v4 - g.1) j (by omega)).1
    refine hX _ ?_
    show VC31_l7 g (pr.length : Int) i X5 v4 (j : Int) _ _ X
    unfold VC31_l7
    have hin : InR ((j : Int) + 1) := by unfold InR; omega
    have go : ∀ h', HasI h' (begF g pr.length (v4 - g.1) (j + 1) l0) → VC31_k19 (j : Int) X (pr ++ begF g pr.length (v4 - g.1) (j + 1) l0 :: post) (hp ++ h' :: hpost) := by
      intro h' hh'
      refine ⟨hin, ?_⟩
      have := ih (j + 1) h' (by omega) hh' hK
      simpa using this
    rw [begF_succ] at go
    simp only [Int.toNat_natCast, mid_get, mid_set, mid_get' hp h hpost _ hh, mid_set' hp h _ hpost hh]
    refine ⟨fun _ => ⟨⟨by omega, by omega⟩, fun e => ?_, fun e => ?_⟩, fun hge => ?_⟩
    · simp only [decide_eq_true_eq] at e
      rw [if_pos e] at go
      refine ⟨mid_in hp h hpost hh, add_split hhl (fun hni => ?_) (fun hin2 => ?_)⟩
      · unfold addI at go
        rw [if_neg hni] at go
        exact ⟨mid_in hp h hpost hh, mid_in pr _ post rfl, mid_in pr _ post rfl, room_add hg h12 hl _, mid_in pr _ post rfl, go _ (hhl.add _ _)⟩
      · unfold addI at go
        rw [if_pos hin2] at go
        exact go _ hhl
    · simp only [decide_eq_false_iff_not] at e
      rw [if_neg e] at go
      exact go _ hhl
    · simp only [decide_eq_false_iff_not] at hge; omega
theorem one_of {i : Nat} (hi : i < 1000) {l : LN} {h : Hv} (hl : SetOk g pr.length l) (hhl : HasI h l) {x : It} (ex : l.getD i z3 = x) (hx : ItOk g pr.length x) {v4 : Int} {v5 : Bool} (hn : nxt g x = if v5 then some v4 else none) {X5 : Int × List LN × List Hv → Prop}
    (hK : ∀ h', HasI h' (oneF g pr x l) → X5 ((i : Int) + 1, pr ++ oneF g pr x l :: post, hp ++ h' :: hpost)) :
    VC31_k11 g (pr.length : Int) (i : Int) (pr ++ l :: post) (hp ++ h :: hpost) X5 v4 v5 := by
  have hin : InR ((i : Int) + 1) := by unfold InR; omega
  have hk := hg.k; have hnn := hg.n
  unfold VC31_k11
  refine ⟨fun e => ?_, fun e => ⟨fun e2 => ?_, fun e2 => ?_⟩⟩
  · have e : v5 = false := by simpa using e
    subst e
    have ho : oneF g pr x l = cmpF g pr x 1000 0 l := by unfold oneF; rw [hn]; rfl
    rw [ho] at hK
    have hx1 := hg.left _ (rl_mem hx)
    simp only [Int.toNat_natCast, mid_get, ex]
    refine ⟨item_in hx, by unfold rlOf at hx1; unfold InR; omega, ?_⟩
    intro X hX
    exact cmp_loop hg hh h12 hpr (by simpa using ex) hx hX 1000 0 l h rfl (Nat.zero_le _) hl hhl fun h' hh' => ⟨hin, hK h' hh'⟩
  · have e : v5 = true := by simpa using e
    subst e
    simp only [decide_eq_true_eq] at e2
    have ho : oneF g pr x l = begF g pr.length (v4 - g.1) g.2.2.2.length l := by unfold oneF; rw [hn]; simp only [if_true]; rw [if_pos e2]
    rw [ho] at hK
    have h3 := hg.right _ (rl_mem hx) v4 (nxt_some hx hn).2
    refine ⟨by unfold InR; omega, ?_⟩
    intro X hX
    exact beg_loop hg hh h12 hpr hl hX g.2.2.2.length 0 h (by omega) hhl fun h' hh' => ⟨hin, hK h' hh'⟩
  · have e : v5 = true := by simpa using e
    subst e
    simp only [decide_eq_false_iff_not] at e2
    have ho : oneF g pr x l = l := by unfold oneF; rw [hn]; simp only [if_true]; rw [if_neg e2]
    rw [ho] at hK
    exact ⟨hin, hK h hhl⟩
theorem rnd_loop {l0 : LN} {X4 X : Int × List LN × List Hv → Prop}
    (hX : ∀ s : Int × List LN × List Hv, VC31_l5 g (pr.length : Int) (pr ++ l0 :: post) X4 s.1 s.2.1 s.2.2 X → X s) : ∀ (n i : Nat) (l : LN) (h : Hv), i + n = 1000 → i ≤ l.length → SetOk g pr.length l → HasI h l →
    (∀ h', HasI h' (rndF g pr n i l) → X4 ((l0.length : Int), pr ++ rndF g pr n i l :: post, hp ++ h' :: hpost)) → X ((i : Int), pr ++ l :: post, hp ++ h :: hpost) := by
  intro n
  induction n with
  | zero =>
    intro i l h hi hil hl hhl hK
    have := hl.len hg h12
    omega
  | succ n ih =>
    intro i l h hi hil hl hhl hK
    have hlen := hl.len hg h12
    refine hX _ ?_
    show VC31_l5 g (pr.length : Int) (pr ++ l0 :: post) X4 (i : Int) (pr ++ l :: post) (hp ++ h :: hpost) X
    unfold VC31_l5 VC31_k10
    simp only [Int.toNat_natCast, mid_get]
    refine ⟨mid_in pr l post rfl, fun hlt => ?_, fun hge => ?_⟩
    · simp only [decide_eq_true_eq] at hlt
      have hx : ItOk g pr.length (l.getD i z3) := hl.ok _ (getD_mem (by omega))
      refine ⟨mid_in pr l post rfl, ⟨by omega, hlt⟩, item_in hx, nxt_cases hx fun v b hvb => one_of hg hh h12 hpr (by omega) hl hhl rfl hx hvb fun h' hh' => ?_⟩
      have h1 := hl.one hpr hx
      have e : rndF g pr (n + 1) i l = rndF g pr n (i + 1) (oneF g pr (l.getD i z3) l) := by
        conv => lhs; unfold rndF
        rw [if_pos (by omega)]
      rw [e] at hK
      have := ih (i + 1) _ h' (by omega) (by have := h1.2; omega) h1.1 hh' hK
      simpa using this
    · simp only [decide_eq_false_iff_not] at hge
      have e : rndF g pr (n + 1) i l = l := by
        unfold rndF
        rw [if_neg (by omega)]
      rw [e] at hK
      exact hK h hhl
theorem cls_loop {w : LI} {K : (List LN) × Int → Prop} {X2 X : Int × List LN × List Hv → Prop}
    (hX : ∀ s : Int × List LN × List Hv, VC31_l4 g w K (pr.length : Int) X2 s.1 s.2.1 s.2.2 X → X s) : ∀ (n : Nat) (many : Int) (l : LN) (h : Hv), many ≤ (l.length : Int) → 999 ≤ many + (n : Int) → SetOk g pr.length l → HasI h l →
    (∀ h', HasI h' (clsF g pr n many l) → VC31_k5 g w K (pr.length : Int) X2 (pr ++ clsF g pr n many l :: post) (hp ++ h' :: hpost)) → X (many, pr ++ l :: post, hp ++ h :: hpost) := by
  intro n
  induction n with
  | zero =>
    intro many l h hm hn hl hhl hK
    have := hl.len hg h12
    omega
  | succ n ih =>
    intro many l h hm hn hl hhl hK
    refine hX _ ?_
    show VC31_l4 g w K (pr.length : Int) X2 many (pr ++ l :: post) (hp ++ h :: hpost) X
    unfold VC31_l4
    simp only [Int.toNat_natCast, mid_get]
    refine ⟨mid_in pr l post rfl, fun hne => ⟨mid_in pr l post rfl, ?_⟩, fun he => ?_⟩
    · have hne : ¬ many = (l.length : Int) := by simpa using hne
      have e : clsF g pr (n + 1) many l = clsF g pr n (l.length : Int) (rndF g pr 1000 0 l) := by
        conv => lhs; unfold clsF
        rw [if_neg hne]
      rw [e] at hK
      intro Y hY
      have h1 := SetOk.rnd hpr 1000 0 hl
      exact rnd_loop hg hh h12 hpr hY 1000 0 l h rfl (Nat.zero_le _) hl hhl fun h' hh' => ih (l.length : Int) _ h' (by have := h1.2; omega) (by omega) h1.1 hh' hK
    · have he : many = (l.length : Int) := by simpa using he
      have e : clsF g pr (n + 1) many l = l := by
        unfold clsF
        rw [if_pos he]
      rw [e] at hK
      exact hK h hhl
end
end Dec
