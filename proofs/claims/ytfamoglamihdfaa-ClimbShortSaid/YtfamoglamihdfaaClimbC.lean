/-
  What is shown is read as it was (Dijkstra); what is read is shown no longer than it was.
-/
import Derived.Test.YtfamoglamihdfaaClimbB
set_option linter.unusedSimpArgs false
set_option linter.unusedVariables false
namespace Dec
open Go

theorem bef_iff {ops : Ops} {a b : Int} : bef ops a b = true ↔ (ops.getD b.toNat (0, false)).1 < (ops.getD a.toNat (0, false)).1 ∨ ((ops.getD a.toNat (0, false)).1 = (ops.getD b.toNat (0, false)).1 ∧ (ops.getD a.toNat (0, false)).2 = false) := by
  unfold bef
  simp

theorem bef_not {ops : Ops} {a b : Int} : bef ops a b = false ↔ ¬ (ops.getD b.toNat (0, false)).1 < (ops.getD a.toNat (0, false)).1 ∧ ((ops.getD a.toNat (0, false)).1 = (ops.getD b.toNat (0, false)).1 → (ops.getD a.toNat (0, false)).2 = true) := by
  rw [← Bool.not_eq_true, bef_iff]
  constructor
  · intro h
    refine ⟨fun hh => h (.inl hh), fun hh => ?_⟩
    cases hb : (ops.getD a.toNat (0, false)).2 with
    | true => rfl
    | false => exact absurd (.inr ⟨hh, hb⟩) h
  · rintro ⟨h1, h2⟩ (h | ⟨h3, h4⟩)
    · exact h1 h
    · rw [h2 h3] at h4; cases h4

theorem bef_spine {ops : Ops} {s s' r : Int} (h1 : bef ops s s' = true) (h2 : bef ops s r = false) : bef ops r s' = true := by
  rw [bef_iff] at h1 ⊢
  rw [bef_not] at h2
  obtain ⟨h2, h3⟩ := h2
  rcases h1 with h1 | ⟨h1, h4⟩
  · exact .inl (by omega)
  · by_cases he : (ops.getD s.toNat (0, false)).1 = (ops.getD r.toNat (0, false)).1
    · rw [h3 he] at h4; cases h4
    · exact .inl (by omega)

theorem bef_left {ops : Ops} {r s t : Int} (h1 : bef ops r s = true) (h2 : bef ops t s = false) : bef ops t r = false := by
  rw [bef_iff] at h1
  rw [bef_not] at h2 ⊢
  obtain ⟨h2, h3⟩ := h2
  have hle : ¬ (ops.getD r.toNat (0, false)).1 < (ops.getD t.toNat (0, false)).1 := by
    rcases h1 with h1 | h1 <;> omega
  refine ⟨hle, fun he => h3 ?_⟩
  rcases h1 with h1 | h1 <;> omega

/-- does the stack's top leave the operation r to come? -/
def TopOk (ops : Ops) (st : List Int) (r : Int) : Prop := r = -1 ∨ ∀ t q, st = t :: q → t = -1 ∨ bef ops t r = false

/-- the signs w, whose last operation is r (-1: none), are read as p wherever they stand -/
def Reads (ops : Ops) (w : List Int) (r : Int) (p : List Int) : Prop :=
  ∃ X Y, p = X ++ Y ∧ (r = -1 → Y = []) ∧ (r ≠ -1 → ∀ s, bef ops r s = true → ∀ y ∈ Y, bef ops y s = true) ∧ (∀ y ∈ Y, inIdx y ops.length) ∧
    ∀ out st, TopOk ops st r → readRun ops (out, st, true) w = some (out ++ X, Y ++ st, false)

theorem emitTo_app (p : Int → Bool) {st : List Int} (hst : ∀ t q, st = t :: q → p t = true) : ∀ (Y out : List Int), (∀ y ∈ Y, p y = false) → emitTo p out (Y ++ st) = (out ++ Y, st)
  | [], out, _ => by
    cases st with
    | nil => simp [emitTo]
    | cons t q => simp [emitTo, hst t q rfl]
  | y :: Y, out, h => by
    simp only [List.cons_append, emitTo, h y (by simp), Bool.false_eq_true, if_false]
    rw [emitTo_app p hst Y _ (fun z hz => h z (by simp [hz]))]
    simp

theorem readRun_app {ops : Ops} : ∀ (a b : List Int) (x : RdS), readRun ops x (a ++ b) = match readRun ops x a with | some y => readRun ops y b | none => none
  | [], b, x => rfl
  | s :: a, b, x => by
    simp only [List.cons_append, readRun]
    cases readStep ops x s with
    | none => rfl
    | some y => exact readRun_app a b y

theorem showRun_app {ops : Ops} : ∀ (a b : List Int) (x : List Wd), showRun ops x (a ++ b) = match showRun ops x a with | some y => showRun ops y b | none => none
  | [], b, x => rfl
  | s :: a, b, x => by
    simp only [List.cons_append, showRun]
    cases showStep ops x s with
    | none => rfl
    | some y => exact showRun_app a b y

theorem reads_value {ops : Ops} {s : Int} (hs : 100 ≤ s) : Reads ops [s] (-1) [s] := by
  refine ⟨[s], [], by simp, fun _ => rfl, fun h => absurd rfl h, by simp, fun out st _ => ?_⟩
  have : (true != (decide (100 ≤ s) || decide (s = -1))) = false := by simp [hs]
  simp [readRun, readStep, this, hs]

theorem reads_wrap {ops : Ops} {w p : List Int} {r : Int} (h : Reads ops w r p) : Reads ops (-1 :: (w ++ [-2])) (-1) p := by
  obtain ⟨X, Y, rfl, h1, h2, h3, h4⟩ := h
  refine ⟨X ++ Y, [], by simp, fun _ => rfl, fun h => absurd rfl h, by simp, fun out st _ => ?_⟩
  have e1 : readRun ops (out, st, true) (-1 :: (w ++ [-2])) = readRun ops (out, -1 :: st, true) (w ++ [-2]) := by
    simp [readRun, readStep]
  rw [e1, readRun_app, h4 out (-1 :: st) (.inr fun t q he => by simp only [List.cons.injEq] at he; exact .inl he.1.symm)]
  have e2 : emitTo (fun t => decide (t = -1)) (out ++ X) (Y ++ -1 :: st) = (out ++ X ++ Y, -1 :: st) := by
    refine emitTo_app _ (fun t q he => ?_) Y _ fun y hy => ?_
    · simp only [List.cons.injEq] at he; simp [← he.1]
    · have := (h3 y hy).1
      simp; omega
  simp [readRun, readStep, e2]

theorem reads_join {ops : Ops} (hn : ops.length ≤ 6) {wl wr pl pr : List Int} {r1 r2 s : Int} (hs : inIdx s ops.length) (hl : Reads ops wl r1 pl) (hr : Reads ops wr r2 pr)
    (h1 : r1 = -1 ∨ bef ops r1 s = true) (h2 : r2 = -1 ∨ bef ops s r2 = false) : Reads ops (wl ++ s :: wr) s (pl ++ pr ++ [s]) := by
  obtain ⟨X1, Y1, rfl, a1, a2, a3, a4⟩ := hl
  obtain ⟨X2, Y2, rfl, b1, b2, b3, b4⟩ := hr
  have hs0 := hs.1
  have hs1 := hs.2
  refine ⟨X1 ++ Y1 ++ X2, Y2 ++ [s], by simp, fun h => by omega, fun _ s' hs' y hy => ?_, fun y hy => ?_, fun out st hT => ?_⟩
  · simp only [List.mem_append, List.mem_singleton] at hy
    rcases hy with hy | rfl
    · rcases h2 with h2 | h2
      · rw [b1 h2] at hy; simp at hy
      · by_cases hr2 : r2 = -1
        · rw [b1 hr2] at hy; simp at hy
        · exact b2 hr2 s' (bef_spine hs' h2) y hy
    · exact hs'
  · simp only [List.mem_append, List.mem_singleton] at hy
    rcases hy with hy | rfl
    · exact b3 y hy
    · exact hs
  · have hT' : ∀ t q, st = t :: q → t = -1 ∨ bef ops t s = false := by
      rcases hT with hT | hT
      · omega
      · exact hT
    have hTl : TopOk ops st r1 := by
      rcases h1 with h1 | h1
      · exact .inl h1
      · right
        intro t q he
        rcases hT' t q he with h | h
        · exact .inl h
        · exact .inr (bef_left h1 h)
    rw [readRun_app, a4 out st hTl]
    have e2 : emitTo (fun t => decide (t = -1) || !bef ops t s) (out ++ X1) (Y1 ++ st) = (out ++ X1 ++ Y1, st) := by
      refine emitTo_app _ (fun t q he => ?_) Y1 _ fun y hy => ?_
      · rcases hT' t q he with h | h
        · simp [h]
        · simp [h]
      · have := (a3 y hy).1
        have hne : ¬ y = -1 := by omega
        have hb : bef ops y s = true := by
          rcases h1 with h1 | h1
          · rw [a1 h1] at hy; simp at hy
          · by_cases hr1 : r1 = -1
            · rw [a1 hr1] at hy; simp at hy
            · exact a2 hr1 s h1 y hy
        simp [hne, hb]
    have c1 : (false != (decide (100 ≤ s) || decide (s = -1))) = false := by
      have : ¬ (100 ≤ s) := by omega
      have : ¬ (s = -1) := by omega
      simp [*]
    have e3 : readStep ops (out ++ X1, Y1 ++ st, false) s = some (out ++ X1 ++ Y1, s :: st, true) := by
      unfold readStep
      simp only [c1, Bool.false_eq_true, if_false]
      rw [if_neg (by omega), if_neg (by omega), if_neg (by omega), e2]
    simp only [readRun, e3]
    rw [b4 _ (s :: st) ?_]
    · simp
    · rcases h2 with h2 | h2
      · exact .inl h2
      · right
        intro t q he
        simp only [List.cons.injEq] at he
        rw [← he.1]
        exact .inr h2

/-- one word on Show's stack -/
structure It (ops : Ops) (w : Wd) (p : List Int) : Prop where
  root : w.2 = -1 ∨ inIdx w.2 ops.length
  reads : Reads ops w.1 w.2 p
  sg : ∀ s ∈ w.1, sgOk ops.length true s = true

inductive Items (ops : Ops) : List Wd → List Int → Prop
  | nil : Items ops [] []
  | cons {w : Wd} {st : List Wd} {p q : List Int} : Items ops st p → It ops w q → Items ops (w :: st) (p ++ q)

theorem it_wrap {ops : Ops} {w : Wd} {p : List Int} (h : It ops w p) (b : Bool) : It ops (wrapP b w.1, if b then -1 else w.2) p := by
  cases b with
  | false => exact ⟨h.root, h.reads, h.sg⟩
  | true =>
    refine ⟨.inl rfl, reads_wrap h.reads, fun s hs => ?_⟩
    simp only [wrapP, if_true, List.mem_cons, List.mem_append, List.not_mem_nil, or_false] at hs
    rcases hs with rfl | hs | rfl
    · simp [sgOk]
    · exact h.sg s hs
    · simp [sgOk]

theorem it_join {ops : Ops} (hn : ops.length ≤ 6) {a b : Wd} {p q : List Int} {s : Int} (hs : inIdx s ops.length) (ha : It ops a p) (hb : It ops b q) : It ops (joinW ops a b s) (p ++ q ++ [s]) := by
  have ha' := it_wrap ha (decide (0 ≤ a.2) && !bef ops a.2 s)
  have hb' := it_wrap hb (decide (0 ≤ b.2) && bef ops s b.2)
  refine ⟨.inr hs, reads_join hn hs ha'.reads hb'.reads ?_ ?_, fun x hx => ?_⟩
  · cases hc : (decide (0 ≤ a.2) && !bef ops a.2 s) with
    | true => exact .inl rfl
    | false =>
      simp only [Bool.false_eq_true, if_false]
      rcases ha.root with h | h
      · exact .inl h
      · right
        have := h.1
        simpa [this] using hc
  · cases hc : (decide (0 ≤ b.2) && bef ops s b.2) with
    | true => exact .inl rfl
    | false =>
      simp only [Bool.false_eq_true, if_false]
      rcases hb.root with h | h
      · exact .inl h
      · right
        have := h.1
        simpa [this] using hc
  · simp only [joinW, List.mem_append, List.mem_cons] at hx
    rcases hx with hx | rfl | hx
    · exact ha'.sg x hx
    · simp only [sgOk, Bool.or_eq_true, Bool.and_eq_true, decide_eq_true_eq]
      exact .inl (.inr hs)
    · exact hb'.sg x hx

theorem sg_op {n : Nat} {s : Int} (h : sgOk n false s = true) (hv : ¬ 100 ≤ s) : inIdx s n := by
  simp only [sgOk, Bool.false_and, Bool.or_false, Bool.or_eq_true, decide_eq_true_eq, Bool.and_eq_true] at h
  rcases h with h | h
  · exact absurd h hv
  · exact h

theorem showRun_items {ops : Ops} (hn : ops.length ≤ 6) : ∀ (l : List Int) (st st' : List Wd) (p : List Int), (∀ s ∈ l, sgOk ops.length false s = true) → Items ops st p → showRun ops st l = some st' → Items ops st' (p ++ l)
  | [], st, st', p, _, hi, h => by
    simp only [showRun, Option.some.injEq] at h
    subst h
    simpa using hi
  | s :: l, st, st', p, hsg, hi, h => by
    simp only [showRun] at h
    cases hst : showStep ops st s with
    | none => rw [hst] at h; cases h
    | some st1 =>
      rw [hst] at h
      have h1 : Items ops st1 (p ++ [s]) := by
        by_cases hv : 100 ≤ s
        · simp only [showStep, if_pos hv] at hst
          injection hst with hst
          subst hst
          refine .cons hi ⟨.inl rfl, reads_value hv, fun x hx => ?_⟩
          simp only [List.mem_singleton] at hx
          subst hx
          simp [sgOk, hv]
        · simp only [showStep, if_neg hv] at hst
          split at hst
          · rename_i b a r
            injection hst with hst
            subst hst
            cases hi with
            | cons hi hb =>
              rename_i p1 q1
              cases hi with
              | cons hi ha =>
                rename_i p2 q2
                have := Items.cons hi (it_join hn (sg_op (hsg s (by simp)) hv) ha hb)
                simpa using this
          · cases hst
      have := showRun_items hn l st1 st' (p ++ [s]) (fun x hx => hsg x (by simp [hx])) h1 h
      simpa using this

/-- **what is shown is read as it was** -/
theorem show_read {ops : Ops} {post w : List Int} (g : GoodC ops post false) (h : showRes ops post = (w, 0)) : GoodC ops w true ∧ readRes ops w = (post, 0) := by
  unfold showRes at h
  cases hr : showRun ops [] post with
  | none => rw [hr] at h; simp at h
  | some st =>
    rw [hr] at h
    match st, h, hr with
    | [], h, _ => simp at h
    | _ :: _ :: _, h, _ => simp at h
    | [x], h, hr =>
      simp only at h
      split at h
      · simp at h
      · rename_i hlen
        simp only [Prod.mk.injEq, and_true] at h
        subst h
        have hi := showRun_items g.n post [] [x] [] g.sg .nil hr
        simp only [List.nil_append] at hi
        obtain ⟨p, q, hi0, hx, e⟩ : ∃ p q, Items ops [] p ∧ It ops x q ∧ post = p ++ q := by
          generalize hpost : post = pp at hi
          cases hi with
          | cons h1 h2 => exact ⟨_, _, h1, h2, rfl⟩
        cases hi0
        simp only [List.nil_append] at e
        subst e
        refine ⟨⟨g.n, by omega, g.ok, hx.sg⟩, ?_⟩
        obtain ⟨X, Y, rfl, h1, h2, h3, h4⟩ := hx.reads
        unfold readRes
        rw [h4 [] [] (.inr (by simp))]
        have e2 : emitTo (fun t => decide (t = -1)) ([] ++ X) (Y ++ []) = ([] ++ X ++ Y, []) := by
          refine emitTo_app _ (by simp) Y _ fun y hy => ?_
          have := (h3 y hy).1
          simp; omega
        simp only [readEnd, e2]
        simp

/-! ### what is read is shown no longer than it was -/

def AdjOk (ops : Ops) (st : List Int) (o : Int) : Prop := ∀ t r, st = t :: r → t ≠ -1 → bef ops t o = false

structure LeftOk (ops : Ops) (w : Wd) (o : Int) (c : Nat) : Prop where
  root : w.2 = -1 ∨ inIdx w.2 ops.length
  len : w.1.length ≤ c
  fit : w.2 = -1 ∨ bef ops w.2 o = true ∨ w.1.length + 2 ≤ c

inductive Pend (ops : Ops) : List Int → List Wd → Nat → Prop
  | nil : Pend ops [] [] 0
  | opn {st : List Int} {its : List Wd} {m : Nat} : Pend ops st its m → Pend ops (-1 :: st) its (m + 1)
  | op {st : List Int} {its : List Wd} {m c : Nat} {t : Int} {it : Wd} : Pend ops st its m → inIdx t ops.length → LeftOk ops it t c → AdjOk ops st t → Pend ops (t :: st) (it :: its) (m + c + 1)

theorem wrapP_fit (b : Bool) (w : List Int) : (wrapP b w).length = w.length + (if b then 2 else 0) := by
  unfold wrapP
  cases b <;> simp

/-- what is popped is joined -/
theorem emit_pend {ops : Ops} (hn : ops.length ≤ 6) {p : Int → Bool} (hp : p (-1) = true) {B : Int → Prop} (hB : ∀ t, p t = false → B t) : ∀ (st out : List Int) (it : Wd) (its : List Wd) (m c : Nat),
    showRun ops [] out = some (it :: its) → Pend ops st its m → (it.2 = -1 ∨ inIdx it.2 ops.length) → it.1.length ≤ c → (it.2 = -1 ∨ it.1.length + 2 ≤ c ∨ (AdjOk ops st it.2 ∧ B it.2)) →
    ∃ it' its' m' c', showRun ops [] (emitTo p out st).1 = some (it' :: its') ∧ Pend ops (emitTo p out st).2 its' m' ∧ (it'.2 = -1 ∨ inIdx it'.2 ops.length) ∧ it'.1.length ≤ c' ∧ (it'.2 = -1 ∨ it'.1.length + 2 ≤ c' ∨ B it'.2) ∧ m' + c' = m + c
  | [], out, it, its, m, c, h1, h2, h3, h4, h5 => ⟨it, its, m, c, h1, h2, h3, h4, h5.imp id (Or.imp id And.right), rfl⟩
  | t :: st, out, it, its, m, c, h1, h2, h3, h4, h5 => by
    simp only [emitTo]
    split
    · exact ⟨it, its, m, c, h1, h2, h3, h4, h5.imp id (Or.imp id And.right), rfl⟩
    · rename_i hpt
      cases h2 with
      | opn h2 => exact absurd hp hpt
      | op h2 ht hL hA =>
        rename_i its0 m0 c0 it1
        have hpt' : p t = false := by simpa using hpt
        have ht0 := ht.1
        have ht1 := ht.2
        have e1 : showRun ops [] (out ++ [t]) = some (joinW ops it1 it t :: its0) := by
          rw [showRun_app, h1]
          simp only [showRun, showStep]
          rw [if_neg (by omega)]
        have hlen : (joinW ops it1 it t).1.length ≤ c0 + 1 + c := by
          simp only [joinW, List.length_append, List.length_cons, wrapP_fit]
          have q1 : it1.1.length + (if (decide (0 ≤ it1.2) && !bef ops it1.2 t) = true then 2 else 0) ≤ c0 := by
            have := hL.len
            rcases hL.fit with h | h | h
            · rw [if_neg (by simp; omega)]; omega
            · rw [if_neg (by simp [h])]; omega
            · split <;> omega
          have q2 : it.1.length + (if (decide (0 ≤ it.2) && bef ops t it.2) = true then 2 else 0) ≤ c := by
            rcases h5 with h | h | h
            · rw [if_neg (by simp; omega)]; omega
            · split <;> omega
            · have := h.1 t st rfl (by omega)
              rw [if_neg (by simp [this])]; omega
          omega
        obtain ⟨it', its', m', c', k1, k2, k3, k4, k5, k6⟩ := emit_pend hn hp hB st (out ++ [t]) (joinW ops it1 it t) its0 m0 (c0 + 1 + c) e1 h2 (.inr ht) hlen (.inr (.inr ⟨hA, hB t hpt'⟩))
        exact ⟨it', its', m', c', k1, k2, k3, k4, k5, by omega⟩

/-- what holds between two signs -/
structure RInv (ops : Ops) (x : RdS) (n : Nat) : Prop where
  len : x.1.length + x.2.1.length ≤ n
  sgs : ∀ s ∈ x.1, sgOk ops.length false s = true
  stk : ∀ t ∈ x.2.1, t = -1 ∨ inIdx t ops.length
  opd : x.2.2 = true → ∃ its, showRun ops [] x.1 = some its ∧ Pend ops x.2.1 its n
  opr : x.2.2 = false → ∃ it its m c, showRun ops [] x.1 = some (it :: its) ∧ Pend ops x.2.1 its m ∧ (it.2 = -1 ∨ inIdx it.2 ops.length) ∧ it.1.length ≤ c ∧ (it.2 = -1 ∨ it.1.length + 2 ≤ c) ∧ n = m + c

theorem emit_sgs {ops : Ops} {p : Int → Bool} {out st : List Int} (hp : p (-1) = true) (h1 : ∀ s ∈ out, sgOk ops.length false s = true) (h2 : ∀ t ∈ st, t = -1 ∨ inIdx t ops.length) : ∀ s ∈ (emitTo p out st).1, sgOk ops.length false s = true := by
  intro s hs
  rcases emitTo_out p st out s hs with h | ⟨h, h3⟩
  · exact h1 s h
  · rcases h2 s h with rfl | h4
    · rw [hp] at h3; cases h3
    · simp only [sgOk, Bool.or_eq_true, Bool.and_eq_true, decide_eq_true_eq]
      exact .inl (.inr h4)

theorem readStep_inv {ops : Ops} (hn : ops.length ≤ 6) {x y : RdS} {n : Nat} {s : Int} (hi : RInv ops x n) (hs : sgOk ops.length true s = true) (h : readStep ops x s = some y) : RInv ops y (n + 1) := by
  obtain ⟨out, st, o⟩ := x
  obtain ⟨hlen, hsgs, hstk, hopd, hopr⟩ := hi
  simp only at hlen hsgs hstk hopd hopr
  unfold readStep at h
  simp only at h
  split at h
  · cases h
  rename_i hop
  split at h
  · rename_i hv
    injection h with h
    subst h
    have ho : o = true := by
      cases o with
      | true => rfl
      | false => simp [hv] at hop
    obtain ⟨its, e1, e2⟩ := hopd ho
    refine ⟨by simp; omega, fun x hx => ?_, hstk, fun hc => (by cases hc), fun _ => ⟨([s], -1), its, n, 1, ?_, e2, .inl rfl, by simp, .inl rfl, rfl⟩⟩
    · simp only [List.mem_append, List.mem_singleton] at hx
      rcases hx with hx | rfl
      · exact hsgs x hx
      · simp [sgOk, hv]
    · simp only
      rw [showRun_app, e1]
      simp [showRun, showStep, hv]
  rename_i hv
  split at h
  · rename_i h1
    injection h with h
    subst h
    have ho : o = true := by
      cases o with
      | true => rfl
      | false => simp [h1] at hop
    obtain ⟨its, e1, e2⟩ := hopd ho
    subst h1
    refine ⟨by simp; omega, hsgs, fun t ht => ?_, fun _ => ⟨its, e1, .opn e2⟩, fun hc => (by simp [ho] at hc)⟩
    simp only [List.mem_cons] at ht
    rcases ht with rfl | ht
    · exact .inl rfl
    · exact hstk t ht
  rename_i h1
  have ho : o = false := by
    cases o with
    | false => rfl
    | true => simp [hv, h1] at hop
  obtain ⟨it, its, m, c, e1, e2, e3, e4, e5, e6⟩ := hopr ho
  split at h
  · rename_i h2
    have hl2 := emitTo_len (fun t => decide (t = -1)) st out
    have hs2 := emitTo_sub (fun t => decide (t = -1)) st out
    have hs3 := emit_sgs (ops := ops) (p := fun t => decide (t = -1)) (out := out) (st := st) (by simp) hsgs hstk
    have hst3 := emitTo_stop (fun t => decide (t = -1)) st out
    obtain ⟨it', its', m', c', k1, k2, k3, k4, k5, k6⟩ := emit_pend hn (p := fun t => decide (t = -1)) (by simp) (B := fun _ => True) (fun _ _ => trivial) st out it its m c e1 e2 e3 e4 (e5.imp id .inl)
    generalize emitTo (fun t => decide (t = -1)) out st = z at hl2 hs2 hs3 hst3 k1 k2 h
    obtain ⟨o1, s1⟩ := z
    simp only at hl2 hs2 hs3 hst3 k1 k2 h
    match s1, hl2, hs2, hst3, k2, h with
    | t :: s1, hl2, hs2, hst3, k2, h =>
      injection h with h
      subst h
      have htm : t = -1 := by simpa using hst3 t s1 rfl
      subst htm
      simp only [List.length_cons] at hl2
      refine ⟨by simp only; omega, hs3, fun x hx => hstk x (hs2 x (by simp [hx])), fun hc => (by simp [ho] at hc), fun _ => ?_⟩
      simp only
      generalize hq : m' = mm at k2
      cases k2 with
      | opn k2 =>
        rename_i m2
        exact ⟨it', its', m2, c' + 2, k1, k2, k3, by omega, .inr (by omega), by omega⟩
      | op _ hh _ _ => have := hh.1; omega
  · rename_i h2
    injection h with h
    subst h
    have hsI : inIdx s ops.length := by
      simp only [sgOk, Bool.true_and, Bool.or_eq_true, decide_eq_true_eq, Bool.and_eq_true] at hs
      rcases hs with (hs | hs) | hs
      · exact absurd hs hv
      · exact hs
      · rcases hs with hs | hs
        · exact absurd hs h1
        · exact absurd hs h2
    have hl2 := emitTo_len (fun t => decide (t = -1) || !bef ops t s) st out
    have hs2 := emitTo_sub (fun t => decide (t = -1) || !bef ops t s) st out
    have hs3 := emit_sgs (ops := ops) (p := fun t => decide (t = -1) || !bef ops t s) (out := out) (st := st) (by simp) hsgs hstk
    have hst3 := emitTo_stop (fun t => decide (t = -1) || !bef ops t s) st out
    obtain ⟨it', its', m', c', k1, k2, k3, k4, k5, k6⟩ := emit_pend hn (p := fun t => decide (t = -1) || !bef ops t s) (by simp) (B := fun t => bef ops t s = true) (fun t ht => by
      simp only [Bool.or_eq_false_iff, Bool.not_eq_false'] at ht; exact ht.2) st out it its m c e1 e2 e3 e4 (e5.imp id .inl)
    refine ⟨?_, hs3, fun t ht => ?_, fun _ => ⟨it' :: its', k1, ?_⟩, fun hc => (by cases hc)⟩
    · simp only [List.length_cons]; omega
    · simp only [List.mem_cons] at ht
      rcases ht with rfl | ht
      · exact .inr hsI
      · exact hstk t (hs2 t ht)
    · rw [show n + 1 = m' + c' + 1 by omega]
      refine .op k2 hsI ⟨k3, k4, ?_⟩ fun t r he hne => ?_
      · rcases k5 with h | h | h
        · exact .inl h
        · exact .inr (.inr h)
        · exact .inr (.inl h)
      · have := hst3 t r he
        simp only [Bool.or_eq_true, decide_eq_true_eq, Bool.not_eq_true'] at this
        exact this.resolve_left hne

theorem readRun_inv {ops : Ops} (hn : ops.length ≤ 6) : ∀ (l : List Int) (x y : RdS) (n : Nat), (∀ s ∈ l, sgOk ops.length true s = true) → RInv ops x n → readRun ops x l = some y → RInv ops y (n + l.length)
  | [], x, y, n, _, hi, h => by
    simp only [readRun, Option.some.injEq] at h
    subst h
    simpa using hi
  | s :: l, x, y, n, hs, hi, h => by
    simp only [readRun] at h
    cases hst : readStep ops x s with
    | none => rw [hst] at h; cases h
    | some z =>
      rw [hst] at h
      have := readRun_inv hn l z y (n + 1) (fun t ht => hs t (by simp [ht])) (readStep_inv hn hi (hs s (by simp)) hst) h
      rw [List.length_cons, show n + (l.length + 1) = n + 1 + l.length by omega]
      exact this

/-- **what is read is shown no longer than it was** -/
theorem read_show {ops : Ops} {l p : List Int} (g : GoodC ops l true) (h : readRes ops l = (p, 0)) : GoodC ops p false ∧ ∃ w, showRes ops p = (w, 0) ∧ w.length ≤ l.length := by
  unfold readRes at h
  cases hr : readRun ops ([], [], true) l with
  | none => rw [hr] at h; simp [readEnd] at h
  | some y =>
    rw [hr] at h
    obtain ⟨out, st, o⟩ := y
    cases o with
    | true => simp [readEnd] at h
    | false =>
      simp only [readEnd] at h
      split at h
      · rename_i hst
        simp only [Prod.mk.injEq, and_true] at h
        subst h
        have hi := readRun_inv g.n l _ _ 0 g.sg (⟨by simp, by simp, by simp, fun _ => ⟨[], rfl, .nil⟩, fun hc => (by cases hc)⟩ : RInv ops ([], [], true) 0) hr
        obtain ⟨hlen, hsgs, hstk, _, hopr⟩ := hi
        simp only at hlen hsgs hstk hopr
        obtain ⟨it, its, m, c, e1, e2, e3, e4, e5, e6⟩ := hopr trivial
        obtain ⟨it', its', m', c', k1, k2, k3, k4, k5, k6⟩ := emit_pend g.n (p := fun t => decide (t = -1)) (by simp) (B := fun _ => True) (fun _ _ => trivial) st out it its m c e1 e2 e3 e4 (e5.imp id .inl)
        have hl2 := emitTo_len (fun t => decide (t = -1)) st out
        rw [hst] at k2 hl2
        have hm := g.m
        refine ⟨⟨g.n, by simp at hl2; omega, g.ok, emit_sgs (by simp) hsgs hstk⟩, it'.1, ?_, ?_⟩
        · generalize hq : m' = mm at k2
          cases k2
          unfold showRes
          rw [k1]
          simp only
          rw [if_neg (by omega)]
        · omega
      · simp at h

end Dec
