/-
  Position automata in plain Lean (Glushkov): fragments that read what nodes match.
-/
import Derived.Test.YtckghdhnmpnljaaAftA
set_option linter.unusedSimpArgs false
set_option linter.unusedVariables false
namespace Gly
open Dec Rex

/-- from the position q, which reads the sign at a, on to the position r, which reads the sign ahead of b -/
inductive Ch (F : Nat → Nat → Prop) (sy : Nat → Int) (w : List Int) : Nat → Nat → Nat → Nat → Prop
  | one (q a : Nat) (h : w[a]? = some (sy q)) : Ch F sy w q a (a + 1) q
  | step (q q2 a b r : Nat) (h : w[a]? = some (sy q)) (hF : F q q2) (h2 : Ch F sy w q2 (a + 1) b r) : Ch F sy w q a b r

variable {F F' : Nat → Nat → Prop} {sy sy' : Nat → Int} {w : List Int}

theorem Ch.lt {q a b r : Nat} (h : Ch F sy w q a b r) : a < b ∧ b ≤ w.length := by
  induction h with
  | one q a h => exact ⟨by omega, (List.getElem?_eq_some_iff.1 h).1⟩
  | step q q2 a b r h hF h2 ih => omega

theorem Ch.mono {P : Nat → Prop} (hF : ∀ q r, P q → F q r → F' q r ∧ P r) (hs : ∀ q, P q → sy q = sy' q) {q a b r : Nat} (h : Ch F sy w q a b r) : P q → Ch F' sy' w q a b r ∧ P r := by
  induction h with
  | one q a h => exact fun hp => ⟨.one q a (by rw [← hs q hp]; exact h), hp⟩
  | step q q2 a b r h hf h2 ih =>
    intro hp
    obtain ⟨k1, k2⟩ := hF q q2 hp hf
    obtain ⟨k3, k4⟩ := ih k2
    exact ⟨.step q q2 a b r (by rw [← hs q hp]; exact h) k1 k3, k4⟩

theorem Ch.join {q a m b q1 q2 r : Nat} (h : Ch F sy w q a m q1) : F q1 q2 → Ch F sy w q2 m b r → Ch F sy w q a b r := by
  induction h with
  | one q a h => exact fun h1 h2 => .step q q2 a b r h h1 h2
  | step q q3 a m q1 h hf h2 ih => exact fun h1 h3 => .step q q3 a b r h hf (ih h1 h3)

/-- positions from N to below N', the first and the last ones, and what they read -/
structure Frag (F : Nat → Nat → Prop) (sy : Nat → Int) (w : List Int) (N N' : Nat) (fi la : Nat → Prop) (M : Nat → Nat → Prop) : Prop where
  le : N ≤ N'
  fin : ∀ q, fi q → N ≤ q ∧ q < N'
  lan : ∀ q, la q → N ≤ q ∧ q < N'
  fol : ∀ q, N ≤ q → q < N' → ∀ r, F q r → N ≤ r ∧ r < N'
  acc : ∀ a b, a < b → ((∃ q r, fi q ∧ Ch F sy w q a b r ∧ la r) ↔ M a b)

variable {N N1 N2 : Nat} {fi la fi2 la2 : Nat → Prop} {M M2 : Nat → Nat → Prop}

theorem Frag.inside (h : Frag F sy w N N1 fi la M) {q a b r : Nat} (hc : Ch F sy w q a b r) (hq : N ≤ q ∧ q < N1) : N ≤ r ∧ r < N1 :=
  (hc.mono (F' := F) (sy' := sy) (P := fun q => N ≤ q ∧ q < N1) (fun q r hp hf => ⟨hf, h.fol q hp.1 hp.2 r hf⟩) (fun _ _ => rfl) hq).2

theorem Frag.congr (h : Frag F sy w N N1 fi la M) (hF : ∀ q r, N ≤ q → q < N1 → (F q r ↔ F' q r)) (hs : ∀ q, N ≤ q → q < N1 → sy q = sy' q) : Frag F' sy' w N N1 fi la M := by
  refine ⟨h.le, h.fin, h.lan, fun q h1 h2 r hf => h.fol q h1 h2 r ((hF q r h1 h2).2 hf), fun a b hab => ?_⟩
  rw [← h.acc a b hab]
  constructor
  · rintro ⟨q, r, k1, k2, k3⟩
    exact ⟨q, r, k1, (k2.mono (F' := F) (sy' := sy) (P := fun q => N ≤ q ∧ q < N1) (fun q r hp hf => ⟨(hF q r hp.1 hp.2).2 hf, h.fol q hp.1 hp.2 r ((hF q r hp.1 hp.2).2 hf)⟩) (fun q hp => (hs q hp.1 hp.2).symm) (h.fin q k1)).1, k3⟩
  · rintro ⟨q, r, k1, k2, k3⟩
    exact ⟨q, r, k1, (k2.mono (F' := F') (sy' := sy') (P := fun q => N ≤ q ∧ q < N1) (fun q r hp hf => ⟨(hF q r hp.1 hp.2).1 hf, h.fol q hp.1 hp.2 r hf⟩) (fun q hp => hs q hp.1 hp.2) (h.fin q k1)).1, k3⟩

theorem Frag.same (h : Frag F sy w N N1 fi la M) {fi' la' : Nat → Prop} {M' : Nat → Nat → Prop} (h1 : ∀ q, fi q ↔ fi' q) (h2 : ∀ q, la q ↔ la' q) (h3 : ∀ a b, a < b → (M a b ↔ M' a b)) : Frag F sy w N N1 fi' la' M' := by
  refine ⟨h.le, fun q hq => h.fin q ((h1 q).2 hq), fun q hq => h.lan q ((h2 q).2 hq), h.fol, fun a b hab => ?_⟩
  rw [← h3 a b hab, ← h.acc a b hab]
  constructor
  · rintro ⟨q, r, k1, k2, k3⟩; exact ⟨q, r, (h1 q).2 k1, k2, (h2 r).2 k3⟩
  · rintro ⟨q, r, k1, k2, k3⟩; exact ⟨q, r, (h1 q).1 k1, k2, (h2 r).1 k3⟩

/-- nothing -/
theorem frag_none (F : Nat → Nat → Prop) (sy : Nat → Int) (w : List Int) (N : Nat) {M : Nat → Nat → Prop} (hM : ∀ a b, a < b → ¬ M a b) : Frag F sy w N N (fun _ => False) (fun _ => False) M :=
  ⟨Nat.le_refl _, fun _ h => h.elim, fun _ h => h.elim, fun q h1 h2 => by omega, fun a b hab => ⟨fun ⟨_, _, h, _⟩ => h.elim, fun h => absurd h (hM a b hab)⟩⟩

/-- one sign -/
theorem frag_sym (hF : ∀ r, ¬ F N r) {M : Nat → Nat → Prop} (hM : ∀ a b, M a b ↔ b = a + 1 ∧ w[a]? = some (sy N)) : Frag F sy w N (N + 1) (fun q => q = N) (fun q => q = N) M := by
  refine ⟨by omega, fun q h => by omega, fun q h => by omega, fun q h1 h2 r hf => ?_, fun a b hab => ?_⟩
  · have : q = N := by omega
    subst this
    exact absurd hf (hF r)
  · rw [hM]
    constructor
    · rintro ⟨q, r, rfl, hc, rfl⟩
      cases hc with
      | one q a h => exact ⟨rfl, h⟩
      | step q q2 a b r h hf h2 => exact absurd hf (hF q2)
    · rintro ⟨rfl, h⟩
      exact ⟨N, N, rfl, .one N a h, rfl⟩

/-- one of two -/
theorem frag_or (h1 : Frag F sy w N N1 fi la M) (h2 : Frag F sy w N1 N2 fi2 la2 M2) : Frag F sy w N N2 (fun q => fi q ∨ fi2 q) (fun q => la q ∨ la2 q) (fun a b => M a b ∨ M2 a b) := by
  have l1 := h1.le
  have l2 := h2.le
  refine ⟨by omega, fun q h => ?_, fun q h => ?_, fun q k1 k2 r hf => ?_, fun a b hab => ?_⟩
  · rcases h with h | h
    · have := h1.fin q h; omega
    · have := h2.fin q h; omega
  · rcases h with h | h
    · have := h1.lan q h; omega
    · have := h2.lan q h; omega
  · by_cases hq : q < N1
    · have := h1.fol q k1 hq r hf; omega
    · have := h2.fol q (by omega) k2 r hf; omega
  · rw [← h1.acc a b hab, ← h2.acc a b hab]
    constructor
    · rintro ⟨q, r, k1 | k1, k2, k3⟩
      · have hr := h1.inside k2 (h1.fin q k1)
        rcases k3 with k3 | k3
        · exact .inl ⟨q, r, k1, k2, k3⟩
        · have := h2.lan r k3; omega
      · have hr := h2.inside k2 (h2.fin q k1)
        rcases k3 with k3 | k3
        · have := h1.lan r k3; omega
        · exact .inr ⟨q, r, k1, k2, k3⟩
    · rintro (⟨q, r, k1, k2, k3⟩ | ⟨q, r, k1, k2, k3⟩)
      · exact ⟨q, r, .inl k1, k2, .inl k3⟩
      · exact ⟨q, r, .inr k1, k2, .inr k3⟩

/-- with further steps from some positions to some others: the first such step -/
theorem Ch.first {la fi : Nat → Prop} (hF : ∀ q r, F' q r → F q r ∨ (la q ∧ fi r)) {q a b r : Nat} (h : Ch F' sy w q a b r) : Ch F sy w q a b r ∨ ∃ m q1 q2, Ch F sy w q a m q1 ∧ la q1 ∧ fi q2 ∧ Ch F' sy w q2 m b r := by
  induction h with
  | one q a h => exact .inl (.one q a h)
  | step q q2 a b r h hf h2 ih =>
    rcases hF q q2 hf with k | ⟨k1, k2⟩
    · rcases ih with ih | ⟨m, q1, q3, i1, i2, i3, i4⟩
      · exact .inl (.step q q2 a b r h k ih)
      · exact .inr ⟨m, q1, q3, .step q q2 a m q1 h k i1, i2, i3, i4⟩
    · exact .inr ⟨a + 1, q, q2, .one q a h, k1, k2, h2⟩

/-- one behind the other -/
theorem frag_cat {ex ey : Prop} (h1 : Frag F sy w N N1 fi la M) (h2 : Frag F sy w N1 N2 fi2 la2 M2) (hF : ∀ q r, N ≤ q → q < N2 → (F' q r ↔ F q r ∨ (la q ∧ fi2 r)))
    (hx : ∀ a b, M a b → a ≤ b ∧ b ≤ w.length) (hy : ∀ a b, M2 a b → a ≤ b ∧ b ≤ w.length) (hx0 : ∀ a, a ≤ w.length → (M a a ↔ ex)) (hy0 : ∀ a, a ≤ w.length → (M2 a a ↔ ey)) :
    Frag F' sy w N N2 (fun q => fi q ∨ (ex ∧ fi2 q)) (fun q => la2 q ∨ (ey ∧ la q)) (fun a b => ∃ m, M a m ∧ M2 m b) := by
  have l1 := h1.le
  have l2 := h2.le
  have in2 : ∀ q, N1 ≤ q → q < N2 → ∀ r, F' q r → F q r := by
    intro q k1 k2 r hf
    rcases (hF q r (by omega) k2).1 hf with h | ⟨h, _⟩
    · exact h
    · have := h1.lan q h; omega
  have mono : ∀ q r, N ≤ q → q < N2 → F q r → F' q r := fun q r k1 k2 hf => (hF q r k1 k2).2 (.inl hf)
  have ch2 : ∀ {q a b r : Nat}, Ch F' sy w q a b r → N1 ≤ q ∧ q < N2 → Ch F sy w q a b r := fun hc hq =>
    (hc.mono (F' := F) (sy' := sy) (P := fun q => N1 ≤ q ∧ q < N2) (fun q r hp hf => ⟨in2 q hp.1 hp.2 r hf, h2.fol q hp.1 hp.2 r (in2 q hp.1 hp.2 r hf)⟩) (fun _ _ => rfl) hq).1
  have up1 : ∀ {q a b r : Nat}, Ch F sy w q a b r → N ≤ q ∧ q < N1 → Ch F' sy w q a b r := fun hc hq =>
    (hc.mono (F' := F') (sy' := sy) (P := fun q => N ≤ q ∧ q < N1) (fun q r hp hf => ⟨mono q r hp.1 (by have := hp.2; omega) hf, h1.fol q hp.1 hp.2 r hf⟩) (fun _ _ => rfl) hq).1
  have up2 : ∀ {q a b r : Nat}, Ch F sy w q a b r → N1 ≤ q ∧ q < N2 → Ch F' sy w q a b r := fun hc hq =>
    (hc.mono (F' := F') (sy' := sy) (P := fun q => N1 ≤ q ∧ q < N2) (fun q r hp hf => ⟨mono q r (by have := hp.1; omega) hp.2 hf, h2.fol q hp.1 hp.2 r hf⟩) (fun _ _ => rfl) hq).1
  refine ⟨by omega, fun q h => ?_, fun q h => ?_, fun q k1 k2 r hf => ?_, fun a b hab => ?_⟩
  · rcases h with h | ⟨_, h⟩
    · have := h1.fin q h; omega
    · have := h2.fin q h; omega
  · rcases h with h | ⟨_, h⟩
    · have := h2.lan q h; omega
    · have := h1.lan q h; omega
  · rcases (hF q r k1 k2).1 hf with h | ⟨h, h'⟩
    · by_cases hq : q < N1
      · have := h1.fol q k1 hq r h; omega
      · have := h2.fol q (by omega) k2 r h; omega
    · have := h2.fin r h'; omega
  · constructor
    · rintro ⟨q, r, k1, k2, k3⟩
      have hlt := k2.lt
      rcases k1 with k1 | ⟨e1, k1⟩
      · have hq := h1.fin q k1
        -- the word's first part
        have key : Ch F sy w q a b r ∨ ∃ m q1 q2, Ch F sy w q a m q1 ∧ la q1 ∧ fi2 q2 ∧ Ch F' sy w q2 m b r := by
          have : Ch (fun q r => (N ≤ q ∧ q < N2) ∧ F' q r) sy w q a b r := by
            refine (k2.mono (F' := fun q r => (N ≤ q ∧ q < N2) ∧ F' q r) (sy' := sy) (P := fun q => N ≤ q ∧ q < N2) (fun q r hp hf => ⟨⟨hp, hf⟩, ?_⟩) (fun _ _ => rfl) ⟨hq.1, by omega⟩).1
            rcases (hF q r hp.1 hp.2).1 hf with h | ⟨h, h'⟩
            · by_cases hq : q < N1
              · have := h1.fol q hp.1 hq r h; omega
              · have := h2.fol q (by omega) hp.2 r h; omega
            · have := h2.fin r h'; omega
          rcases this.first (F := F) (la := la) (fi := fi2) (fun q r hf => (hF q r hf.1.1 hf.1.2).1 hf.2) with h | ⟨m, q1, q2, i1, i2, i3, i4⟩
          · exact .inl h
          · exact .inr ⟨m, q1, q2, i1, i2, i3, (i4.mono (F' := F') (sy' := sy) (P := fun _ => True) (fun q r _ hf => ⟨hf.2, trivial⟩) (fun _ _ => rfl) trivial).1⟩
        rcases key with hc | ⟨m, q1, q2, i1, i2, i3, i4⟩
        · have hr := h1.inside hc hq
          rcases k3 with k3 | ⟨e2, k3⟩
          · have := h2.lan r k3; omega
          · exact ⟨b, (h1.acc a b hab).1 ⟨q, r, k1, hc, k3⟩, (hy0 b hlt.2).2 e2⟩
        · have hq2 := h2.fin q2 i3
          have hc2 := ch2 i4 hq2
          have hr := h2.inside hc2 hq2
          have k1' := i1.lt
          have k2' := i4.lt
          rcases k3 with k3 | ⟨_, k3⟩
          · exact ⟨m, (h1.acc a m k1'.1).1 ⟨q, q1, k1, i1, i2⟩, (h2.acc m b k2'.1).1 ⟨q2, r, i3, hc2, k3⟩⟩
          · have := h1.lan r k3; omega
      · have hq := h2.fin q k1
        have hc2 := ch2 k2 hq
        have hr := h2.inside hc2 hq
        rcases k3 with k3 | ⟨_, k3⟩
        · exact ⟨a, (hx0 a (by omega)).2 e1, (h2.acc a b hab).1 ⟨q, r, k1, hc2, k3⟩⟩
        · have := h1.lan r k3; omega
    · rintro ⟨m, m1, m2⟩
      have b1 := hx a m m1
      have b2 := hy m b m2
      by_cases ham : a = m
      · subst ham
        have e1 := (hx0 a (by omega)).1 m1
        obtain ⟨q, r, k1, k2, k3⟩ := (h2.acc a b hab).2 m2
        exact ⟨q, r, .inr ⟨e1, k1⟩, up2 k2 (h2.fin q k1), .inl k3⟩
      · by_cases hmb : m = b
        · subst hmb
          have e2 := (hy0 m (by omega)).1 m2
          obtain ⟨q, r, k1, k2, k3⟩ := (h1.acc a m hab).2 m1
          exact ⟨q, r, .inl k1, up1 k2 (h1.fin q k1), .inr ⟨e2, k3⟩⟩
        · obtain ⟨q, r, k1, k2, k3⟩ := (h1.acc a m (by omega)).2 m1
          obtain ⟨q', r', k1', k2', k3'⟩ := (h2.acc m b (by omega)).2 m2
          have hr := h1.lan r k3
          exact ⟨q, r', .inl k1, (up1 k2 (h1.fin q k1)).join ((hF r q' hr.1 (by omega)).2 (.inr ⟨k3, k1'⟩)) (up2 k2' (h2.fin q' k1')), .inl k3'⟩

/-- again and again -/
inductive Plus (M : Nat → Nat → Prop) : Nat → Nat → Prop
  | one (a b : Nat) (h : M a b) (hab : a < b) : Plus M a b
  | more (a m b : Nat) (h : M a m) (ham : a < m) (h2 : Plus M m b) : Plus M a b

theorem frag_star (h1 : Frag F sy w N N1 fi la M) (hF : ∀ q r, N ≤ q → q < N1 → (F' q r ↔ F q r ∨ (la q ∧ fi r))) : Frag F' sy w N N1 fi la (Plus M) := by
  have cl : ∀ q r, N ≤ q → q < N1 → F' q r → N ≤ r ∧ r < N1 := by
    intro q r k1 k2 hf
    rcases (hF q r k1 k2).1 hf with h | ⟨_, h⟩
    · exact h1.fol q k1 k2 r h
    · exact h1.fin r h
  have up : ∀ {q a b r : Nat}, Ch F sy w q a b r → N ≤ q ∧ q < N1 → Ch F' sy w q a b r := fun hc hq =>
    (hc.mono (F' := F') (sy' := sy) (P := fun q => N ≤ q ∧ q < N1) (fun q r hp hf => ⟨(hF q r hp.1 hp.2).2 (.inl hf), h1.fol q hp.1 hp.2 r hf⟩) (fun _ _ => rfl) hq).1
  refine ⟨h1.le, h1.fin, h1.lan, fun q k1 k2 r hf => cl q r k1 k2 hf, fun a b hab => ⟨?_, fun h => ?_⟩⟩
  · have key : ∀ (n a b q r : Nat), b - a ≤ n → fi q → Ch F' sy w q a b r → la r → Plus M a b := by
      intro n
      induction n with
      | zero => intro a b q r hn _ hc _; have := hc.lt; omega
      | succ n ih =>
        intro a b q r hn hq hc hr
        have hlt := hc.lt
        have this : Ch (fun q r => (N ≤ q ∧ q < N1) ∧ F' q r) sy w q a b r :=
          (hc.mono (F' := fun q r => (N ≤ q ∧ q < N1) ∧ F' q r) (sy' := sy) (P := fun q => N ≤ q ∧ q < N1) (fun q r hp hf => ⟨⟨hp, hf⟩, cl q r hp.1 hp.2 hf⟩) (fun _ _ => rfl) (h1.fin q hq)).1
        rcases this.first (F := F) (la := la) (fi := fi) (fun q r hf => (hF q r hf.1.1 hf.1.2).1 hf.2) with h | ⟨m, q1, q2, i1, i2, i3, i4⟩
        · exact .one a b ((h1.acc a b hlt.1).1 ⟨q, r, hq, h, hr⟩) hlt.1
        · have k1 := i1.lt
          have k2 := i4.lt
          have i4' := (i4.mono (F' := F') (sy' := sy) (P := fun _ => True) (fun q r _ hf => ⟨hf.2, trivial⟩) (fun _ _ => rfl) trivial).1
          exact .more a m b ((h1.acc a m k1.1).1 ⟨q, q1, hq, i1, i2⟩) k1.1 (ih m b q2 r (by omega) i3 i4' hr)
    rintro ⟨q, r, k1, k2, k3⟩
    exact key (b - a) a b q r (Nat.le_refl _) k1 k2 k3
  · clear hab
    induction h with
    | one a b h hab =>
      obtain ⟨q, r, k1, k2, k3⟩ := (h1.acc a b hab).2 h
      exact ⟨q, r, k1, up k2 (h1.fin q k1), k3⟩
    | more a m b h ham h2 ih =>
      obtain ⟨q, r, k1, k2, k3⟩ := (h1.acc a m ham).2 h
      obtain ⟨q', r', k1', k2', k3'⟩ := ih
      have hr := h1.lan r k3
      exact ⟨q, r', k1, (up k2 (h1.fin q k1)).join ((hF r q' hr.1 hr.2).2 (.inr ⟨k3, k1'⟩)) k2', k3'⟩

theorem plus_star {l : List Nd} {t : Nat} (hk : (nd l t).1 = 6) {a b : Nat} (hab : a < b) : Plus (Mat l w (nd l t).2.1.toNat) a b ↔ Mat l w t a b := by
  constructor
  · intro h
    clear hab
    induction h with
    | one a b h hab => exact star_left hk h (.star0 t b hk h.le.2)
    | more a m b h ham h2 ih => exact star_left hk h ih
  · have key : ∀ (n a b : Nat), b - a ≤ n → a < b → Mat l w t a b → Plus (Mat l w (nd l t).2.1.toNat) a b := by
      intro n
      induction n with
      | zero => intro a b hn hab; omega
      | succ n ih =>
        intro a b hn hab h
        obtain ⟨m, h1, h2, h3⟩ := star_first' h hk hab
        by_cases hmb : m < b
        · exact .more a m b h2 h1 (ih m b (by omega) hmb h3)
        · have : m = b := by have := h3.le; omega
          subst this
          exact .one a m h2 h1
    exact key (b - a) a b (Nat.le_refl _) hab

end Gly
