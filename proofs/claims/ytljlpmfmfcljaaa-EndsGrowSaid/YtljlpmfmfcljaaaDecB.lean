/-
What it is for a datum to lie in memory, and for a plain state (slots and own blocks) to be told of a frame and a world.
-/
import Derived.Test.YtljlpmfmfcljaaaDecMd
import Derived.Test.YtljlpmfmfcljaaaDecA
set_option linter.unusedSimpArgs false
set_option linter.unusedVariables false
namespace Dec
open Go Go.RowKit
def All2 {α β : Type} (R : α → β → Prop) : List α → List β → Prop
  | [], [] => True
  | a :: l, b :: m => R a b ∧ All2 R l m
  | _, _ => False
theorem All2.imp {α β : Type} {R R' : α → β → Prop} : ∀ {l : List α} {m : List β}, (∀ a ∈ l, ∀ b, R a b → R' a b) → All2 R l m → All2 R' l m
  | [], [], _, h => h
  | _ :: _, _ :: _, H, h => ⟨H _ (by simp) _ h.1, All2.imp (fun a ha => H a (by simp [ha])) h.2⟩
  | [], _ :: _, _, h => h.elim
  | _ :: _, [], _, h => h.elim
theorem All2.length {α β : Type} {R : α → β → Prop} : ∀ {l : List α} {m : List β}, All2 R l m → l.length = m.length
  | [], [], _ => rfl
  | _ :: _, _ :: _, h => by simp [All2.length h.2]
  | [], _ :: _, h => h.elim
  | _ :: _, [], h => h.elim
theorem All2.get {α β : Type} {R : α → β → Prop} : ∀ {l : List α} {m : List β} (i : Nat) (a : α), All2 R l m → l[i]? = some a → ∃ b, m[i]? = some b ∧ R a b
  | _ :: _, b :: _, 0, a, h, e => ⟨b, rfl, by simp at e; subst e; exact h.1⟩
  | _ :: _, _ :: _, i + 1, a, h, e => by simpa using All2.get i a h.2 (by simpa using e)
  | [], _, _, _, _, e => by simp at e
  | _ :: _, [], _, _, h, _ => h.elim
theorem All2.append {α β : Type} {R : α → β → Prop} : ∀ {l : List α} {m : List β} {l' : List α} {m' : List β}, All2 R l m → All2 R l' m' → All2 R (l ++ l') (m ++ m')
  | [], [], _, _, _, h' => h'
  | _ :: _, _ :: _, _, _, h, h' => ⟨h.1, All2.append h.2 h'⟩
  | [], _ :: _, _, _, h, _ => h.elim
  | _ :: _, [], _, _, h, _ => h.elim
theorem All2.take {α β : Type} {R : α → β → Prop} : ∀ {l : List α} {m : List β} (n : Nat), All2 R l m → All2 R (l.take n) (m.take n)
  | _, _, 0, _ => by simp [All2]
  | [], [], _ + 1, _ => by simp [All2]
  | _ :: _, _ :: _, n + 1, h => by simpa [All2] using ⟨h.1, All2.take n h.2⟩
  | [], _ :: _, _, h => h.elim
  | _ :: _, [], _, h => h.elim
theorem All2.drop {α β : Type} {R : α → β → Prop} : ∀ {l : List α} {m : List β} (n : Nat), All2 R l m → All2 R (l.drop n) (m.drop n)
  | _, _, 0, h => by simpa using h
  | [], [], _ + 1, _ => by simp [All2]
  | _ :: _, _ :: _, n + 1, h => by simpa using All2.drop n h.2
  | [], _ :: _, _, h => h.elim
  | _ :: _, [], _, h => h.elim
theorem All2.mem_right {α β : Type} {R : α → β → Prop} : ∀ {l : List α} {m : List β} {b : β}, All2 R l m → b ∈ m → ∃ a ∈ l, R a b
  | _ :: _, _ :: _, b, h, hb => by
    rcases List.mem_cons.1 hb with rfl | hb
    · exact ⟨_, by simp, h.1⟩
    · obtain ⟨a, ha, hr⟩ := All2.mem_right h.2 hb
      exact ⟨a, by simp [ha], hr⟩
  | [], [], _, _, hb => by simp at hb
  | [], _ :: _, _, h, _ => h.elim
  | _ :: _, [], _, h, _ => h.elim
theorem All2.left_of {α β : Type} {R : α → β → Prop} {O : α → Prop} (H : ∀ a b, R a b → O a) : ∀ {l : List α} {m : List β}, All2 R l m → ∀ a ∈ l, O a
  | [], [], _, _, h => by simp at h
  | _ :: _, _ :: _, h, a, ha => by
    rcases List.mem_cons.1 ha with rfl | ha
    · exact H _ _ h.1
    · exact All2.left_of H h.2 a ha
  | [], _ :: _, h, _, _ => h.elim
  | _ :: _, [], h, _, _ => h.elim
def EncL {α : Type} (E : α → List Value → Prop) : List α → List Value → Prop
  | [], xs => xs = []
  | x :: l, xs => ∃ c r, xs = c ++ r ∧ E x c ∧ EncL E l r
def mkVal (t : Ty) (cs : List Value) : Value := if t.isPr then .agg cs.toArray else cs.headD undef
def EntRep {α β : Type} (kt vt : Ty) (EK : α → List Value → Prop) (EV : β → List Value → Prop) (x : α × β) (e : MapEntry) : Prop :=
  (∃ c, EK x.1 c ∧ e.key = mkVal kt c) ∧ ∃ c, EV x.2 c ∧ e.val = mkVal vt c
def SlE (w : World) (S : Nat → Prop) {α : Type} (E : α → List Value → Prop) (l : List α) (v : Value) : Prop :=
  ∃ a c, v = .slice a l.length c ∧ l.length ≤ c ∧ c ≤ maxLen ∧ (l = [] ∨ ∃ b off cells e fz xs, a = some ⟨b, off, none⟩ ∧ S b ∧ w.heap[b]? = some (.cells cells e fz) ∧ EncL E l xs ∧ ∀ j u, xs[j]? = some u → cells[off + j]? = some u)
def EncT (w : World) (S : Nat → Prop) : Nat → Tree → List Value → Prop
  | 0, _, _ => False
  | n + 1, x, cs => ∃ v1 v2, cs = [.int .i64 x.rule, v1, v2] ∧ (IntKind.min .i64 ≤ x.rule ∧ x.rule ≤ IntKind.max .i64) ∧ SlE w S (EncT w S n) x.kids v1 ∧ SlE w S (fun (i : Int) cs => cs = [.int .i64 i] ∧ IntKind.min .i64 ≤ i ∧ i ≤ IntKind.max .i64) x.word v2
def Enc (w : World) (S : Nat → Prop) : (t : Ty) → t.T → List Value → Prop
  | .int k, n, cs => cs = [.int k n] ∧ k.min ≤ n ∧ n ≤ k.max
  | .bool, b, cs => cs = [.bool b]
  | .sl t, l, cs => ∃ a c, cs = [.slice a l.length c] ∧ l.length ≤ c ∧ c ≤ maxLen ∧
      (l = [] ∨ ∃ b off cells e fz xs, a = some ⟨b, off, none⟩ ∧ S b ∧ w.heap[b]? = some (.cells cells e fz) ∧ EncL (fun x cs => Enc w S t x cs) l xs ∧ ∀ j u, xs[j]? = some u → cells[off + j]? = some u)
  | .pr a b, x, cs => ∃ c1 c2, cs = c1 ++ c2 ∧ Enc w S a x.1 c1 ∧ Enc w S b x.2 c2
  | .ar n t, l, cs => l.length = n + 1 ∧ EncL (fun x cs => Enc w S t x cs) l cs
  | .mp k v, l, cs => (cs = [.map none] ∧ l = []) ∨ ∃ g es ck, cs = [.map (some g)] ∧ S g ∧ w.heap[g]? = some (.map es ck) ∧
      All2 (EntRep k v (fun x cs => Enc w S k x cs) (fun x cs => Enc w S v x cs)) l es.toList
  | .tr, x, cs => ∃ n, EncT w S n x cs
theorem EncL.imp {α : Type} {E E' : α → List Value → Prop} (H : ∀ x c, E x c → E' x c) : ∀ {l : List α} {xs : List Value}, EncL E l xs → EncL E' l xs
  | [], _, h => h
  | _ :: _, _, ⟨c, r, e, h1, h2⟩ => ⟨c, r, e, H _ _ h1, EncL.imp H h2⟩
theorem SlE.imp {w w' : World} {S S' : Nat → Prop} (H : ∀ b, S b → S' b ∧ w'.heap[b]? = w.heap[b]?) {α : Type} {E E' : α → List Value → Prop} (hE : ∀ x c, E x c → E' x c) {l : List α} {v : Value} (h : SlE w S E l v) : SlE w' S' E' l v := by
  obtain ⟨a, c, e, hc, hm, hr⟩ := h
  exact ⟨a, c, e, hc, hm, hr.imp id fun ⟨b, off, cells, ty, fz, xs, ea, hS, hb, hx, hj⟩ => ⟨b, off, cells, ty, fz, xs, ea, (H b hS).1, (H b hS).2.trans hb, EncL.imp hE hx, hj⟩⟩
theorem EncT.keep {w w' : World} {S S' : Nat → Prop} (H : ∀ b, S b → S' b ∧ w'.heap[b]? = w.heap[b]?) : ∀ {n : Nat} {x : Tree} {cs : List Value}, EncT w S n x cs → EncT w' S' n x cs
  | 0, _, _, h => h.elim
  | n + 1, _, _, ⟨v1, v2, e, h0, h1, h2⟩ => ⟨v1, v2, e, h0, h1.imp H fun _ _ hh => EncT.keep H hh, h2.imp H fun _ _ hh => hh⟩
theorem EncT.mono {w : World} {S : Nat → Prop} : ∀ {n m : Nat} {x : Tree} {cs : List Value}, n ≤ m → EncT w S n x cs → EncT w S m x cs
  | 0, _, _, _, _, h => h.elim
  | n + 1, 0, _, _, hn, _ => absurd hn (by omega)
  | n + 1, m + 1, _, _, hn, ⟨v1, v2, e, h0, h1, h2⟩ => ⟨v1, v2, e, h0, h1.imp (fun b hb => ⟨hb, rfl⟩) fun _ _ hh => EncT.mono (by omega) hh, h2⟩
theorem EncL.deep {w : World} {S : Nat → Prop} : ∀ {l : List Tree} {xs : List Value}, EncL (fun x cs => ∃ n, EncT w S n x cs) l xs → ∃ n, EncL (EncT w S n) l xs
  | [], _, h => ⟨0, h⟩
  | _ :: _, _, ⟨c, r, e, ⟨n, h1⟩, h2⟩ => by
    obtain ⟨m, h3⟩ := EncL.deep h2
    exact ⟨max n m, c, r, e, h1.mono (Nat.le_max_left _ _), EncL.imp (fun _ _ hh => EncT.mono (Nat.le_max_right _ _) hh) h3⟩
theorem Enc.keep {w w' : World} {S S' : Nat → Prop} (H : ∀ b, S b → S' b ∧ w'.heap[b]? = w.heap[b]?) : ∀ {t : Ty} {x : t.T} {cs : List Value}, Enc w S t x cs → Enc w' S' t x cs
  | .int _, _, _, h => h
  | .bool, _, _, h => h
  | .sl t, l, cs, ⟨a, c, e, hc, hm, hr⟩ => ⟨a, c, e, hc, hm, hr.imp id fun ⟨b, off, cells, ty, fz, xs, ea, hS, hb, hx, hj⟩ =>
      ⟨b, off, cells, ty, fz, xs, ea, (H b hS).1, (H b hS).2.trans hb, EncL.imp (fun _ _ hh => Enc.keep H hh) hx, hj⟩⟩
  | .pr _ _, _, _, ⟨c1, c2, e, h1, h2⟩ => ⟨c1, c2, e, Enc.keep H h1, Enc.keep H h2⟩
  | .ar _ _, _, _, ⟨e, h⟩ => ⟨e, EncL.imp (fun _ _ hh => Enc.keep H hh) h⟩
  | .mp k v, l, cs, h => h.imp id fun ⟨g, es, ck, e, hS, hb, h2⟩ => ⟨g, es, ck, e, (H g hS).1, (H g hS).2.trans hb,
      All2.imp (fun _ _ _ ⟨⟨c1, a1, a2⟩, c2, b1, b2⟩ => ⟨⟨c1, Enc.keep H a1, a2⟩, c2, Enc.keep H b1, b2⟩) h2⟩
  | .tr, _, _, ⟨n, h⟩ => ⟨n, h.keep H⟩
abbrev trU : Ty := .pr (.int .i64) (.pr (.sl .tr) (.sl (.int .i64)))
theorem enc_tr {w : World} {S : Nat → Prop} {x : Tree} {cs : List Value} : Enc w S .tr x cs ↔ Enc w S trU (x.rule, x.kids, x.word) cs := by
  constructor
  · rintro ⟨n, h⟩
    cases n with
    | zero => exact h.elim
    | succ n =>
      obtain ⟨v1, v2, rfl, h0, ⟨a1, c1, e1, q1, q2, q3⟩, h2⟩ := h
      exact ⟨[.int .i64 x.rule], [v1, v2], rfl, ⟨rfl, h0⟩, [v1], [v2], rfl, ⟨a1, c1, by rw [e1], q1, q2, q3.imp id fun ⟨b, off, cells, ty, fz, xs, ea, hS, hb, hx, hj⟩ => ⟨b, off, cells, ty, fz, xs, ea, hS, hb, EncL.imp (fun _ _ hh => ⟨n, hh⟩) hx, hj⟩⟩, by
        obtain ⟨a2, c2, e2, r1, r2, r3⟩ := h2
        exact ⟨a2, c2, by rw [e2], r1, r2, r3⟩⟩
  · rintro ⟨c1, c2, rfl, ⟨rfl, h0⟩, c3, c4, rfl, ⟨a1, k1, rfl, q1, q2, q3⟩, a2, k2, rfl, r1, r2, r3⟩
    rcases q3 with hk | ⟨b, off, cells, ty, fz, xs, ea, hS, hb, hx, hj⟩
    · exact ⟨1, _, _, rfl, h0, ⟨a1, k1, rfl, q1, q2, .inl hk⟩, a2, k2, rfl, r1, r2, r3⟩
    · obtain ⟨n, hn⟩ := EncL.deep hx
      exact ⟨n + 1, _, _, rfl, h0, ⟨a1, k1, rfl, q1, q2, .inr ⟨b, off, cells, ty, fz, xs, ea, hS, hb, hn, hj⟩⟩, a2, k2, rfl, r1, r2, r3⟩
section
variable {w : World} {S : Nat → Prop}
theorem EncL.length {α : Type} {E : α → List Value → Prop} {n : Nat} (H : ∀ x c, E x c → c.length = n) : ∀ {l : List α} {xs : List Value}, EncL E l xs → xs.length = l.length * n
  | [], _, h => by unfold EncL at h; rw [h]; simp
  | _ :: l, _, ⟨c, r, e, h1, h2⟩ => by rw [e, List.length_append, H _ _ h1, EncL.length H h2, List.length_cons, Nat.add_mul]; omega
theorem EncL.one {α : Type} {E : α → List Value → Prop} (H : ∀ x c, E x c → ∀ v ∈ c, v.oneCell' = true) : ∀ {l : List α} {xs : List Value}, EncL E l xs → ∀ v ∈ xs, v.oneCell' = true
  | [], _, h => by unfold EncL at h; rw [h]; simp
  | _ :: l, _, ⟨c, r, e, h1, h2⟩ => by
    intro v hv
    rw [e, List.mem_append] at hv
    exact hv.elim (H _ _ h1 v) (EncL.one H h2 v)
theorem Enc.length : ∀ {t : Ty} {x : t.T} {cs : List Value}, Enc w S t x cs → cs.length = t.size
  | .int _, _, _, h => by rw [h.1]; rfl
  | .bool, _, _, h => by unfold Enc at h; rw [h]; rfl
  | .sl _, _, _, ⟨_, _, e, _⟩ => by rw [e]; rfl
  | .pr _ _, _, _, ⟨_, _, e, h1, h2⟩ => by rw [e, List.length_append, Enc.length h1, Enc.length h2]; rfl
  | .ar n t, l, _, ⟨e, h⟩ => by rw [EncL.length (fun _ _ hh => Enc.length hh) h, e]; rfl
  | .mp _ _, _, _, h => by rcases h with ⟨e, _⟩ | ⟨_, _, _, e, _⟩ <;> (rw [e]; rfl)
  | .tr, _, _, ⟨0, h⟩ => h.elim
  | .tr, _, _, ⟨_ + 1, _, _, e, _⟩ => by rw [e]; rfl
theorem Enc.one : ∀ {t : Ty} {x : t.T} {cs : List Value}, Enc w S t x cs → ∀ v ∈ cs, v.oneCell' = true
  | .int _, _, _, h => by rw [h.1]; simp [Value.oneCell']
  | .bool, _, _, h => by unfold Enc at h; rw [h]; simp [Value.oneCell']
  | .sl _, _, _, ⟨_, _, e, _⟩ => by rw [e]; simp [Value.oneCell']
  | .pr _ _, _, _, ⟨_, _, e, h1, h2⟩ => by
    intro v hv
    rw [e, List.mem_append] at hv
    exact hv.elim (Enc.one h1 v) (Enc.one h2 v)
  | .ar _ _, _, _, ⟨_, h⟩ => EncL.one (fun _ _ hh => Enc.one hh) h
  | .mp _ _, _, _, h => by rcases h with ⟨e, _⟩ | ⟨_, _, _, e, _⟩ <;> (rw [e]; simp [Value.oneCell'])
  | .tr, _, _, ⟨0, h⟩ => h.elim
  | .tr, _, _, ⟨_ + 1, _, _, e, _, ⟨_, _, e1, _⟩, ⟨_, _, e2, _⟩⟩ => by rw [e, e1, e2]; simp [Value.oneCell']
theorem EncL.ok {α : Type} {E : α → List Value → Prop} {O : α → Prop} (H : ∀ x c, E x c → O x) : ∀ {l : List α} {xs : List Value}, EncL E l xs → ∀ x ∈ l, O x
  | [], _, _ => by simp
  | a :: l, _, ⟨c, r, e, h1, h2⟩ => by
    intro x hx
    rcases List.mem_cons.1 hx with rfl | hx
    · exact H _ _ h1
    · exact EncL.ok H h2 x hx
theorem Enc.ok : ∀ {t : Ty} {x : t.T} {cs : List Value}, Enc w S t x cs → Ok t x
  | .int _, _, _, h => h.2
  | .bool, _, _, _ => trivial
  | .sl t, l, _, ⟨_, c, _, hc, hm, hr⟩ => by
    refine ⟨by simp only [maxLen] at hm; omega, ?_⟩
    rcases hr with rfl | ⟨_, _, _, _, _, xs, _, _, _, hx, _⟩
    · simp
    · exact EncL.ok (fun _ _ hh => Enc.ok hh) hx
  | .pr _ _, _, _, ⟨_, _, _, h1, h2⟩ => ⟨Enc.ok h1, Enc.ok h2⟩
  | .ar _ _, _, _, ⟨e, h⟩ => ⟨e, EncL.ok (fun _ _ hh => Enc.ok hh) h⟩
  | .mp _ _, _, _, h => by
    rcases h with ⟨_, rfl⟩ | ⟨_, _, _, _, _, _, h2⟩
    · intro x hx; simp at hx
    · exact All2.left_of (fun x e ⟨⟨_, h1, _⟩, _, h2, _⟩ => ⟨Enc.ok h1, Enc.ok h2⟩) h2
  | .tr, _, _, _ => trivial
theorem EncL.append {α : Type} {E : α → List Value → Prop} : ∀ {l m : List α} {xs ys : List Value}, EncL E l xs → EncL E m ys → EncL E (l ++ m) (xs ++ ys)
  | [], _, _, _, h, h' => by unfold EncL at h; subst h; simpa using h'
  | _ :: _, _, _, _, ⟨c, r, e, h1, h2⟩, h' => ⟨c, r ++ _, by rw [e, List.append_assoc], h1, EncL.append h2 h'⟩
theorem EncL.single {α : Type} {E : α → List Value → Prop} {x : α} {c : List Value} (h : E x c) : EncL E [x] c := ⟨c, [], by simp, h, rfl⟩
theorem EncL.drop {α : Type} {E : α → List Value → Prop} {n : Nat} (H : ∀ x c, E x c → c.length = n) : ∀ {l : List α} {xs : List Value} (i : Nat), EncL E l xs → EncL E (l.drop i) (xs.drop (i * n))
  | _, _, 0, h => by simpa using h
  | [], _, i + 1, h => by unfold EncL at h; subst h; simp [EncL]
  | _ :: l, _, i + 1, ⟨c, r, e, h1, h2⟩ => by
    have hc := H _ _ h1
    have := EncL.drop H i h2
    rw [e, List.drop_succ_cons, show (i + 1) * n = c.length + i * n from by rw [hc, Nat.add_mul]; omega, List.drop_append, List.drop_of_length_le (show c.length ≤ c.length + i * n by omega), List.nil_append, Nat.add_sub_cancel_left]
    exact this
theorem EncL.take {α : Type} {E : α → List Value → Prop} {n : Nat} (H : ∀ x c, E x c → c.length = n) : ∀ {l : List α} {xs : List Value} (i : Nat), EncL E l xs → EncL E (l.take i) (xs.take (i * n))
  | _, _, 0, _ => by simp [EncL]
  | [], _, i + 1, h => by unfold EncL at h; subst h; simp [EncL]
  | _ :: l, _, i + 1, ⟨c, r, e, h1, h2⟩ => by
    have hc := H _ _ h1
    refine ⟨c, r.take (i * n), ?_, h1, EncL.take H i h2⟩
    rw [e, show (i + 1) * n = c.length + i * n from by rw [hc, Nat.add_mul]; omega, List.take_append]
    congr 1
    · exact List.take_of_length_le (by omega)
    · congr 1; omega
theorem EncL.get {α : Type} {E : α → List Value → Prop} {n : Nat} (H : ∀ x c, E x c → c.length = n) : ∀ {l : List α} {xs : List Value} (i : Nat) (x : α), EncL E l xs → l[i]? = some x →
    ∃ c, E x c ∧ ∀ j u, c[j]? = some u → xs[i * n + j]? = some u := by
  intro l xs i x h hx
  have hd := EncL.drop H i h
  have hl : i < l.length := (List.getElem?_eq_some_iff.1 hx).1
  rw [List.drop_eq_getElem_cons hl] at hd
  obtain ⟨c, r, e, h1, _⟩ := hd
  rw [(List.getElem?_eq_some_iff.1 hx).2] at h1
  refine ⟨c, h1, fun j u hj => ?_⟩
  rw [← List.getElem?_drop, e, List.getElem?_append_left (List.getElem?_eq_some_iff.1 hj).1]
  exact hj
theorem EncL.set {α : Type} {E : α → List Value → Prop} {n : Nat} (H : ∀ x c, E x c → c.length = n) : ∀ {l : List α} {xs : List Value} (i : Nat) (x : α) (c : List Value), EncL E l xs → E x c → i < l.length →
    EncL E (l.set i x) (xs.take (i * n) ++ c ++ xs.drop (i * n + c.length))
  | [], _, _, _, _, _, _, hi => by simp at hi
  | y :: l, _, 0, x, c, ⟨c0, r, e, h1, h2⟩, hc, _ => by
    refine ⟨c, r, ?_, hc, h2⟩
    have h0 := H _ _ h1
    have h3 := H _ _ hc
    rw [e]
    simp [h3, ← h0]
  | y :: l, _, i + 1, x, c, ⟨c0, r, e, h1, h2⟩, hc, hi => by
    have h0 := H _ _ h1
    have ih := EncL.set H i x c h2 hc (by simpa using hi)
    refine ⟨c0, _, ?_, h1, ih⟩
    rw [e, show (i + 1) * n = c0.length + i * n from by rw [h0, Nat.add_mul]; omega]
    rw [List.take_append, Nat.add_assoc, List.drop_append, List.take_of_length_le (by omega), List.drop_of_length_le (by omega)]
    simp [List.append_assoc]
theorem EncL.replicate {α : Type} {E : α → List Value → Prop} {x : α} {c : List Value} (h : E x c) : ∀ n : Nat, EncL E (List.replicate n x) (List.replicate n c).flatten
  | 0 => by simp [EncL]
  | n + 1 => by
    rw [List.replicate_succ, List.replicate_succ, List.flatten_cons]
    exact ⟨c, _, rfl, h, EncL.replicate h n⟩
end
abbrev Dat := (t : Ty) × t.T
inductive Cap where
  | pt (r off : Nat)
  | ad (d : Dat)
  | no
inductive Cl where
  | p (t : Ty) (x : t.T)
  | own (r : Nat)
  | vw (r lo n sz : Nat)
  | ptr (r off : Nat)
  | el (r i sz : Nat)
  | elf (r i sz off : Nat)
  | elv (r i sz off n : Nat)
  | ep (r q off : Nat)
  | yv (r : Nat)
  | ad (t : Ty) (x : t.T)
  | nils
  | nilm
  | fn (f : FuncId) (caps : List Dat)
  | cl (f : FuncId) (caps : List Cap)
  | any
inductive V1 where
  | c (x : Cl)
  | agg (cs : List Cl)
inductive AV where
  | v (x : V1)
  | tup (xs : List V1)
inductive Con where
  | box (cs : List Cl)
  | arr (e : TypeId) (t : Ty) (l : List t.T)
  | vec (n : Nat) (t : Ty) (l : List t.T)
  | dict (k v : Ty) (l : List (k.T × v.T))
  | deep (e E : TypeId) (t : Ty) (l : List t.T) (fs : List (Nat × Nat × List Cl))
  | lost
  | lp (x0 : Go.Loop) (k : Int) (sl : List (Nat × AV))
  | mit (x : Cl) (n : Nat) (seen : List Nat)
def jumpOf (k : Int) : Option Code := if k = 0 then none else if k = 1 then some .ret else some (.exit (k - 2).toNat)
def recAt (x0 : Go.Loop) (k : Int) : Go.Loop := { x0 with state := if k = 0 then .ready else .done, pending := jumpOf k }
abbrev Path := List (Nat × Bool)
structure St where
  n : Nat
  sl : List (Nat × Path × AV)
  hp : List (Nat × Path × Con)
structure Ghost where
  S : Nat → Prop
  col : Nat → Option Nat
  rho : Nat → Value
def AdRep (w : World) (S : Nat → Prop) (t : Ty) (x : t.T) (v : Value) : Prop :=
  ∃ b off cells e fz cs, v = .pointer (some ⟨b, off, none⟩) ∧ S b ∧ w.heap[b]? = some (.cells cells e fz) ∧ Enc w S t x cs ∧ ∀ j u, cs[j]? = some u → cells[off + j]? = some u
def CapRep (w : World) (G : Ghost) : Cap → Value → Prop
  | .pt r off, u => ∃ b, G.rho r = .pointer (some ⟨b, 0, none⟩) ∧ u = .pointer (some ⟨b, off, none⟩)
  | .ad d, u => AdRep w G.S d.1 d.2 u
  | .no, u => u = .pointer none
def ClRep (w : World) (G : Ghost) : Cl → Value → Prop
  | .p t x, v => Enc w G.S t x [v]
  | .own r, v => v = G.rho r ∧ ((∃ a n c, v = .slice a n c) ∨ ∃ g, v = .map (some g))
  | .vw r lo n sz, v => ∃ a len cap c a', G.rho r = .slice a len cap ∧ lo + n ≤ len ∧ n ≤ c ∧ lo + c = cap ∧ v = .slice a' n c ∧ ((c = 0 ∧ lo ≠ 0) ∨ a' = a.map (·.add (lo * sz))) ∧ (cap = 0 ∨ ∃ g, a = some ⟨g, 0, none⟩)
  | .ptr r off, v => ∃ b, G.rho r = .pointer (some ⟨b, 0, none⟩) ∧ v = .pointer (some ⟨b, off, none⟩)
  | .el r i sz, v => ∃ g n c, G.rho r = .slice (some ⟨g, 0, none⟩) n c ∧ i < n ∧ v = .pointer (some ⟨g, i * sz, none⟩)
  | .elf r i sz off, v => ∃ g n c, G.rho r = .slice (some ⟨g, 0, none⟩) n c ∧ i < n ∧ v = .pointer (some ⟨g, i * sz + off, none⟩)
  | .elv r i sz off n, v => ∃ g, G.rho r = .pointer (some ⟨g, 0, none⟩) ∧ i < n ∧ v = .pointer (some ⟨g, i * sz + off, none⟩)
  | .yv r, v => v = G.rho r ∧ ∃ l, v = .func (.yield l) #[] #[]
  | .ep _ q off, v => ∃ g o, G.rho q = .pointer (some ⟨g, o, none⟩) ∧ v = .pointer (some ⟨g, o + off, none⟩)
  | .ad t x, v => AdRep w G.S t x v
  | .nils, v => v = .slice none 0 0
  | .nilm, v => v = .map none
  | .fn f caps, v => ∃ vs : List Value, v = .func (.func f) #[] vs.toArray ∧ All2 (fun (d : Dat) u => AdRep w G.S d.1 d.2 u) caps vs
  | .cl f caps, v => ∃ vs : List Value, v = .func (.func f) #[] vs.toArray ∧ All2 (CapRep w G) caps vs
  | .any, _ => True
def V1Rep (w : World) (G : Ghost) : V1 → Value → Prop
  | .c x, v => ClRep w G x v
  | .agg cs, v => ∃ vs : List Value, v = .agg vs.toArray ∧ All2 (ClRep w G) cs vs
def AVRep (w : World) (G : Ghost) : AV → Value → Prop
  | .v x, v => V1Rep w G x v
  | .tup xs, v => ∃ vs : List Value, v = .tuple vs.toArray ∧ All2 (V1Rep w G) xs vs
def DEnc (w : World) (S : Nat → Prop) (E : TypeId) : (t : Ty) → t.T → List Value → List Nat → Prop
  | .pr a b, x, cs, B => ∃ c1 c2 B1 B2, cs = c1 ++ c2 ∧ B = B1 ++ B2 ∧ DEnc w S E a x.1 c1 B1 ∧ DEnc w S E b x.2 c2 B2
  | .sl u, l, cs, B => ∃ v xs, cs = [v] ∧ EncL (Enc w S u) l xs ∧ w.ownsRow 0 E u.size v l.length xs ∧ l.length ≤ maxLen ∧ B = v.ownBlock.toList
  | .mp k v, l, cs, B => ∃ g es ck, cs = [.map (some g)] ∧ B = [g] ∧ w.heap[g]? = some (.map es ck) ∧ All2 (EntRep k v (Enc w S k) (Enc w S v)) l es.toList ∧ ck = es.size ∧ ∀ (i : Nat) (e : MapEntry), es[i]? = some e → e.born = i
  | .int k, x, cs, B => Enc w S (.int k) x cs ∧ B = []
  | .bool, x, cs, B => Enc w S .bool x cs ∧ B = []
  | .ar n u, x, cs, B => Enc w S (.ar n u) x cs ∧ B = []
  | .tr, x, cs, B => Enc w S .tr x cs ∧ B = []
structure DRow (w : World) (S : Nat → Prop) (E : TypeId) (t : Ty) (l : List t.T) (F : List Nat) (xss : List (List Value)) (Bs : List (List Nat)) : Prop where
  len : xss.length = l.length
  blen : Bs.length = l.length
  width : ∀ cs ∈ xss, cs.length = t.size
  el : ∀ i x, l[i]? = some x → i ∉ F → ∃ cs B, xss[i]? = some cs ∧ Bs[i]? = some B ∧ DEnc w S E t x cs B
  foc : ∀ i ∈ F, Bs[i]? = some []
  nodup : Bs.flatten.Nodup
def ConRep (w : World) (G : Ghost) (r : Nat) : Con → Prop
  | .box cs => ∃ b vs e, G.rho r = .pointer (some ⟨b, 0, none⟩) ∧ G.col b = some r ∧ w.heap[b]? = some (.cells vs e (0, 0)) ∧ All2 (ClRep w G) cs vs.toList
  | .arr e t l => ∃ xs, EncL (Enc w G.S t) l xs ∧ w.ownsRow 0 e t.size (G.rho r) l.length xs ∧ l.length ≤ maxLen ∧ ∀ g, (G.rho r).ownBlock = some g → G.col g = some r
  | .vec n t l => ∃ b vs e, G.rho r = .pointer (some ⟨b, 0, none⟩) ∧ G.col b = some r ∧ w.heap[b]? = some (.cells vs e (0, 0)) ∧ EncL (Enc w G.S t) l vs.toList ∧ l.length = n
  | .dict k v l => ∃ g es ck, G.rho r = .map (some g) ∧ G.col g = some r ∧ w.heap[g]? = some (.map es ck) ∧ All2 (EntRep k v (Enc w G.S k) (Enc w G.S v)) l es.toList ∧ ck = es.size ∧ ∀ (i : Nat) (e : MapEntry), es[i]? = some e → e.born = i
  | .deep e E t l fs => ∃ xss Bs, w.ownsRow 0 e t.size (G.rho r) l.length xss.flatten ∧ l.length ≤ maxLen ∧ (∀ g, (G.rho r).ownBlock = some g → G.col g = some r) ∧
      DRow w G.S E t l (fs.map fun f => f.2.1) xss Bs ∧ (fs.map fun f => f.2.1).Nodup ∧ (∀ b ∈ Bs.flatten, G.col b = some r ∧ (G.rho r).ownBlock ≠ some b ∧ b < w.heap.size) ∧
      ∀ f ∈ fs, ∃ g cs, (G.rho r).ownBlock = some g ∧ G.rho f.1 = .pointer (some ⟨g, f.2.1 * t.size, none⟩) ∧ xss[f.2.1]? = some cs ∧ All2 (ClRep w G) f.2.2 cs
  | .lost => True
  | .mit x n seen => ∃ b g, G.rho r = .pointer (some ⟨b, 0, none⟩) ∧ G.col b = some r ∧ w.heap[b]? = some (.mapIter (some g) n seen.toArray n) ∧ ClRep w G x (.map (some g))
  | .lp x0 k sl => ∃ l, G.rho r = .func (.yield l) #[] #[] ∧ G.col l = some r ∧ w.heap[l]? = some (.loop (recAt x0 k)) ∧ ∀ e ∈ sl, AVRep w G e.2 (x0.tmps.getD e.1 undef)
def Holds (a : Act) (p : Path) : Prop := ∀ x ∈ p, a.tmps.getD x.1 undef = .bool x.2
structure Base where
  S : Nat → Prop
  F : Nat → Prop
  outer : Nat → Value := fun _ => undef
def slotV (S0 : Base) (a : Act) (i : Nat) : Value := if i < a.tmps.size then a.tmps.getD i undef else S0.outer i
theorem slotV_in {S0 : Base} {a : Act} {i : Nat} (h : i < a.tmps.size) : slotV S0 a i = a.tmps.getD i undef := if_pos h
def Ins (_ _ : Nat) : Prop := True
structure Fr (X : Nat → Prop) (B : Nat) (w w' : World) : Prop where
  drawn : w.drawn ≤ w'.drawn
  os : w'.os = w.os
  tape : w'.tape = w.tape
  output : w'.output = w.output
  size : w.heap.size ≤ w'.heap.size
  block : ∀ k, k < B → ¬ X k → w'.heap[k]? = w.heap[k]?
structure Bel (B : Nat) (w w' : World) : Prop where
  below : Below B w w'
  drawn : w.drawn ≤ w'.drawn
theorem Bel.size {B : Nat} {a b : World} (h : Bel B a b) : a.heap.size ≤ b.heap.size := h.below.size
theorem Bel.block {B : Nat} {a b : World} (h : Bel B a b) (k : Nat) (hk : k < B) : b.heap[k]? = a.heap[k]? := h.below.block k hk
theorem Bel.mono {B B' : Nat} {a b : World} (h : Bel B a b) (hB : B' ≤ B) : Bel B' a b := ⟨h.below.mono hB, h.drawn⟩
theorem Bel.refl (B : Nat) (w : World) : Bel B w w := ⟨Below.refl B w, Nat.le_refl _⟩
theorem Fr.refl (X : Nat → Prop) (B : Nat) (w : World) : Fr X B w w := ⟨Nat.le_refl _, rfl, rfl, rfl, Nat.le_refl _, fun _ _ _ => rfl⟩
theorem Fr.trans {X : Nat → Prop} {B : Nat} {a b c : World} (h : Fr X B a b) (k : Fr X B b c) : Fr X B a c :=
  ⟨Nat.le_trans h.drawn k.drawn, k.os.trans h.os, k.tape.trans h.tape, k.output.trans h.output, Nat.le_trans h.size k.size, fun i hi hx => (k.block i hi hx).trans (h.block i hi hx)⟩
theorem Fr.mono {X X' : Nat → Prop} {B B' : Nat} {a b : World} (h : Fr X B a b) (hB : B' ≤ B) (hX : ∀ k, k < B' → X k → X' k) : Fr X' B' a b :=
  ⟨h.drawn, h.os, h.tape, h.output, h.size, fun i hi hx => h.block i (Nat.lt_of_lt_of_le hi hB) (fun hh => hx (hX i hi hh))⟩
theorem Fr.below {X : Nat → Prop} {B : Nat} {a b : World} (h : Fr X B a b) (hX : ∀ k, k < B → ¬ X k) : Bel B a b :=
  ⟨⟨h.os, h.tape, h.output, h.size, fun i hi => h.block i hi (hX i hi)⟩, h.drawn⟩
theorem Fr.of_below {X : Nat → Prop} {B : Nat} {a b : World} (h : Bel B a b) : Fr X B a b :=
  ⟨h.drawn, h.below.os, h.below.tape, h.below.output, h.below.size, fun i hi _ => h.below.block i hi⟩
def DfOk (w0 w : World) (S : Nat → Prop) (a : Act) : Prop := ∃ rs : List Nat, a.defers = rs.map mark ∧ rs.Nodup ∧ ∀ r ∈ rs, S r ∧ w0.heap.size ≤ r ∧ w.heap[r]? = some (.deferred (some []))
theorem DfOk.keep {w0 w w' : World} {S S' : Nat → Prop} {a a' : Act} (h : DfOk w0 w S a) (H : ∀ b, S b → S' b ∧ w'.heap[b]? = w.heap[b]?) (hd : a'.defers = a.defers) : DfOk w0 w' S' a' := by
  obtain ⟨rs, h1, h2, h3⟩ := h
  exact ⟨rs, hd.trans h1, h2, fun r hr => ⟨(H r (h3 r hr).1).1, (h3 r hr).2.1, (H r (h3 r hr).1).2.trans (h3 r hr).2.2⟩⟩
theorem DfOk.none (w0 w : World) (S : Nat → Prop) {a : Act} (h : a.defers = []) : DfOk w0 w S a := ⟨[], h, List.nodup_nil, fun r hr => by simp at hr⟩
structure SR (w0 : World) (S0 : Base) (G : Ghost) (st : St) (a : Act) (w : World) : Prop where
  below : Fr S0.F w0.heap.size w0 w
  sub : ∀ b, G.S b → b < w.heap.size ∧ (S0.S b ∨ w0.heap.size ≤ b ∨ S0.F b)
  colr : ∀ b r, G.col b = some r → (S0.F b ∨ w0.heap.size ≤ b) ∧ b < w.heap.size ∧ ¬ G.S b
  df : DfOk w0 w G.S a
  size : a.tmps.size = st.n
  sl : ∀ e ∈ st.sl, Ins st.n e.1 ∧ (Holds a e.2.1 → AVRep w G e.2.2 (slotV S0 a e.1)) ∧ (¬ Holds a e.2.1 → slotV S0 a e.1 = undef)
  hp : ∀ e ∈ st.hp, Holds a e.2.1 → ConRep w G e.1 e.2.2
end Dec
