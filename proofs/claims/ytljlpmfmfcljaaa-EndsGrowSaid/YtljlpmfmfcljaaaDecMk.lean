/-
What the marks of loops over functions hold is no datum: it may be shut when the function ends.
-/
import Derived.Test.YtljlpmfmfcljaaaDecC
set_option linter.unusedSimpArgs false
set_option linter.unusedVariables false
namespace Dec
open Go Go.RowKit
def Ghost.less (G : Ghost) (N : Nat → Prop) : Ghost := { G with S := fun b => G.S b ∧ ¬ N b }
section
variable {w : World} {S N : Nat → Prop} {G : Ghost}
theorem not_N (hN : ∀ b, N b → ∃ ds, w.heap[b]? = some (.deferred ds)) {b : Nat} {o : Obj} (h : w.heap[b]? = some o) (ho : ∀ ds, o ≠ .deferred ds) : ¬ N b := fun hb => by
  obtain ⟨ds, hd⟩ := hN b hb
  rw [hd] at h
  injection h with h
  exact ho ds h.symm
theorem SlE.less (hN : ∀ b, N b → ∃ ds, w.heap[b]? = some (.deferred ds)) {α : Type} {E E' : α → List Value → Prop} (hE : ∀ x c, E x c → E' x c) {l : List α} {v : Value} (h : SlE w S E l v) : SlE w (fun b => S b ∧ ¬ N b) E' l v := by
  obtain ⟨a, c, e, hc, hm, hr⟩ := h
  exact ⟨a, c, e, hc, hm, hr.imp id fun ⟨b, off, cells, ty, fz, xs, ea, hS, hb, hx, hj⟩ => ⟨b, off, cells, ty, fz, xs, ea, ⟨hS, not_N hN hb (fun _ e => by cases e)⟩, hb, EncL.imp hE hx, hj⟩⟩
theorem EncT.less (hN : ∀ b, N b → ∃ ds, w.heap[b]? = some (.deferred ds)) : ∀ {n : Nat} {x : Tree} {cs : List Value}, EncT w S n x cs → EncT w (fun b => S b ∧ ¬ N b) n x cs
  | 0, _, _, h => h.elim
  | n + 1, _, _, ⟨v1, v2, e, h0, h1, h2⟩ => ⟨v1, v2, e, h0, h1.less hN fun _ _ hh => EncT.less hN hh, h2.less hN fun _ _ hh => hh⟩
theorem Enc.less (hN : ∀ b, N b → ∃ ds, w.heap[b]? = some (.deferred ds)) : ∀ {t : Ty} {x : t.T} {cs : List Value}, Enc w S t x cs → Enc w (fun b => S b ∧ ¬ N b) t x cs
  | .int _, _, _, h => h
  | .bool, _, _, h => h
  | .sl t, l, cs, ⟨a, c, e, hc, hm, hr⟩ => ⟨a, c, e, hc, hm, hr.imp id fun ⟨b, off, cells, ty, fz, xs, ea, hS, hb, hx, hj⟩ =>
      ⟨b, off, cells, ty, fz, xs, ea, ⟨hS, not_N hN hb (fun _ e => by cases e)⟩, hb, EncL.imp (fun _ _ hh => Enc.less hN hh) hx, hj⟩⟩
  | .pr _ _, _, _, ⟨c1, c2, e, h1, h2⟩ => ⟨c1, c2, e, Enc.less hN h1, Enc.less hN h2⟩
  | .ar _ _, _, _, ⟨e, h⟩ => ⟨e, EncL.imp (fun _ _ hh => Enc.less hN hh) h⟩
  | .mp k v, l, cs, h => h.imp id fun ⟨g, es, ck, e, hS, hb, h2⟩ => ⟨g, es, ck, e, ⟨hS, not_N hN hb (fun _ e => by cases e)⟩, hb,
      All2.imp (fun _ _ _ ⟨⟨c1, a1, a2⟩, c2, b1, b2⟩ => ⟨⟨c1, Enc.less hN a1, a2⟩, c2, Enc.less hN b1, b2⟩) h2⟩
  | .tr, _, _, ⟨n, h⟩ => ⟨n, h.less hN⟩
theorem AdRep.less (hN : ∀ b, N b → ∃ ds, w.heap[b]? = some (.deferred ds)) {t : Ty} {x : t.T} {v : Value} (h : AdRep w S t x v) : AdRep w (fun b => S b ∧ ¬ N b) t x v := by
  obtain ⟨b, off, cells, e, fz, cs, h1, h2, h3, h4, h5⟩ := h
  exact ⟨b, off, cells, e, fz, cs, h1, ⟨h2, not_N hN h3 (fun _ e => by cases e)⟩, h3, h4.less hN, h5⟩
theorem CapRep.less (hN : ∀ b, N b → ∃ ds, w.heap[b]? = some (.deferred ds)) : ∀ {c : Cap} {v : Value}, CapRep w G c v → CapRep w (G.less N) c v
  | .pt _ _, _, h => h
  | .ad _, _, h => AdRep.less (S := G.S) hN h
  | .no, _, h => h
theorem ClRep.less (hN : ∀ b, N b → ∃ ds, w.heap[b]? = some (.deferred ds)) {x : Cl} {v : Value} (h : ClRep w G x v) : ClRep w (G.less N) x v := by
  cases x with
  | p t x => exact Enc.less (S := G.S) hN h
  | ad t x => exact AdRep.less (S := G.S) hN h
  | fn f caps =>
    obtain ⟨vs, e, h2⟩ := h
    exact ⟨vs, e, All2.imp (fun d _ u hu => AdRep.less (S := G.S) hN hu) h2⟩
  | cl f caps =>
    obtain ⟨vs, e, h2⟩ := h
    exact ⟨vs, e, All2.imp (fun d _ u hu => CapRep.less hN hu) h2⟩
  | _ => exact h
theorem V1Rep.less (hN : ∀ b, N b → ∃ ds, w.heap[b]? = some (.deferred ds)) : ∀ {x : V1} {v : Value}, V1Rep w G x v → V1Rep w (G.less N) x v
  | .c _, _, h => ClRep.less hN h
  | .agg _, _, ⟨vs, e, h⟩ => ⟨vs, e, All2.imp (fun _ _ _ hh => ClRep.less hN hh) h⟩
theorem AVRep.less (hN : ∀ b, N b → ∃ ds, w.heap[b]? = some (.deferred ds)) : ∀ {x : AV} {v : Value}, AVRep w G x v → AVRep w (G.less N) x v
  | .v _, _, h => V1Rep.less hN h
  | .tup _, _, ⟨vs, e, h⟩ => ⟨vs, e, All2.imp (fun _ _ _ hh => V1Rep.less hN hh) h⟩
theorem DEnc.less (hN : ∀ b, N b → ∃ ds, w.heap[b]? = some (.deferred ds)) {E : TypeId} : ∀ {t : Ty} {x : t.T} {cs : List Value} {B : List Nat}, DEnc w S E t x cs B → DEnc w (fun b => S b ∧ ¬ N b) E t x cs B
  | .int _, _, _, _, h => ⟨Enc.less hN h.1, h.2⟩
  | .bool, _, _, _, h => ⟨Enc.less hN h.1, h.2⟩
  | .ar _ _, _, _, _, h => ⟨Enc.less hN h.1, h.2⟩
  | .tr, _, _, _, h => ⟨Enc.less hN h.1, h.2⟩
  | .pr a b, _, _, _, ⟨c1, c2, B1, B2, e1, e2, h1, h2⟩ => ⟨c1, c2, B1, B2, e1, e2, DEnc.less hN h1, DEnc.less hN h2⟩
  | .sl u, _, _, _, ⟨v, xs, e1, h1, h2, h3, e2⟩ => ⟨v, xs, e1, EncL.imp (fun _ _ hh => Enc.less hN hh) h1, h2, h3, e2⟩
  | .mp k v, _, _, _, ⟨g, es, ck, e1, e2, h1, h2, h3⟩ => ⟨g, es, ck, e1, e2, h1, All2.imp (fun _ _ _ ⟨⟨c1, a1, a2⟩, c2, b1, b2⟩ => ⟨⟨c1, Enc.less hN a1, a2⟩, c2, Enc.less hN b1, b2⟩) h2, h3⟩
theorem ConRep.less (hN : ∀ b, N b → ∃ ds, w.heap[b]? = some (.deferred ds)) {r : Nat} {c : Con} (h : ConRep w G r c) : ConRep w (G.less N) r c := by
  cases c with
  | box cs =>
    obtain ⟨b, vs, e, hr, hc, hb, h2⟩ := h
    exact ⟨b, vs, e, hr, hc, hb, All2.imp (fun _ _ _ hh => ClRep.less hN hh) h2⟩
  | arr e t l =>
    obtain ⟨xs, h1, h2⟩ := h
    exact ⟨xs, EncL.imp (fun _ _ hh => Enc.less hN hh) h1, h2⟩
  | vec n t l =>
    obtain ⟨b, vs, e, hr, hc, hb, h1, h2⟩ := h
    exact ⟨b, vs, e, hr, hc, hb, EncL.imp (fun _ _ hh => Enc.less hN hh) h1, h2⟩
  | dict k v l =>
    obtain ⟨b, es, ck, hr, hc, hb, h2⟩ := h
    exact ⟨b, es, ck, hr, hc, hb, All2.imp (fun _ _ _ ⟨⟨c1, a1, a2⟩, c2, b1, b2⟩ => ⟨⟨c1, Enc.less hN a1, a2⟩, c2, Enc.less hN b1, b2⟩) h2.1, h2.2⟩
  | mit x n seen =>
    obtain ⟨b, g, h1, h2, h3, h4⟩ := h
    exact ⟨b, g, h1, h2, h3, ClRep.less hN h4⟩
  | lost => trivial
  | lp x0 k sl =>
    obtain ⟨l, h1, h2, h3, h4⟩ := h
    exact ⟨l, h1, h2, h3, fun e he => AVRep.less hN (h4 e he)⟩
  | deep e E t l fs =>
    obtain ⟨xss, Bs, h1, h2, h3, h4, h5, h6, h7⟩ := h
    refine ⟨xss, Bs, h1, h2, h3, ⟨h4.len, h4.blen, h4.width, fun i x hx hF => ?_, h4.foc, h4.nodup⟩, h5, h6, fun f hf => ?_⟩
    · obtain ⟨cs, B, k1, k2, k3⟩ := h4.el i x hx hF
      exact ⟨cs, B, k1, k2, k3.less hN⟩
    · obtain ⟨g, cs, k1, k2, k3, k4⟩ := h7 f hf
      exact ⟨g, cs, k1, k2, k3, All2.imp (fun _ _ _ hh => ClRep.less hN hh) k4⟩
end
theorem shut_keep {w : World} {S : Nat → Prop} {rs : List Nat} : ∀ b, (S b ∧ ¬ b ∈ rs) → (S b ∧ ¬ b ∈ rs) ∧ (shutAll rs w).heap[b]? = w.heap[b]? := fun b hb => ⟨hb, shutAll_other hb.2⟩
theorem Fr.shut {X : Nat → Prop} {w0 w : World} {rs : List Nat} (h : Fr X w0.heap.size w0 w) (hr : ∀ r ∈ rs, w0.heap.size ≤ r) : Fr X w0.heap.size w0 (shutAll rs w) := by
  obtain ⟨h1, h2, h3, h4⟩ := shutAll_rest rs w
  refine h.trans ⟨by rw [h1]; exact Nat.le_refl _, h2, h3, h4, by rw [shutAll_size]; exact Nat.le_refl _, fun k hk _ => shutAll_other fun hh => ?_⟩
  have := hr k hh
  omega
end Dec
