/-
Ranges over functions: a loop's body under contract, a call of yield, and the statement. Ranges over functions: the contract of a loop's body out of its demand. The statement: a range over a function, its iterator walked in place.
-/
import Derived.Test.YtljlpmfmfcljaaaDecAb
import Derived.RangeFuncIn
set_option linter.unusedSimpArgs false
set_option linter.unusedVariables false
namespace Dec
open Go Go.RowKit
variable {M : Md → Prop}
end Dec
namespace Dec
open Go Go.RowKit
variable {M : Md → Prop}
section
variable {P : Program} {w0 w : World} {S0 : Base} {G : Ghost} {st : St} {a : Act}
theorem SR.putObj (h : SR w0 S0 G st a w) {l : Nat} {o : Obj} (h0 : w0.heap.size ≤ l ∨ S0.F l) (hS : ¬ G.S l) (hc : ∀ e ∈ st.hp, G.col l ≠ some e.1) : SR w0 S0 G st a (w.putObj l o) := by
  have hk : ∀ b, G.S b → G.S b ∧ (w.putObj l o).heap[b]? = w.heap[b]? := fun b hb => ⟨hb, World.putObj_heap_other (fun e => by subst e; exact hS hb)⟩
  refine ⟨h.below.trans ⟨Nat.le_refl _, rfl, rfl, rfl, by rw [World.putObj_size]; exact Nat.le_refl _, fun k hk hF => World.putObj_heap_other fun e => ?_⟩, fun b hb => by rw [World.putObj_size]; exact h.sub b hb, fun b r hb => by rw [World.putObj_size]; exact h.colr b r hb, h.df.keep hk rfl, h.size, fun e he => ?_, fun e he hh => ?_⟩
  · subst e
    rcases h0 with h0 | h0
    · omega
    · exact hF h0
  · obtain ⟨k1, k2, k3⟩ := h.sl e he
    exact ⟨k1, fun hh => AVRep.keep hk (fun _ _ => rfl) (k2 hh), k3⟩
  · exact ConRep.keep hk rfl (fun _ _ => rfl) (fun b hb => ⟨hb, World.putObj_heap_other (fun e' => by subst e'; exact hc e he hb)⟩) (h.hp e he hh)
end
end Dec
namespace Dec
open Go Go.RowKit
variable {M : Md → Prop}
end Dec
