/-
  Is a slice nil? (What is asked of an address: its answer is left open, but for this: a nil slice is empty.)
-/
import Derived.Test.YtfpchbpnoggogaaDecS
import Derived.Laws.Cover3
set_option linter.unusedSimpArgs false
set_option linter.unusedVariables false
namespace Dec
open Go Go.RowKit
variable {M : Md → Prop}
section
variable {P : Program} {st : St} {ops : Array Oper} {Q : XE → St → Prop}
theorem nil_rep {w : World} {S : Nat → Prop} {u : Ty} {l : List u.T} {v : Value} (h : Enc w S (.sl u) l [v]) : ∃ a n c, v = .slice a n c ∧ (a.isNone = true → l = []) := by
 obtain ⟨a, c, e, _, _, hr⟩ := h
 injection e with e _
 refine ⟨a, _, c, e, fun ha => ?_⟩
 rcases hr with rfl | ⟨b, off, cells, ty, fz, xs, rfl, _⟩
 ·rfl
 ·simp at ha
theorem elemOf_underlying {t e : TypeId} (h : elemOf P t = some e) : P.underlying t = some (.slice e) := by
 unfold elemOf at h
 split at h
 ·rename_i e' he; injection h with h; subst h; exact he
 ·cases h
theorem awl_nil_eql {o : Oper} {rest : List Oper} {d : Nat} {t t' : TypeId} {x : Operand} {u : Ty} {l : List u.T} {e : TypeId} (sl hp : List Nat) (S : Bool → St) (hg : o.guard = none) (hd : o.dst = some d) (hdn : decide (d < st.n) = true)
  (ho : o.op = .binOp .eql t x (.const (.slice none 0 0)) t') (hu : elemOf P t = some e) (hx : st.val [] x = some (.v (.c (.p (.sl u) l)))) (hS : ∀ b, (st.put d [] (.v (.c (.p .bool b)))).keep sl hp = S b)
  (h : ∀ b : Bool, (b = true → l = []) → AWL M P ops rest Q (S b)) : AWL M P ops (o :: rest) Q st := by
 intro m w0 S0 G a w hs
 have hx' : Enc w G.S (.sl u) l [a.eval x] := hs.val_ holds_nil hx
 obtain ⟨ad, n, c, hv, hnil⟩ := nil_rep hx'
 have hnn : a.eval (.const (.slice none 0 0)) = .slice none 0 0 := rfl
 refine wpl_val (.bool ad.isNone) hg hd ?_ ?_
 ·unfold execOp
  simp only [ho, hv, hnn]
  simp [eqGuard, binOp, Sem.run_bind, run_equal_slice_nil w t e ad n c (elemOf_underlying hu)]
 ·have hdn' : d < st.n := by simpa using hdn
  have h1 := hs.put (i := d) (p := []) (x := .v (.c (.p .bool ad.isNone))) (v := .bool ad.isNone) hdn' rfl (fun _ => rfl) (fun hn => absurd holds_nil hn)
  have h2 : AWL M P ops rest Q (st.put d [] (.v (.c (.p .bool ad.isNone)))) := awl_conv [.prune sl hp] rfl (by have := h _ hnil; rw [← hS] at this; exact this)
  exact h2 _ _ _ _ _ _ h1
end
end Dec
