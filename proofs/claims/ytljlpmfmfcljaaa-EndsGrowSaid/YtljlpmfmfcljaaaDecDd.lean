/-
Deep rows: made, appended to, frozen; nil ones.
-/
import Derived.Test.YtljlpmfmfcljaaaDecDc
set_option linter.unusedSimpArgs false
set_option linter.unusedVariables false
namespace Dec
open Go Go.RowKit
section
variable {M : Md → Prop} {P : Program} {w0 w : World} {S0 : Base} {G : Ghost} {st st' : St} {a : Act} {ops : Array Oper} {Q : XE → St → Prop} {D : List Nat} {C : List (Nat × Nat)}
theorem DRow.append {S : Nat → Prop} {E : TypeId} {t : Ty} {l m : List t.T} {xs ys : List (List Value)} {A B : List (List Nat)} (h : DRow w S E t l [] xs A) (k : DRow w S E t m [] ys B) (hd : ∀ b ∈ A.flatten, b ∉ B.flatten) : DRow w S E t (l ++ m) [] (xs ++ ys) (A ++ B) where
  len := by rw [List.length_append, List.length_append, h.len, k.len]
  blen := by rw [List.length_append, List.length_append, h.blen, k.blen]
  width := fun c hc => (List.mem_append.1 hc).elim (h.width c) (k.width c)
  el := fun i x hx _ => by
    by_cases hi : i < l.length
    · rw [List.getElem?_append_left hi] at hx
      obtain ⟨c, B', h1, h2, h3⟩ := h.el i x hx (by simp)
      exact ⟨c, B', by rw [List.getElem?_append_left (by rw [h.len]; exact hi)]; exact h1, by rw [List.getElem?_append_left (by rw [h.blen]; exact hi)]; exact h2, h3⟩
    · rw [List.getElem?_append_right (by omega)] at hx
      obtain ⟨c, B', h1, h2, h3⟩ := k.el _ x hx (by simp)
      exact ⟨c, B', by rw [List.getElem?_append_right (by rw [h.len]; omega), h.len]; exact h1, by rw [List.getElem?_append_right (by rw [h.blen]; omega), h.blen]; exact h2, h3⟩
  foc := fun i hi => by simp at hi
  nodup := by
    rw [List.flatten_append, List.nodup_append]
    exact ⟨h.nodup, k.nodup, fun b hb b' hb' e => hd b hb (e ▸ hb')⟩
theorem DRow.one {S : Nat → Prop} {E : TypeId} {t : Ty} {x : t.T} {c : List Value} {B : List Nat} (h : DEnc w S E t x c B) (hB : B.Nodup) : DRow w S E t [x] [] [c] [B] where
  len := rfl
  blen := rfl
  width := fun c' hc => by rw [List.mem_singleton.1 hc]; exact h.length
  el := fun i y hy _ => by
    cases i with
    | zero => simp at hy; subst hy; exact ⟨c, B, rfl, rfl, h⟩
    | succ i => simp at hy
  foc := fun i hi => by simp at hi
  nodup := by simpa using hB
end
end Dec
