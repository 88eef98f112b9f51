/-
  Is a slice nil? (What is asked of an address: its answer is left open, but for this: a nil slice is empty.)
-/
import Derived.Test.YtfchgkifdfgbmaaDecS
import Derived.Laws.Cover3
set_option linter.unusedSimpArgs false
set_option linter.unusedVariables false
namespace Dec
open Go Go.RowKit
variable {M : Md → Prop}
section
open Go.Deep Go.ChangeShapes Go.WideShapes
variable {H : Type} {enc : TypeId × Value → H} {P : Program} {w : World}
theorem prep_ok_of_trod {n : Nat} {t : TypeId} {u : Ty} (h : tyOf0 P n t = some u) {r : Reach} {b0 : Nat} {v : Value} {d : DataW H} {ps : List MemPlace} (hval : Value.okWide P w r b0 t v) (hd : DataW.Trod enc P w 0 (fun _ => true) true t v d ps) :
    ∃ y : u.T, PRep w (Old w) (toV1 u y) v ∧ Ok u y := by
  obtain ⟨fuel, hf⟩ := hd
  obtain ⟨y, hy⟩ := enc_of_trod n h hf
  refine ⟨y, ⟨u, y, _, rfl, hy, ?_⟩, Enc.ok hy⟩
  have h0 := h
  cases n with
  | zero => simp [tyOf0] at h
  | succ n =>
    simp only [tyOf0] at h
    split at h
    · cases h
    · split at h
      · rename_i hu
        split at h
        · injection h with h; subst h
          obtain ⟨m, rfl⟩ := okWide_int hu hval
          rfl
        · cases h
      · rename_i hu
        split at h
        · injection h with h; subst h
          obtain ⟨m, rfl⟩ := okWide_bool hu hval
          rfl
        · cases h
      · rename_i hu
        split at h
        · split at h
          · injection h with h; subst h
            obtain ⟨a, len, cap, rfl⟩ := okWide_slice hu hval
            rfl
          · cases h
        · cases h
      · rename_i hu
        split at h
        · cases h
        split at h
        · split at h
          · split at h
            · rename_i hs
              injection h with h; subst h
              simp only [Bool.and_eq_true] at hs
              unfold Value.okWide at hval
              rw [hu] at hval
              obtain ⟨cs, rfl, _⟩ := hval
              simp [mkVal, hs.1, Value.cells]
            · cases h
          · cases h
        · cases h
      · cases h
end
end Dec
