/-
  A slice that is an argument has as many elements as its reading.
-/
import Derived.Test.YtfpchbpnoggogaaDecT
set_option linter.unusedSimpArgs false
set_option linter.unusedVariables false
namespace Dec
open Go Go.RowKit Go.Deep Go.ChangeShapes Go.WideShapes

section
variable {H : Type} {enc : TypeId × Value → H} {P : Program} {w : World}

theorem slice_len {n : Nat} {t : TypeId} {u : Ty} (h : tyOf0 P n t = some (.sl u)) {r : Reach} {b0 : Nat} {v : Value} {d : DataW H} {ps : List MemPlace}
    (hval : Value.okWide P w r b0 t v) (hd : DataW.Trod enc P w 0 (fun _ => true) true t v d ps) {x : (Ty.sl u).T} (hx : PRep w (Old w) (toV1 (.sl u) x) v) :
    x.length = 0 ∨ ∃ el sp, d = .slice el sp ∧ el.length = x.length := by
  obtain ⟨t', y, cs, e1, e2, e3⟩ := hx
  have hv : ∃ a c, v = .slice a x.length c := by
    cases t' <;> simp [toV1] at e1
    obtain ⟨rfl, e1⟩ := e1
    obtain rfl := eq_of_heq e1
    obtain ⟨a, c, e4, _⟩ := e2
    exact ⟨a, c, by rw [e3, e4]; rfl⟩
  obtain ⟨a, c, rfl⟩ := hv
  obtain ⟨fuel, hf⟩ := hd
  cases n with
  | zero => simp [tyOf0] at h
  | succ n =>
    simp only [tyOf0] at h
    split at h
    · cases h
    · split at h
      · split at h <;> cases h
      · split at h <;> cases h
      · rename_i e hu
        rcases open_slice hu hf with ⟨e5, _⟩ | ⟨a', len, cap, m, n', D, Pl, e5, _, hl, hm, hmm, e6, hel⟩
        · left
          simp [Value.cells] at e5
          rw [e5.2.1]; rfl
        · right
          simp [Value.cells] at e5
          injection e6 with e6 e7
          refine ⟨_, _, e6, ?_⟩
          simp [e5.2.1]
      · split at h
        · split at h
          · split at h
            · rename_i hs
              simp only [Bool.and_eq_true] at hs
              injection h with h; subst h
              simp [Ty.isPr] at hs
            · cases h
          · cases h
        · cases h
      · cases h
end
end Dec
