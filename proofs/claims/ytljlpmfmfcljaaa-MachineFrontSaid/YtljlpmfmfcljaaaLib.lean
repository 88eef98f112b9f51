/-
Plain lemmas on loops and lists, no program in sight.
-/
import Derived.Test.YtljlpmfmfcljaaaDecA
set_option linter.unusedSimpArgs false
set_option linter.unusedVariables false
namespace Dec
open Go
theorem loop_count {B : Int → (Int → Prop) → Prop} (n : Nat) (P : Nat → Prop) (h0 : P 0)
    (h : ∀ i : Nat, i ≤ n → P i → ∀ X : Int → Prop, (i < n → P (i + 1) → X ((i : Int) + 1)) → B (i : Int) X) : Loop B 0 := by
  refine Loop.by (fun s => ∃ i : Nat, i ≤ n ∧ P i ∧ s = (i : Int)) (fun s => ((n : Int) - s).toNat) ⟨0, by omega, h0, rfl⟩ ?_
  rintro s ⟨i, hi, hP, rfl⟩ X hX
  exact h i hi hP X fun hlt hP' => hX _ ⟨i + 1, by omega, hP', by simp⟩ (by omega)
theorem loop_state' {τ : Type} {B : τ × Int → (τ × Int → Prop) → Prop} (n : Nat) (st : Nat → τ) (P : Nat → Prop) (h0 : P 0)
    (h : ∀ i : Nat, i ≤ n → P i → ∀ X : τ × Int → Prop, (i < n → P (i + 1) → X (st (i + 1), (i : Int) + 1)) → B (st i, (i : Int)) X) : Loop B (st 0, 0) := by
  refine Loop.by (fun s => ∃ i : Nat, i ≤ n ∧ P i ∧ s = (st i, (i : Int))) (fun s => ((n : Int) - s.2).toNat) ⟨0, by omega, h0, rfl⟩ ?_
  rintro s ⟨i, hi, hP, rfl⟩ X hX
  exact h i hi hP X fun hlt hP' => hX _ ⟨i + 1, by omega, hP', by simp⟩ (by simp only; omega)
theorem getD_lt {α : Type} {l : List α} {i : Nat} (d : α) (h : i < l.length) : l.getD i d = l[i] := by simp [List.getD, h]
theorem getD_mem {α : Type} {l : List α} {i : Nat} {d : α} (h : i < l.length) : l.getD i d ∈ l := by rw [getD_lt d h]; exact List.getElem_mem h
theorem getD_opt {α : Type} {l : List α} {i : Nat} {d : α} (h : i < l.length) : l[i]? = some (l.getD i d) := by simp [List.getD, h]
def VCidx {α : Type} (d : α) (s : List α) (F : α → (Bool → Prop) → Prop) (K : Int → Prop) : Prop :=
  Loop (σ := Int) (fun v X => (((decide (v < (s.length : Int))) = true → (inIdx v s.length ∧ F (s.getD (v).toNat d) (fun r => ((r = true → K v) ∧ (r = false → (InR (v + (1 : Int)) ∧ X (v + (1 : Int)))))))) ∧ ((decide (v < (s.length : Int))) = false → K (-1)))) 0
def idxOf {α : Type} (f : α → Bool) (s : List α) : Int := match s.findIdx? f with | some i => (i : Int) | none => -1
theorem VCidx_of {α : Type} {d : α} {s : List α} {F : α → (Bool → Prop) → Prop} {K : Int → Prop} (f : α → Bool) (hl : s.length ≤ 4611686018427387904) (hF : ∀ x ∈ s, ∀ K' : Bool → Prop, K' (f x) → F x K') (h : K (idxOf f s)) : VCidx d s F K := by
  unfold VCidx
  refine loop_count s.length (fun i => ∀ j, j < i → ∀ x, s[j]? = some x → f x = false) (by simp) ?_
  intro i hi hP X hX
  refine ⟨fun hb => ?_, fun hb => ?_⟩
  · simp only [decide_eq_true_eq] at hb
    have hil : i < s.length := by omega
    refine ⟨⟨by omega, by omega⟩, ?_⟩
    simp only [Int.toNat_natCast]
    refine hF _ (getD_mem hil) _ ⟨fun ht => ?_, fun hf => ⟨⟨by omega, by omega⟩, hX hil ?_⟩⟩
    · have : s.findIdx? f = some i := by
        rw [List.findIdx?_eq_some_iff_getElem]
        refine ⟨hil, by rw [← getD_lt d hil]; exact ht, fun j hj => ?_⟩
        have := hP j hj _ (List.getElem?_eq_getElem (by omega))
        simp [this]
      unfold idxOf at h
      rw [this] at h
      exact h
    · intro j hj x hx
      by_cases hji : j < i
      · exact hP j hji x hx
      · have : j = i := by omega
        subst this
        rw [getD_opt (d := d) hil] at hx
        injection hx with hx
        rw [← hx]; exact hf
  · simp only [decide_eq_false_iff_not] at hb
    have : s.findIdx? f = none := by
      rw [List.findIdx?_eq_none_iff]
      intro x hx
      obtain ⟨j, hj, rfl⟩ := List.mem_iff_getElem.1 hx
      exact hP j (by omega) _ (List.getElem?_eq_getElem hj)
    unfold idxOf at h
    rw [this] at h
    exact h
theorem idxOf_any {α : Type} (f : α → Bool) (s : List α) : decide (0 ≤ idxOf f s) = s.any f := by
  unfold idxOf
  cases h : s.findIdx? f with
  | none =>
    have : s.any f = false := by
      rw [List.any_eq_false]
      rw [List.findIdx?_eq_none_iff] at h
      intro x hx
      rw [h x hx]; simp
    rw [this]; rfl
  | some i =>
    rw [List.findIdx?_eq_some_iff_getElem] at h
    obtain ⟨hi, hf, _⟩ := h
    have : s.any f = true := List.any_eq_true.2 ⟨_, List.getElem_mem hi, hf⟩
    rw [this]
    simp
theorem VCany_of {α : Type} {d : α} {s : List α} {F : α → (Bool → Prop) → Prop} {K : Bool → Prop} (f : α → Bool) (hl : s.length ≤ 4611686018427387904) (hF : ∀ x ∈ s, ∀ K' : Bool → Prop, K' (f x) → F x K') (h : K (s.any f)) : VCidx d s F (fun r => K (decide ((0 : Int) ≤ r))) := by
  refine VCidx_of f hl hF ?_
  rw [idxOf_any]
  exact h
theorem wrapU32 {n : Int} (h : 0 ≤ n ∧ n < 4294967296) : IntKind.wrap .u32 n = n := by
  simp [IntKind.wrap, IntKind.signed, IntKind.bits]; omega
theorem wrapU64 {n : Int} (h : 0 ≤ n ∧ n < 18446744073709551616) : IntKind.wrap .u64 n = n := by
  simp [IntKind.wrap, IntKind.signed, IntKind.bits]; omega
end Dec
