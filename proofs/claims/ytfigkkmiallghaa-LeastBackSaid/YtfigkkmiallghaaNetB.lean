/-
  'NetBack' in plain Lean: a net turned round.
-/
import Derived.Test.YtfigkkmiallghaaNetA
set_option linter.unusedSimpArgs false
set_option linter.unusedVariables false
namespace Dec
open Go Go.Proofs

def backA (a : Arc) : Arc := (a.2.2, (a.2.1, a.1))
def backN (n : Net) : Net := (n.1, (n.2.1, (n.2.2.1.map backA, (n.2.2.2.2, n.2.2.2.1))))

theorem VC23_of {n : Net} (hu : NU n) {K : Net × Int → Prop} (hbad : ∀ m e, e ≠ 0 → ¬ GoodN n → NU m → K (m, e)) (h : GoodN n → K (backN n, 0)) : VC23 n K := by
  unfold VC23
  refine VC44_of hu ⟨fun hc => hbad _ _ (by simpa using hc) (fun hg => ?_) ⟨u32_zero, u32_zero⟩, fun hc => ?_⟩
  · rw [(chkN_zero n).2 hg] at hc; simp at hc
  have g := (chkN_zero n).1 (by simpa using hc)
  have hlen := g.1.2.2.2.2
  refine loop_state n.2.2.1.length (fun i => (n.2.2.1.take i).map backA) (fun _ => True) trivial ?_
  intro i hi _ X hX
  unfold VC23_l1
  refine ⟨fun hlt => ?_, fun hge => ?_⟩
  · simp only [decide_eq_true_eq] at hlt
    have hil : i < n.2.2.1.length := by omega
    refine ⟨⟨by omega, by omega⟩, by unfold roomN; simp; omega, ⟨by omega, by omega⟩, ?_⟩
    have := hX hil trivial
    rw [List.take_succ_eq_append_getElem hil, ← getD_lt ((0 : Int), ((0 : Int), (0 : Int))) hil, List.map_append] at this
    exact this
  · simp only [decide_eq_false_iff_not] at hge
    have : i = n.2.2.1.length := by omega
    subst this
    unfold VC23_k1
    rw [List.take_length]
    exact h g

theorem back_good {n : Net} (g : GoodN n) : GoodN (backN n) := by
  obtain ⟨⟨a1, a2, a3, a4, a5⟩, b, c⟩ := g
  refine ⟨⟨a1, a2, a3, a4, by simpa [backN] using a5⟩, ?_, c.2, c.1⟩
  intro x hx
  simp only [backN, List.mem_map] at hx
  obtain ⟨a, ha, rfl⟩ := hx
  obtain ⟨h1, h2, h3, h4, h5, h6⟩ := b a ha
  exact ⟨h3, h4, h1, h2, h5, h6⟩

theorem back_back (n : Net) : backN (backN n) = n := by
  obtain ⟨a, b, c, d, e⟩ := n
  simp only [backN, List.map_map]
  have : c.map (backA ∘ backA) = c := by
    have : (backA ∘ backA) = id := by funext x; rfl
    rw [this, List.map_id]
  rw [this]

theorem np_back {n : Net} {p q : Nat} {w : List Int} (h : NP n p w q) : NP (backN n) q w.reverse p := by
  induction h with
  | nil p => exact .nil p
  | eps a ha hs hp h ih =>
    have hm : backA a ∈ (backN n).2.2.1 := by simp only [backN, List.mem_map]; exact ⟨a, ha, rfl⟩
    have := ih.append (NP.eps (backA a) hm hs rfl (.nil _))
    rw [List.append_nil] at this
    rw [← hp]; exact this
  | sym a ha hs h0 hp h ih =>
    have hm : backA a ∈ (backN n).2.2.1 := by simp only [backN, List.mem_map]; exact ⟨a, ha, rfl⟩
    have := ih.append (NP.sym (backA a) hm hs h0 rfl (.nil _))
    rw [List.reverse_cons]
    rw [← hp]; exact this

theorem np_back_iff {n : Net} {p q : Nat} {w : List Int} : NP (backN n) q w.reverse p ↔ NP n p w q :=
  ⟨fun h => by have := np_back h; rwa [back_back, List.reverse_reverse] at this, np_back⟩

theorem takes_iff {r f : Int} (hr : U32 r) (hf : U32 f) : (!decide (bAnd .u32 r f = 0)) = true ↔ ∃ q, bt r q = true ∧ bt f q = true := by
  simp only [Bool.not_eq_true', decide_eq_false_iff_not]
  rw [u32_eq_zero (u32_and hr hf)]
  constructor
  · intro h
    simp only [Classical.not_forall] at h
    obtain ⟨i, hi, hb⟩ := h
    rw [bt_and hr hf] at hb
    simp at hb
    exact ⟨i, hb⟩
  · rintro ⟨q, h1, h2⟩ h
    have h32 : q < 32 := by
      refine Classical.byContradiction fun hn => ?_
      rw [bt_ge hr (by omega)] at h1; cases h1
    have := h q h32
    rw [bt_and hr hf, h1, h2] at this
    cases this

end Dec
