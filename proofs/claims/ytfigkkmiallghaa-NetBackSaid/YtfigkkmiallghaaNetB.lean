/-
  'NetBack' in plain Lean: a net turned round.
-/
import Derived.Test.YtfigkkmiallghaaNetA
set_option linter.unusedSimpArgs false
set_option linter.unusedVariables false
namespace Dec
open Go Go.Proofs

def backA (a : Arc) : Arc := (a.2.2, (a.2.1, a.1))
def backN (n : Net) : Net := (n.1, (n.2.1, (n.2.2.1.map backA, (n.2.2.2.2, n.2.2.2.1))))

theorem VC23_of {n : Net} (hu : NU n) {K : Net × Int → Prop} (hbad : ∀ m e, e ≠ 0 → ¬ GoodN n → NU m → K (m, e)) (h : GoodN n → K (backN n, 0)) : VC23 n K := by
  unfold VC23
  refine VC44_of hu ⟨fun hc => hbad _ _ (by simpa using hc) (fun hg => ?_) ⟨u32_zero, u32_zero⟩, fun hc => ?_⟩
  · rw [(chkN_zero n).2 hg] at hc; simp at hc
  have g := (chkN_zero n).1 (by simpa using hc)
  have hlen := g.1.2.2.2.2
  refine loop_state n.2.2.1.length (fun i => (n.2.2.1.take i).map backA) (fun _ => True) trivial ?_
  intro i hi _ X hX
  unfold VC23_l1
  refine ⟨fun hlt => ?_, fun hge => ?_⟩
  · simp only [decide_eq_true_eq] at hlt
    have hil : i < n.2.2.1.length := by omega
    refine ⟨⟨by omega, by omega⟩, by unfold roomN; simp; omega, ⟨by omega, by omega⟩, ?_⟩
    have := hX hil trivial
    rw [List.take_succ_eq_append_getElem hil, ← getD_lt ((0 : Int), ((0 : Int), (0 : Int))) hil, List.map_append] at this
    exact this
  · simp only [decide_eq_false_iff_not] at hge
    have : i = n.2.2.1.length := by omega
    subst this
    unfold VC23_k1
    rw [List.take_length]
    exact h g

theorem back_good {n : Net} (g : GoodN n) : GoodN (backN n) := by
  obtain ⟨⟨a1, a2, a3, a4, a5⟩, b, c⟩ := g
  refine ⟨⟨a1, a2, a3, a4, by simpa [backN] using a5⟩, ?_, c.2, c.1⟩
  intro x hx
  simp only [backN, List.mem_map] at hx
  obtain ⟨a, ha, rfl⟩ := hx
  obtain ⟨h1, h2, h3, h4, h5, h6⟩ := b a ha
  exact ⟨h3, h4, h1, h2, h5, h6⟩

theorem back_back (n : Net) : backN (backN n) = n := by
  obtain ⟨a, b, c, d, e⟩ := n
  simp only [backN, List.map_map]
  have : c.map (backA ∘ backA) = c := by
    have : (backA ∘ backA) = id := by funext x; rfl
    rw [this, List.map_id]
  rw [this]

theorem np_back {n : Net} {p q : Nat} {w : List Int} (h : NP n p w q) : NP (backN n) q w.reverse p := by
  induction h with
  | nil p => exact .nil p
  | eps a ha hs hp h ih =>
    have hm : backA a ∈ (backN n).2.2.1 := by simp only [backN, List.mem_map]; exact ⟨a, ha, rfl⟩
    have := ih.append (NP.eps (backA a) hm hs rfl (.nil _))
    rw [List.append_nil] at this
    rw [← hp]; exact this
  | sym a ha hs h0 hp h ih =>
    have hm : backA a ∈ (backN n).2.2.1 := by simp only [backN, List.mem_map]; exact ⟨a, ha, rfl⟩
    have := ih.append (NP.sym (backA a) hm hs h0 rfl (.nil _))
    rw [List.reverse_cons]
    rw [← hp]; exact this

theorem np_back_iff {n : Net} {p q : Nat} {w : List Int} : NP (backN n) q w.reverse p ↔ NP n p w q :=
  ⟨fun h => by have := np_back h; rwa [back_back, List.reverse_reverse] at this, np_back⟩

theorem takes_iff {r f : Int} (hr : U32 r) (hf : U32 f) : (!decide (bAnd .u32 r f = 0)) = true ↔ ∃ q, bt r q = true ∧ bt f q = true := by
  simp only [Bool.not_eq_true', decide_eq_false_iff_not]
  rw [u32_eq_zero (u32_and hr hf)]
  constructor
  · intro h
    simp only [Classical.not_forall] at h
    obtain ⟨i, hi, hb⟩ := h
    rw [bt_and hr hf] at hb
    simp at hb
    exact ⟨i, hb⟩
  · rintro ⟨q, h1, h2⟩ h
    have h32 : q < 32 := by
      refine Classical.byContradiction fun hn => ?_
      rw [bt_ge hr (by omega)] at h1; cases h1
    have := h q h32
    rw [bt_and hr hf, h1, h2] at this
    cases this

theorem netBack {n : Net} {w : List Int} (hn : Ok NetT n) (hwl : w.length ≤ 9223372036854775807) : VC6 n w (fun b => b = true) := by
  have hu : NU n := ⟨u32_of_ok hn.2.2.2.1, u32_of_ok hn.2.2.2.2⟩
  unfold VC6
  refine VC23_of hu (fun m e he hno hm => VC20_of hu (fun e2 he2 hbad => VC21_of hu (fun hg => absurd hg hbad) fun _ => ⟨fun _ => (by simpa using he2), fun hc => (by cases hc)⟩) fun g => absurd g hno) (fun g => ?_)
  refine VC20_of hu (fun e2 he2 hbad => VC21_of hu (fun hg => absurd hg hbad) fun _ => ⟨fun _ => (by simpa using he2), fun hc => (by cases hc)⟩) (fun _ gw r hr => VC21_of hu (fun _ => ⟨fun hc => (by cases hc), fun _ => ?_⟩) fun hno => absurd ⟨g, gw⟩ hno)
  have hwl2 := gw.1
  refine ⟨⟨by omega, by omega⟩, ?_⟩
  refine Loop.by (fun t : Int × List Int => ∃ i : Nat, i ≤ w.length ∧ t.1 = (i : Int) - 1 ∧ t.2 = (w.drop i).reverse) (fun t => (t.1 + 1).toNat) ⟨w.length, by omega, rfl, by simp⟩ ?_
  rintro ⟨c, back⟩ ⟨i, hi, e, rfl⟩ X hX
  simp only at e
  subst e
  unfold VC6_l2
  refine ⟨fun hlt => ?_, fun hge => ?_⟩
  · simp only [decide_eq_true_eq] at hlt
    have hil : i - 1 < w.length := by omega
    refine ⟨⟨by omega, by omega⟩, by unfold roomN; simp; omega, ⟨by omega, by omega⟩, hX _ ⟨i - 1, by omega, by simp only; omega, ?_⟩ (by simp only; omega)⟩
    simp only
    rw [List.drop_eq_getElem_cons hil, List.reverse_cons, show i - 1 + 1 = i by omega, ← getD_lt (0 : Int) hil]
    have : ((i : Int) - 1).toNat = i - 1 := by omega
    rw [this]
  · simp only [decide_eq_false_iff_not] at hge
    have : i = 0 := by omega
    subst this
    rw [List.drop_zero]
    unfold VC6_k1
    have hub : NU (backN n) := ⟨hu.2, hu.1⟩
    have gb := back_good g
    have gwb : GoodW (backN n).2.1 w.reverse := ⟨by simpa using gw.1, fun s hs => gw.2 s (by simpa using hs)⟩
    refine VC20_of hub (fun e he hbad => absurd ⟨gb, gwb⟩ hbad) fun _ _ r2 hr2 => ?_
    refine VC23_of hub (fun m e he hno hm => absurd gb hno) fun _ => ?_
    rw [back_back]
    have hacc : (!decide (bAnd .u32 r n.2.2.2.2 = 0)) = (!decide (bAnd .u32 r2 (backN n).2.2.2.2 = 0)) := by
      rw [Bool.eq_iff_iff, takes_iff hr.1 hu.2, takes_iff hr2.1 hub.2]
      constructor
      · rintro ⟨q, h1, h2⟩
        obtain ⟨p, h3, h4⟩ := (hr.2 q).1 h1
        exact ⟨p, (hr2.2 p).2 ⟨q, h2, np_back_iff.2 h4⟩, h3⟩
      · rintro ⟨p, h1, h2⟩
        obtain ⟨q, h3, h4⟩ := (hr2.2 p).1 h1
        exact ⟨q, (hr.2 q).2 ⟨p, h2, np_back_iff.1 h4⟩, h3⟩
    simp only
    rw [hacc]
    refine ⟨fun hc => ?_, fun _ => ?_⟩
    · exfalso; simp at hc
    refine loop_count n.2.2.1.length (fun _ => True) trivial ?_
    intro j hj _ X2 hX2
    unfold VC6_l1
    refine ⟨fun hlt => ?_, fun hge => ?_⟩
    · simp only [decide_eq_true_eq] at hlt
      have hlen := g.1.2.2.2.2
      refine ⟨⟨by omega, by omega⟩, ⟨by omega, by omega⟩, fun hc => (by simp at hc), fun _ => ⟨⟨by omega, by omega⟩, hX2 (by omega) trivial⟩⟩
    · unfold VC6_k2
      simp
end Dec
