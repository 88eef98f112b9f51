/-
  The laws ClimbBack and ClimbShort in plain words.
-/
import Derived.Test.YtfamoglamihdfaaClimbC
set_option linter.unusedSimpArgs false
set_option linter.unusedVariables false
namespace Dec
open Go

theorem VC33_of {a : List Int} {K : Bool → Prop} (hl : a.length ≤ 9223372036854775807) (h : K true) : VC33 a a K := by
  unfold VC33
  refine ⟨fun hc => (by simp at hc), fun _ => ?_⟩
  refine loop_count a.length (fun _ => True) trivial ?_
  intro i hi _ X hX
  unfold VC33_l1 VC33_k1
  refine ⟨fun hb => ?_, fun _ => h⟩
  simp only [decide_eq_true_eq] at hb
  exact ⟨⟨by omega, by omega⟩, ⟨by omega, by omega⟩, fun hc => (by simp at hc), fun _ => ⟨⟨by omega, by omega⟩, hX (by omega) trivial⟩⟩

/-- how many operands lie there -/
def dep : Nat → List Int → Option Nat
  | d, [] => some d
  | d, s :: l => if 100 ≤ s then dep (d + 1) l else match d with
    | d + 2 => dep (d + 1) l
    | _ => none

theorem dep_app : ∀ (a b : List Int) (d : Nat), dep d (a ++ b) = match dep d a with | some e => dep e b | none => none
  | [], b, d => rfl
  | s :: a, b, d => by
    simp only [List.cons_append, dep]
    split
    · exact dep_app a b _
    · match d with
      | 0 => rfl
      | 1 => rfl
      | d + 2 => exact dep_app a b _

theorem dep_add : ∀ (a : List Int) (d e k : Nat), dep d a = some k → dep (d + e) a = some (k + e)
  | [], d, e, k, h => by simp only [dep, Option.some.injEq] at h ⊢; omega
  | s :: a, d, e, k, h => by
    simp only [dep] at h ⊢
    split at h
    · rename_i hv
      rw [if_pos hv]
      have := dep_add a (d + 1) e k h
      rwa [show d + 1 + e = d + e + 1 by omega] at this
    · rename_i hv
      rw [if_neg hv]
      match d, h with
      | d + 2, h =>
        have := dep_add a (d + 1) e k h
        rw [show d + 2 + e = (d + e) + 2 by omega]
        simp only
        rwa [show d + 1 + e = d + e + 1 by omega] at this

theorem showRun_dep {ops : Ops} : ∀ (l : List Int) (st : List Wd), dep st.length l = (showRun ops st l).map List.length
  | [], st => rfl
  | s :: l, st => by
    simp only [dep, showRun]
    by_cases hv : 100 ≤ s
    · simp only [showStep, if_pos hv]
      exact showRun_dep l (([s], -1) :: st)
    · simp only [showStep, if_neg hv]
      match st with
      | [] => rfl
      | [_] => rfl
      | b :: a :: r => exact showRun_dep l (joinW ops a b s :: r)

theorem showRes_bad {ops : Ops} {post w : List Int} {e : Int} (h : showRes ops post = (w, e)) (he : e ≠ 0) : w = [] ∧ (e = 1 ∨ (e = 5 ∧ dep 0 post ≠ some 1)) := by
  have hd := showRun_dep (ops := ops) post []
  simp only [List.length_nil] at hd
  unfold showRes at h
  cases hr : showRun ops [] post with
  | none =>
    rw [hr] at h hd
    simp only [Prod.mk.injEq] at h
    rw [hd]
    exact ⟨h.1.symm, .inr ⟨h.2.symm, by simp⟩⟩
  | some st =>
    rw [hr] at h hd
    match st, h, hd with
    | [], h, hd =>
      simp only [Prod.mk.injEq] at h
      rw [hd]
      exact ⟨h.1.symm, .inr ⟨h.2.symm, by simp⟩⟩
    | _ :: _ :: _, h, hd =>
      simp only [Prod.mk.injEq] at h
      rw [hd]
      exact ⟨h.1.symm, .inr ⟨h.2.symm, by simp⟩⟩
    | [x], h, hd =>
      simp only at h
      split at h
      · simp only [Prod.mk.injEq] at h
        exact ⟨h.1.symm, .inl h.2.symm⟩
      · simp only [Prod.mk.injEq] at h
        exact absurd h.2.symm he

theorem VC58_of {l : List Int} {K : Int → Prop} (hl : l.length ≤ 9223372036854775807) (h1 : K (-1)) (h2 : ∀ r : Nat, 0 < r → r + 2 ≤ l.length → l.getD (l.length - 1) 0 < 100 → K r) : VC58 l K := by
  unfold VC58
  refine ⟨fun hc => ?_, fun hc => ?_, fun _ => h1, fun hc => ?_⟩
  · exact ⟨by omega, by omega⟩
  · simp only [decide_eq_false_iff_not] at hc
    exact ⟨by omega, by omega⟩
  · simp only [Bool.or_eq_false_iff, decide_eq_false_iff_not] at hc
    obtain ⟨h3, hlast⟩ := hc
    have e1 : (((l.length : Int) - 1)).toNat = l.length - 1 := by omega
    rw [e1] at hlast
    refine ⟨⟨by omega, by omega⟩, ?_⟩
    refine Loop.by (fun s => 0 ≤ s.2 ∧ s.2 ≤ (l.length : Int) - 2 ∧ -((l.length : Int) - s.2) ≤ s.1 ∧ s.1 ≤ (l.length : Int) - s.2) (fun s => s.2.toNat) ⟨by omega, by omega, by omega, by omega⟩ ?_
    rintro ⟨need, i⟩ ⟨k1, k2, k3, k4⟩ X hX
    simp only at k1 k2 k3 k4 ⊢
    unfold VC58_l1
    refine ⟨fun hb => ?_, fun _ => by unfold VC58_k1; exact h1⟩
    simp only [decide_eq_true_eq] at hb
    have fin : ∀ m : Int, -((l.length : Int) - i) - 1 ≤ m → m ≤ (l.length : Int) - i + 1 → VC58_k2 K i X m := by
      intro m hm1 hm2
      unfold VC58_k2
      refine ⟨fun _ => ?_, fun _ => ⟨⟨by omega, by omega⟩, hX _ ⟨by simp only; omega, by simp only; omega, by simp only; omega, by simp only; omega⟩ (by simp only; omega)⟩⟩
      have := h2 i.toNat (by omega) (by omega) (by omega)
      rwa [Int.toNat_of_nonneg (by omega)] at this
    exact ⟨⟨by omega, by omega⟩, fun _ => ⟨⟨by omega, by omega⟩, fin _ (by omega) (by omega)⟩, fun _ => ⟨⟨by omega, by omega⟩, fin _ (by omega) (by omega)⟩⟩

theorem VC31_it_of : ∀ (n : Nat) (l : List Int) {K : Bool → Prop}, l.length < n → l.length ≤ 9223372036854775807 → (∀ b : Bool, (b = true → dep 0 l = some 1) → K b) → VC31_it n l K
  | 0, l, K, hn, _, _ => by omega
  | n + 1, l, K, hn, hl, h => by
    show VC31 (VC31_it n) l K
    unfold VC31
    refine ⟨fun h1 => ?_, fun h1 => ?_⟩
    · simp only [decide_eq_true_eq] at h1
      refine ⟨⟨by omega, by omega⟩, h _ fun hv => ?_⟩
      match l, h1 with
      | [x], _ =>
        have hx : 100 ≤ x := by simpa using hv
        simp [dep, hx]
      | [], h1 => simp at h1
      | _ :: _ :: _, h1 => simp only [List.length_cons] at h1; omega
    · refine VC58_of hl ?_ fun r hr hr2 hlast => ?_
      · refine ⟨fun hc => (by simp at hc), ?_⟩
        unfold gcall
        simp only [show decide ((0 : Int) < -1) = false by decide, Bool.false_eq_true, if_false, Bool.false_and]
        exact ⟨fun hc => hc.elim, fun hc => hc.elim, h false fun hc => (by cases hc)⟩
      · have hr0 : decide ((0 : Int) < (r : Int)) = true := by rw [decide_eq_true_eq]; omega
        refine ⟨fun _ => ⟨by omega, by omega⟩, ?_⟩
        simp only [hr0, Int.toNat_natCast, Bool.true_and]
        unfold gcall
        simp only [if_true]
        refine VC31_it_of n _ (by simp; omega) (by simp; omega) fun b1 hb1 => ?_
        refine ⟨fun _ => ⟨by omega, by omega⟩, fun _ => ⟨by omega, by omega, by omega⟩, ?_⟩
        cases b1 with
        | false =>
          simp only [Bool.false_eq_true, if_false, Bool.false_and]
          exact h false fun hc => (by cases hc)
        | true =>
          simp only [if_true, Bool.true_and]
          have e1 : (((l.length : Int) - 1)).toNat = l.length - 1 := by omega
          rw [e1]
          refine VC31_it_of n _ (by simp; omega) (by simp; omega) fun b2 hb2 => h b2 fun hb => ?_
          have p1 := hb1 rfl
          have p2 := hb2 hb
          have hlt : l.length - 1 < l.length := by omega
          have e2 : l = l.take r ++ ((l.take (l.length - 1)).drop r ++ [l.getD (l.length - 1) 0]) := by
            have q1 : l = l.take (l.length - 1) ++ [l.getD (l.length - 1) 0] := by
              conv => lhs; rw [← List.take_append_drop (l.length - 1) l]
              congr 1
              rw [List.drop_eq_getElem_cons hlt, getD_lt 0 hlt, List.drop_of_length_le (by omega)]
            have q2 : l.take (l.length - 1) = l.take r ++ (l.take (l.length - 1)).drop r := by
              conv => lhs; rw [← List.take_append_drop r (l.take (l.length - 1))]
              rw [List.take_take, Nat.min_eq_left (by omega)]
            rw [← List.append_assoc, ← q2]
            exact q1
          rw [e2, dep_app, p1]
          simp only
          rw [dep_app]
          have := dep_add _ 0 1 1 p2
          simp only [Nat.zero_add] at this
          rw [this]
          simp only [dep]
          rw [if_neg (by omega)]

theorem VCr31_of {l : List Int} {K : Bool → Prop} (hl : l.length ≤ 9223372036854775807) (h : ∀ b : Bool, (b = true → dep 0 l = some 1) → K b) : VCr31 l K :=
  ⟨l.length + 1, VC31_it_of _ l (by omega) hl h⟩

/-- the law ClimbBack -/
theorem law10 {ops : Ops} {post : List Int} (hl : post.length ≤ 9223372036854775807) : VC10 ops post (fun b => b = true) := by
  unfold VC10
  refine VC29_of hl (fun hn e he => VC30_of hl (fun _ => ⟨fun _ => (by simpa using he), fun hc => (by cases hc)⟩) (fun g => absurd g hn)) (fun g => VC30_of hl (fun hn => absurd g hn) (fun _ => ⟨fun hc => (by cases hc), fun _ => ?_⟩))
  cases hres : showRes ops post with
  | mk w e =>
    simp only
    refine ⟨fun he => ?_, fun he => ?_⟩
    · simp only [Bool.not_eq_true', decide_eq_false_iff_not] at he
      obtain ⟨rfl, h⟩ := showRes_bad hres he
      rcases h with rfl | ⟨rfl, hd⟩
      · unfold gcall
        simp
      · unfold gcall
        simp only [List.length_nil]
        refine VCr31_of hl fun b hb => ?_
        cases b with
        | false => rfl
        | true => exact absurd (hb rfl) hd
    · simp only [Bool.not_eq_false', decide_eq_true_eq] at he
      subst he
      obtain ⟨g2, hr⟩ := show_read g hres
      have := g2.m
      refine VC32_of (by omega) (fun hn => absurd g2 hn) (fun _ => ?_)
      rw [hr]
      unfold gcall
      simp only [decide_true, if_true, Bool.true_and]
      exact VC33_of hl rfl

/-- the law ClimbShort -/
theorem law11 {ops : Ops} {l : List Int} (hl : l.length ≤ 9223372036854775807) : VC11 ops l (fun b => b = true) := by
  unfold VC11
  refine VC32_of hl (fun hn e he => VC30_of hl (fun _ => ⟨fun _ => (by simpa using he), fun hc => (by cases hc)⟩) (fun g => absurd g hn)) (fun g => VC30_of hl (fun hn => absurd g hn) (fun _ => ⟨fun hc => (by cases hc), fun _ => ?_⟩))
  cases hres : readRes ops l with
  | mk p e =>
    simp only
    refine ⟨fun he => ?_, fun he => ?_⟩
    · simp only [Bool.not_eq_true', decide_eq_false_iff_not] at he
      have : p = [] := by
        unfold readRes readEnd at hres
        split at hres
        · split at hres
          · simp only [Prod.mk.injEq] at hres
            exact absurd hres.2.symm he
          · simp only [Prod.mk.injEq] at hres
            exact hres.1.symm
        · simp only [Prod.mk.injEq] at hres
          exact hres.1.symm
      simp [this]
    · simp only [Bool.not_eq_false', decide_eq_true_eq] at he
      subst he
      obtain ⟨g2, w, hw, hlen⟩ := read_show g hres
      obtain ⟨g3, hr⟩ := show_read g2 hw
      have := g.m
      have := g2.m
      refine VC29_of (by omega) (fun hn => absurd g2 hn) (fun _ => ?_)
      rw [hw]
      refine VC32_of (by simp only; omega) (fun hn => absurd g3 hn) (fun _ => ?_)
      rw [hr]
      have hd : decide ((w.length : Int) ≤ (l.length : Int)) = true := by rw [decide_eq_true_eq]; omega
      unfold gcall
      simp only [decide_true, if_true, Bool.true_and, hd]
      exact VC33_of (by omega) rfl

end Dec
