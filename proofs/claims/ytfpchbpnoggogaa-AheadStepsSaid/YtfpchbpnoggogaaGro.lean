/-
  pick.grow: the tree that steps make (plain).
-/
import Derived.Test.YtfpchbpnoggogaaTabX
set_option linter.unusedSimpArgs false
set_option linter.unusedVariables false
namespace Dec
open Go Go.Proofs Cfg
def growL (S : Int → List Int → Option (Tree × List Int)) : List Int → List Int → Option (List Tree × List Int × List Int)
  | [], st => some ([], [], st)
  | s :: l, st => (S s st).bind fun x => (growL S l x.2).bind fun y => some (x.1 :: y.1, x.1.word ++ y.2.1, y.2.2)
def growF (g : Gr) : Nat → Int → List Int → Option (Tree × List Int)
  | 0, _, _ => none
  | f + 1, s, st =>
    if s < g.1 then some (.node (-1) [] [s], st)
    else match st with
      | [] => none
      | k :: st => if 0 ≤ k ∧ k < (g.2.2.2.length : Int) ∧ (g.2.2.2.getD k.toNat (0, [])).1 = s - g.1 then (growL (growF g f) (g.2.2.2.getD k.toNat (0, [])).2 st).bind fun y => some (.node k y.1 y.2.1, y.2.2) else none
theorem growF_sym {g : Gr} {f : Nat} {s : Int} {st : List Int} (h : s < g.1) : growF g (f + 1) s st = some (.node (-1) [] [s], st) := by
  show (if s < g.1 then _ else _) = _
  rw [if_pos h]
theorem growF_nil {g : Gr} {f : Nat} {s : Int} (h : ¬ s < g.1) : growF g (f + 1) s [] = none := by
  show (if s < g.1 then _ else _) = _
  rw [if_neg h]
theorem growF_cons {g : Gr} {f : Nat} {s k : Int} {st : List Int} (h : ¬ s < g.1) : growF g (f + 1) s (k :: st) = if 0 ≤ k ∧ k < (g.2.2.2.length : Int) ∧ (g.2.2.2.getD k.toNat (0, [])).1 = s - g.1 then (growL (growF g f) (g.2.2.2.getD k.toNat (0, [])).2 st).bind fun y => some (.node k y.1 y.2.1, y.2.2) else none := by
  show (if s < g.1 then _ else _) = _
  rw [if_neg h]
section
variable {g : Gr} {w : List Int}
set_option maxHeartbeats 1000000 in
theorem grow_of (hg : GoodG g) : ∀ (f : Nat) (s : Int) (st : List Int) (K : Tree × List Int × Bool → Prop), st.length + 2 ≤ f → st.length ≤ 60 → 0 ≤ s ∧ s < g.1 + g.2.1 → (growF g f s st = none → K (.node 0 [] [], [], false)) →
    (∀ t r, growF g f s st = some (t, r) → t.word.length + 3 * r.length ≤ 3 * st.length + 1 → r.length ≤ st.length → K (t, r, true)) → VC61_it f g s st K
  | 0, s, st, K, hf, _, _, _, _ => by omega
  | f + 1, s, st, K, hf, h60, hs, hno, hyes => by
    have hk := hg.k
    have hn := hg.n
    have hfew := hg.few
    show VC61 (VC61_it f) g s st K
    unfold VC61
    refine ⟨fun hsym => ?_, fun hname => ?_⟩
    · simp only [decide_eq_true_eq] at hsym
      refine hyes _ _ (growF_sym hsym) ?_ (Nat.le_refl _)
      show (1 : Nat) + 3 * st.length ≤ _
      omega
    · simp only [decide_eq_false_iff_not] at hname
      cases st with
      | nil =>
        have hno := hno (growF_nil hname)
        simp only [List.length_nil]
        refine ⟨fun h => (by simp at h), fun h => (by simp at h), fun h => (by simp at h), fun h => (by simp at h), fun h => (by simp at h), fun _ => hno, fun h => (by simp at h)⟩
      | cons k st =>
        rw [growF_cons hname] at hno hyes
        simp only [List.length_cons, Int.toNat_zero, List.getD_cons_zero] at hf h60 hno hyes ⊢
        have hne : decide (((st.length + 1 : Nat) : Int) = 0) = false := by simp only [decide_eq_false_iff_not]; omega
        simp only [hne, Bool.false_or]
        refine ⟨fun _ => ⟨by omega, by omega⟩, fun _ => ⟨by omega, by omega⟩, fun _ => ⟨by omega, by omega⟩, fun h => ?_, fun h => ?_, fun hbad => ?_, fun hgood => ?_⟩
        · simp only [Bool.or_eq_false_iff, decide_eq_false_iff_not] at h
          exact ⟨by omega, by omega⟩
        · unfold InR; omega
        · refine hno (if_neg ?_)
          rintro ⟨h1, h2, h3⟩
          simp only [Bool.or_eq_true, decide_eq_true_eq, Bool.not_eq_true', decide_eq_false_iff_not] at hbad
          rcases hbad with (h | h) | h
          · omega
          · omega
          · exact h h3
        · simp only [Bool.or_eq_false_iff, decide_eq_false_iff_not, Bool.not_eq_false', decide_eq_true_eq] at hgood
          obtain ⟨⟨h1, h2⟩, h3⟩ := hgood
          rw [if_pos ⟨by omega, by omega, h3⟩] at hno hyes
          have hkl : k.toNat < g.2.2.2.length := by omega
          have hmem : g.2.2.2.getD k.toNat (0, []) ∈ g.2.2.2 := getD_mem hkl
          have hshort := hg.short _ hmem
          have hright := hg.right _ hmem
          obtain ⟨L, hL⟩ : ∃ L, (g.2.2.2.getD k.toNat (0, [])).2 = L := ⟨_, rfl⟩
          rw [hL] at hshort hright hno hyes
          refine ⟨⟨by omega, by omega⟩, ⟨by omega, by omega⟩, ⟨by omega, by omega⟩, ?_⟩
          refine Loop.by (fun t : List Int × Int × List Tree × List Int => ∃ v : Nat, t.2.1 = (v : Int) ∧ v ≤ L.length ∧ t.2.2.1.length = v ∧ t.1.length ≤ st.length ∧ t.2.2.2.length + 3 * t.1.length ≤ 3 * st.length + v ∧ growL (growF g f) L st = (growL (growF g f) (L.drop v) t.1).bind fun y => some (t.2.2.1 ++ y.1, t.2.2.2 ++ y.2.1, y.2.2)) (fun t => ((L.length : Int) - t.2.1).toNat) ⟨0, rfl, by omega, rfl, by simp, by simp, by
            simp only [List.drop_zero]
            cases h : growL (growF g f) L st <;> simp [h]⟩ ?_
          rintro ⟨st2, v', kids, wd⟩ ⟨v, e, hv, hkl2, hst2, hwd, heq⟩ X hX
          dsimp only at e hkl2 hst2 hwd heq hX
          subst e
          dsimp only
          unfold VC61_l1
          simp only [Int.toNat_natCast, Int.toNat_zero, List.getD_cons_zero, hL]
          refine ⟨fun hb => ?_, fun hb => ?_⟩
          · simp only [decide_eq_true_eq] at hb
            have hvL : v < L.length := by omega
            have eL : L.drop v = L.getD v 0 :: L.drop (v + 1) := by rw [List.drop_eq_getElem_cons hvL, getD_lt _ hvL]
            rw [eL, growL] at heq
            refine ⟨⟨by omega, by omega⟩, grow_of hg f _ st2 _ (by omega) (by omega) (hright _ (getD_mem hvL)) (fun hnone => ⟨fun _ => hno ?_, fun h => (by cases h)⟩) (fun t r hsome ht hr => ⟨fun h => (by cases h), fun _ => ?_⟩)⟩
            · rw [heq, hnone]; rfl
            · dsimp only
              rw [hsome] at heq
              simp only [Option.bind_some] at heq
              refine ⟨by unfold roomN; simp only [List.length_cons, List.length_nil]; omega, by unfold roomN; omega, by unfold InR; omega, hX _ ⟨v + 1, by simp, by omega, by simp [hkl2], by dsimp only; omega, ?_, ?_⟩ (by dsimp only; omega)⟩
              · dsimp only
                rw [List.length_append]
                omega
              · dsimp only
                rw [heq, Tree.eta]
                cases growL (growF g f) (L.drop (v + 1)) r <;> simp
          · simp only [decide_eq_false_iff_not] at hb
            have ev : v = L.length := by omega
            subst ev
            rw [List.drop_length, growL] at heq
            simp only [Option.bind_some, List.append_nil] at heq
            unfold VC61_k1
            simp only [Int.toNat_zero, List.getD_cons_zero]
            refine hyes _ _ (by rw [heq]; rfl) ?_ (by omega)
            show wd.length + 3 * st2.length ≤ _
            omega
theorem VCr61_of (hg : GoodG g) {s : Int} {st : List Int} (h60 : st.length ≤ 60) (hs : 0 ≤ s ∧ s < g.1 + g.2.1) {K : Tree × List Int × Bool → Prop} (hno : growF g 62 s st = none → K (.node 0 [] [], [], false)) (hyes : ∀ t r, growF g 62 s st = some (t, r) → t.word.length + 3 * r.length ≤ 3 * st.length + 1 → r.length ≤ st.length → K (t, r, true)) : VCr61 g s st K :=
  ⟨62, grow_of hg 62 s st K (by omega) h60 hs hno hyes⟩
def WordIs (g : Gr) (st : List Int) (r : List Int × Int) : Prop := (r.2 ≠ 0 ∧ r.1 = [] ∧ ¬ (GoodG g ∧ st.length ≤ 60 ∧ ∃ t, growF g 62 (g.1 + g.2.2.1) st = some (t, []) ∧ t.word.length ≤ 60)) ∨ (r.2 = 0 ∧ GoodG g ∧ st.length ≤ 60 ∧ ∃ t, growF g 62 (g.1 + g.2.2.1) st = some (t, []) ∧ r.1 = t.word ∧ t.word.length ≤ 60)
theorem grow_range (g : Gr) : ∀ (f : Nat) (s : Int) (st : List Int) (t : Tree) (r : List Int), growF g f s st = some (t, r) → ∃ a, st = a ++ r ∧ ∀ k ∈ a, 0 ≤ k ∧ k < (g.2.2.2.length : Int)
  | 0, s, st, t, r, h => by cases h
  | f + 1, s, st, t, r, h => by
    by_cases hs : s < g.1
    · rw [growF_sym hs] at h
      injection h with h; injection h with h1 h2; subst h2
      exact ⟨[], rfl, fun k hk => (by cases hk)⟩
    · cases st with
      | nil => rw [growF_nil hs] at h; cases h
      | cons k st =>
        rw [growF_cons hs] at h
        split at h
        · rename_i hk
          have key : ∀ (L st : List Int) (y : List Tree × List Int × List Int), growL (growF g f) L st = some y → ∃ a, st = a ++ y.2.2 ∧ ∀ k ∈ a, 0 ≤ k ∧ k < (g.2.2.2.length : Int) := by
            intro L
            induction L with
            | nil =>
              intro st y h
              rw [growL] at h
              injection h with h; subst h
              exact ⟨[], rfl, fun k hk => (by cases hk)⟩
            | cons x L ih =>
              intro st y h
              rw [growL] at h
              cases h1 : growF g f x st with
              | none => rw [h1] at h; cases h
              | some z =>
                rw [h1] at h
                simp only [Option.bind_some] at h
                cases h2 : growL (growF g f) L z.2 with
                | none => rw [h2] at h; cases h
                | some q =>
                  rw [h2] at h
                  simp only [Option.bind_some] at h
                  injection h with h; subst h
                  obtain ⟨a, e1, m1⟩ := grow_range g f x st z.1 z.2 h1
                  obtain ⟨b, e2, m2⟩ := ih _ _ h2
                  refine ⟨a ++ b, ?_, fun k hk => ?_⟩
                  · rw [e1, e2, List.append_assoc]
                  · rcases List.mem_append.1 hk with h | h
                    · exact m1 k h
                    · exact m2 k h
          cases h1 : growL (growF g f) (g.2.2.2.getD k.toNat (0, [])).2 st with
          | none => rw [h1] at h; cases h
          | some y =>
            rw [h1] at h
            simp only [Option.bind_some] at h
            injection h with h; injection h with h2 h3
            obtain ⟨a, e1, m1⟩ := key _ _ _ h1
            rw [h3] at e1
            refine ⟨k :: a, by rw [e1]; rfl, fun x hx => ?_⟩
            rcases List.mem_cons.1 hx with e | hx
            · subst e; exact ⟨hk.1, hk.2.1⟩
            · exact m1 x hx
        · cases h
theorem VC30_of {st : List Int} {K : List Int × Int → Prop} (h : ∀ r, WordIs g st r → K r) : VC30 g st K := by
  unfold VC30
  refine VC51_of (fun e he hng => ⟨fun _ => h _ (.inl ⟨he, rfl, fun hh => hng hh.1⟩), fun h0 => ?_⟩) (fun hg => ⟨fun h0 => (by simp at h0), fun _ => ⟨fun hlong => h _ (.inl ⟨by simp, rfl, fun hh => ?_⟩), fun hshort => ?_⟩⟩)
  · simp at h0; exact absurd h0 he
  · simp only [decide_eq_true_eq] at hlong
    omega
  · simp only [decide_eq_false_iff_not] at hshort
    have hk := hg.k
    have hn := hg.n
    have hst := hg.start
    have hfew := hg.few
    refine VC59_of (fun x => decide (x < 0) || decide ((g.2.2.2.length : Int) ≤ x)) (by omega) (fun x hx K' hK' => hK') ⟨fun hany => h _ (.inl ⟨by simp, rfl, ?_⟩), fun hnone => ⟨by unfold InR; omega, VCr61_of hg (by omega) (by omega) (fun hno => ⟨fun _ => h _ (.inl ⟨by simp, rfl, ?_⟩), fun hh => (by simp at hh)⟩) (fun t r hsome ht hr => ⟨fun hbad => h _ (.inl ⟨by simp, rfl, ?_⟩), fun hgood => ⟨fun hbig => h _ (.inl ⟨by simp, rfl, ?_⟩), fun hsm => h _ (.inr ⟨rfl, hg, by omega, t, ?_, rfl, ?_⟩)⟩⟩)⟩⟩
    · rintro ⟨_, _, t, h1, _⟩
      obtain ⟨a, e, m⟩ := grow_range g 62 _ st t [] h1
      rw [List.append_nil] at e
      subst e
      rw [List.any_eq_true] at hany
      obtain ⟨x, hx, h2⟩ := hany
      have := m x hx
      simp only [Bool.or_eq_true, decide_eq_true_eq] at h2
      omega
    · rintro ⟨_, _, t, h1, _⟩
      rw [hno] at h1
      cases h1
    · rintro ⟨_, _, t', h1, _⟩
      rw [hsome] at h1
      injection h1 with h1; injection h1 with h1 h2
      subst h2
      simp at hbad
    · rintro ⟨_, _, t', h1, h3⟩
      rw [hsome] at h1
      injection h1 with h1; injection h1 with h1 h2
      subst h1
      simp only [decide_eq_true_eq] at hbig
      omega
    · have : r = [] := by
        simp only [Bool.not_true, Bool.false_or, decide_eq_false_iff_not] at hgood
        exact List.length_eq_zero_iff.1 (by omega)
      rw [hsome, this]
    · simp only [decide_eq_false_iff_not] at hsm
      omega
end
end Dec
