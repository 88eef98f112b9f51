/-
  Powers in a finite set of actions, and the least machine of a complement: plain Lean.
-/
import Derived.Test.YtfigkkmiallghaaKSame
import Derived.Test.YtfigkkmiallghaaMaps
set_option linter.unusedSimpArgs false
set_option linter.unusedVariables false
namespace Dec
open Go Go.Proofs

/-! ### lists without repetition -/

theorem nodup_le {α : Type} [DecidableEq α] {a b : List α} (ha : a.Nodup) (hb : ∀ x, x ∈ a → x ∈ b) : a.length ≤ b.length := by
  rcases Nat.eq_zero_or_pos a.length with h0 | h0
  · omega
  have hget : ∀ i, i < a.length → a[i]? ≠ none := by intro i hi; rw [List.getElem?_eq_getElem hi]; simp
  refine pigeon b.length a.length (fun i => match a[i]? with | some x => b.idxOf x | none => 0) (fun i hi => ?_) fun i j hij hj e => ?_
  · rw [List.getElem?_eq_getElem hi]
    exact List.idxOf_lt_length_of_mem (hb _ (List.getElem_mem hi))
  · simp only [List.getElem?_eq_getElem (show i < a.length by omega), List.getElem?_eq_getElem hj] at e
    have h1 := List.idxOf_lt_length_of_mem (hb _ (List.getElem_mem (show i < a.length by omega)))
    have h2 := List.idxOf_lt_length_of_mem (hb _ (List.getElem_mem hj))
    have e1 : b[b.idxOf a[i]]'h1 = a[i] := List.getElem_idxOf h1
    have e2 : b[b.idxOf a[j]]'h2 = a[j] := List.getElem_idxOf h2
    have e3 : a[i] = a[j] := by rw [← e1, ← e2]; congr 1
    have := (List.nodup_iff_pairwise_ne.1 ha)
    rw [List.pairwise_iff_getElem] at this
    exact this i j (by omega) hj hij e3

/-! ### the complement has the same classes -/

theorem not_run (m : Mach) (q : Int) (w : List Int) : runM (notM m) q w = runM m q w := rfl

theorem not_acc {m : Mach} (hm : Ok MachT m) (g : GoodM m) {q : Int} (hq : 0 ≤ q ∧ q < m.1) {w : List Int} (hw : SymW m.2.1 w) : accM (notM m) q w = !accM m q w := by
  unfold accM
  rw [not_run]
  exact not_bit hm g (run_good g hq hw)

theorem not_eqM {m : Mach} (hm : Ok MachT m) (g : GoodM m) {x y : Int} (hx : 0 ≤ x ∧ x < m.1) (hy : 0 ≤ y ∧ y < m.1) : EqM (notM m) x y ↔ EqM m x y := by
  have hk : (notM m).2.1 = m.2.1 := rfl
  constructor
  · intro h w hw
    have := h w hw
    rw [not_acc hm g hx hw, not_acc hm g hy hw] at this
    simpa using this
  · intro h w hw
    rw [not_acc hm g hx hw, not_acc hm g hy hw, h w hw]

theorem not_clI {m : Mach} (hm : Ok MachT m) (g : GoodM m) {i : Nat} (hi : (i : Int) < m.1) : clI (notM m) i = clI m i := by
  obtain ⟨a1, a2, a3⟩ := clI_spec m i
  obtain ⟨b1, b2, b3⟩ := clI_spec (notM m) i
  rcases Nat.lt_trichotomy (clI (notM m) i) (clI m i) with h | h | h
  · exact absurd ((not_eqM hm g ⟨by omega, by omega⟩ ⟨by omega, by omega⟩).1 b2) (a3 _ h)
  · exact h
  · exact absurd ((not_eqM hm g ⟨by omega, by omega⟩ ⟨by omega, by omega⟩).2 a2) (b3 _ h)

theorem not_clM {m : Mach} (hm : Ok MachT m) (g : GoodM m) : clM (notM m) = clM m := by
  unfold clM
  refine List.map_congr_left fun i hi => ?_
  have h1 : i < m.1.toNat := List.mem_range.1 hi
  rw [not_clI hm g (by omega)]

theorem not_rowStep (m : Mach) (cl : List Int) (x : Int) : ∀ s found, rowStep (notM m) cl x s found = rowStep m cl x s found
  | 0, found => rfl
  | s + 1, found => by
    unfold rowStep
    rw [not_rowStep m cl x s found]
    rfl

theorem not_stL (m : Mach) (cl : List Int) : ∀ i, (stL (notM m) cl i).2 = (stL m cl i).2
  | 0 => rfl
  | i + 1 => by
    have ih := not_stL m cl i
    unfold stL
    rw [ih]
    split
    · unfold stepL
      dsimp only
      rw [ih, not_rowStep]
      rfl
    · exact ih

theorem not_least {m : Mach} (hm : Ok MachT m) (g : GoodM m) : (leastF (notM m)).1 = (leastF m).1 ∧ (leastF (notM m)).2.1 = (leastF m).2.1 ∧ (leastF (notM m)).2.2.1 = (leastF m).2.2.1 := by
  rw [leastF_eq, leastF_eq, not_clM hm g]
  unfold mkL
  dsimp only
  rw [not_stL m (clM m) 7]
  exact ⟨rfl, rfl, rfl⟩

theorem ofA_same {a b : Mach} (h1 : a.1 = b.1) (h2 : a.2.2.1 = b.2.2.1) (w : List Int) : ofA a w = ofA b w := by
  unfold ofA runM nextM
  rw [h1, h2]

/-! ### powers -/

/-- an action many times -/
def powA (a : List Int) : Nat → List Int
  | 0 => tab7 fun i => (i : Int)
  | n + 1 => afterA (powA a n) a

def repW (w : List Int) : Nat → List Int
  | 0 => []
  | n + 1 => repW w n ++ w

theorem repW_sym {k : Int} {w : List Int} (hw : SymW k w) : ∀ n, SymW k (repW w n)
  | 0 => by intro s hs; simp [repW] at hs
  | n + 1 => by
    intro s hs
    rcases List.mem_append.1 hs with h | h
    · exact repW_sym hw n s h
    · exact hw s h

theorem repW_len (w : List Int) : ∀ n, (repW w n).length = n * w.length
  | 0 => by simp [repW]
  | n + 1 => by rw [repW, List.length_append, repW_len w n, Nat.add_mul, Nat.one_mul]

theorem ofA_app {m : Mach} (g : GoodM m) {u v : List Int} (hu : SymW m.2.1 u) : afterA (ofA m u) (ofA m v) = ofA m (u ++ v) := by
  unfold afterA
  rw [show ofA m (u ++ v) = tab7 (fun i => if (i : Int) < m.1 then runM m (i : Int) (u ++ v) else (i : Int)) from rfl]
  refine tab7_ext fun i hi => ?_
  have h7 := g.1.2.1
  have e1 : (ofA m u).getD i 0 = if (i : Int) < m.1 then runM m (i : Int) u else (i : Int) := by rw [ofA, tab7_get _ hi]
  rw [e1]
  by_cases h : (i : Int) < m.1
  · rw [if_pos h, if_pos h]
    have hr := run_good g ⟨by omega, h⟩ hu
    rw [ofA, tab7_get _ (by omega)]
    have e2 : (((runM m (i : Int) u).toNat : Nat) : Int) = runM m (i : Int) u := by omega
    rw [e2, if_pos hr.2, runM_append]
  · rw [if_neg h, if_neg h, Int.toNat_natCast, ofA, tab7_get _ hi, if_neg h]

theorem powA_of {m : Mach} (g : GoodM m) {w : List Int} (hw : SymW m.2.1 w) : ∀ n, powA (ofA m w) n = ofA m (repW w n)
  | 0 => by rw [powA, repW, ofA_nil]
  | n + 1 => by rw [powA, powA_of g hw n, ofA_app g (repW_sym hw n)]; rfl

theorem powA_len (a : List Int) : ∀ n, (powA a n).length = 7
  | 0 => tab7_len _
  | n + 1 => tab7_len _

theorem powA_step {a : List Int} {i j : Nat} (h : powA a i = powA a j) : ∀ t, powA a (i + t) = powA a (j + t)
  | 0 => h
  | t + 1 => by rw [← Nat.add_assoc, ← Nat.add_assoc, powA, powA, powA_step h t]

theorem powA_loop {a : List Int} {i p : Nat} (h : powA a i = powA a (i + p)) : ∀ k t, powA a (i + t) = powA a (i + t + k * p)
  | 0, t => by simp
  | k + 1, t => by
    rw [powA_loop h k t]
    have := powA_step h (t + k * p)
    rw [← Nat.add_assoc] at this
    rw [this]
    congr 1
    rw [Nat.add_mul, Nat.one_mul]
    omega

/-- powers that stand still somewhere, inside n actions, stand still from the n-th on -/
theorem powA_still {a : List Int} {A : List (List Int)} {M : Nat} (hin : ∀ n, powA a n ∈ A) (hM : powA a M = powA a (M + 1)) : powA a A.length = powA a (A.length + 1) := by
  have hrep : ∃ i j, i < j ∧ j ≤ A.length ∧ powA a i = powA a j := by
    refine Classical.byContradiction fun hno => ?_
    have := pigeon A.length (A.length + 1) (fun i => A.idxOf (powA a i)) (fun i hi => List.idxOf_lt_length_of_mem (hin i)) (fun i j hij hj e => ?_)
    · omega
    · refine hno ⟨i, j, hij, by omega, ?_⟩
      have h1 := List.idxOf_lt_length_of_mem (hin i)
      have h2 := List.idxOf_lt_length_of_mem (hin j)
      have e1 : A[A.idxOf (powA a i)]'h1 = powA a i := List.getElem_idxOf h1
      have e2 : A[A.idxOf (powA a j)]'h2 = powA a j := List.getElem_idxOf h2
      rw [← e1, ← e2]
      congr 1
  obtain ⟨i, j, hij, hj, e⟩ := hrep
  have hup : ∀ t, powA a (M + t) = powA a (M + t + 1) := by
    intro t
    have := powA_step hM t
    rw [this]
    congr 1
    omega
  have hp : 1 ≤ j - i := by omega
  have e' : powA a i = powA a (i + (j - i)) := by rw [show i + (j - i) = j by omega]; exact e
  have hl := powA_loop e'
  have hi1 : powA a i = powA a (i + 1) := by
    have h1 := hl M 0
    have h2 := hl M 1
    have h3 : M ≤ M * (j - i) := Nat.le_mul_of_pos_right M hp
    rw [Nat.add_zero] at h1
    rw [h1, h2]
    have := hup (i + M * (j - i) - M)
    rw [show M + (i + M * (j - i) - M) = i + M * (j - i) by omega] at this
    rw [this]
    congr 1
    omega
  have := powA_step hi1 (A.length - i)
  rw [show i + (A.length - i) = A.length by omega, show i + 1 + (A.length - i) = A.length + 1 by omega] at this
  exact this
end Dec
