/-
  The least machine in plain Lean: it is one, and takes the same words.
-/
import Derived.Test.YtfigkkmiallghaaLeastB
set_option linter.unusedSimpArgs false
set_option linter.unusedVariables false
namespace Dec
open Go Go.Proofs

abbrev LSt := Int × List Int × List (List Int)
/-- the machine of what is built -/
def mkL (m : Mach) (S : LSt) : Mach := ((S.2.1.length : Int), (m.2.1, (S.2.2, ((0 : Int), S.1))))

theorem mkL_few {m : Mach} {S : LSt} (g : GoodM m) (h : LInv m S.2.1.length S) : 1 ≤ (mkL m S).1 ∧ (mkL m S).1 ≤ m.1 := by
  have h1 := h.first.1
  have h2 := h.found.few
  have h3 := g.1.1
  show 1 ≤ (S.2.1.length : Int) ∧ (S.2.1.length : Int) ≤ m.1
  omega

theorem mkL_good {m : Mach} {S : LSt} (g : GoodM m) (h : LInv m S.2.1.length S) : GoodM (mkL m S) := by
  have hf := mkL_few g h
  obtain ⟨⟨a1, a2, a3, a4⟩, b, c, d, e⟩ := id g
  have hrows : ∀ l ∈ S.2.2, ∃ j, j < S.2.1.length ∧ l = S.2.2.getD j [] := by
    intro l hl
    obtain ⟨j, hj, rfl⟩ := List.mem_iff_getElem.1 hl
    exact ⟨j, by rw [h.rows] at hj; exact hj, (getD_lt _ hj).symm⟩
  have hrl := h.rows
  refine ⟨⟨hf.1, by omega, a3, a4⟩, ⟨?_, ?_⟩, ?_, ⟨Int.le_refl 0, by have := hf.1; show (0 : Int) < (mkL m S).1; omega⟩, ?_⟩
  · show ((S.2.2.length : Nat) : Int) = (S.2.1.length : Int)
    rw [hrl]
  · intro l hl
    obtain ⟨j, hj, rfl⟩ := hrows l hl
    have := (h.row j hj).1
    show ((S.2.2.getD j []).length : Int) = m.2.1
    omega
  · intro l hl n hn
    obtain ⟨j, hj, rfl⟩ := hrows l hl
    obtain ⟨u, hu, rfl⟩ := List.mem_iff_getElem.1 hn
    obtain ⟨k1, k2⟩ := h.row j hj
    have := (k2 u (by omega)).1
    rw [getD_lt _ hu] at this
    exact this
  · unfold mE
    show S.1 < ((2 ^ (S.2.1.length : Int).toNat : Nat) : Int)
    rw [Int.toNat_natCast, below_bt h.u32]
    intro j hj
    rw [h.bit j]
    have : ¬ j < S.2.1.length := by omega
    simp [this]

theorem mkL_ok {m : Mach} {S : LSt} (g : GoodM m) (h : LInv m S.2.1.length S) : Ok MachT (mkL m S) := ok_of_good (mkL_good g h) h.u32

theorem mkL_next {m : Mach} {S : LSt} (g : GoodM m) (h : LInv m S.2.1.length S) {p s : Int} (hp : 0 ≤ p ∧ p < (mkL m S).1) (hs : 0 ≤ s ∧ s < m.2.1) :
    S.2.1.getD (nextM (mkL m S) p s).toNat 0 = (clM m).getD (nextM m (S.2.1.getD p.toNat 0) s).toNat 0 ∧ EqM m (nextM m (S.2.1.getD p.toNat 0) s) (S.2.1.getD (nextM (mkL m S) p s).toNat 0) := by
  have hp' : p < (S.2.1.length : Int) := hp.2
  have hpl : p.toNat < S.2.1.length := by omega
  obtain ⟨u, rfl⟩ : ∃ u : Nat, s = (u : Int) := ⟨s.toNat, by omega⟩
  obtain ⟨k1, k2⟩ := h.row p.toNat hpl
  have k3 := (k2 u hs.2).2
  have hx := (h.found.rep p.toNat hpl).1
  have hcl := cl_good (m := m) (next_good g hx hs)
  have e : nextM (mkL m S) p (u : Int) = (S.2.2.getD p.toNat []).getD u 0 := rfl
  rw [e, k3]
  exact ⟨rfl, hcl.2.2⟩

theorem mkL_bit {m : Mach} {S : LSt} (g : GoodM m) (h : LInv m S.2.1.length S) {p : Int} (hp : 0 ≤ p ∧ p < (mkL m S).1) : bt (mkL m S).2.2.2.2 p.toNat = bt m.2.2.2.2 (S.2.1.getD p.toNat 0).toNat := by
  have hp' : p < (S.2.1.length : Int) := hp.2
  have hpl : p.toNat < S.2.1.length := by omega
  have := h.bit p.toNat
  rw [show decide (p.toNat < S.2.1.length) = true by simp [hpl], Bool.true_and] at this
  exact this

theorem mkL_acc {m : Mach} {S : LSt} (g : GoodM m) (h : LInv m S.2.1.length S) : ∀ {w : List Int} {p : Int}, (0 ≤ p ∧ p < (mkL m S).1) → SymW m.2.1 w → accM (mkL m S) p w = accM m (S.2.1.getD p.toNat 0) w
  | [], p, hp, _ => mkL_bit g h hp
  | s :: w, p, hp, hw => by
    have hs := hw s (by simp)
    have hw' : SymW m.2.1 w := fun z hz => hw z (by simp [hz])
    have hn := next_good (mkL_good g h) hp (s := s) hs
    have h1 := mkL_acc g h (w := w) hn hw'
    have h2 := (mkL_next g h hp hs).2 w hw'
    show accM (mkL m S) (nextM (mkL m S) p s) w = accM m (nextM m _ s) w
    rw [h1, h2]

theorem mkL_lang {m : Mach} {S : LSt} (g : GoodM m) (h : LInv m S.2.1.length S) {w : List Int} (hw : SymW m.2.1 w) : accM (mkL m S) 0 w = accM m m.2.2.2.1 w := by
  have hf := (mkL_few g h).1
  have hcl := cl_good (m := m) g.2.2.2.1
  rw [mkL_acc g h ⟨Int.le_refl 0, by omega⟩ hw]
  have e : S.2.1.getD (0 : Int).toNat 0 = (clM m).getD m.2.2.2.1.toNat 0 := h.first.2
  rw [e]
  exact (hcl.2.2 w hw).symm

theorem least_le {m : Mach} (g : GoodM m) (n : Nat) (hn : m.1.toNat ≤ n) : (stL m (clM m) n).2.1.length ≤ m.1.toNat := by
  have h := stL_inv g n
  exact h.found.few

theorem minr {n l : Nat} (h : l ≤ n) : min n l = l := Nat.min_eq_right h

theorem least_inv' {m : Mach} (g : GoodM m) (n : Nat) (hn : m.1.toNat ≤ n) : LInv m (stL m (clM m) n).2.1.length (stL m (clM m) n) := by
  have h := stL_inv g n
  have e := minr (Nat.le_trans (least_le g n hn) hn)
  rw [e] at h
  exact h

theorem seven {m : Mach} (g : GoodM m) : m.1.toNat ≤ 7 := by have := g.1.2.1; omega

theorem least_inv {m : Mach} (g : GoodM m) : LInv m (stL m (clM m) 7).2.1.length (stL m (clM m) 7) := least_inv' g 7 (seven g)

theorem leastF_eq (m : Mach) : leastF m = mkL m (stL m (clM m) 7) := by unfold leastF mkL; rfl

theorem least_few {m : Mach} (g : GoodM m) : 1 ≤ (leastF m).1 ∧ (leastF m).1 ≤ m.1 := by rw [leastF_eq]; exact mkL_few g (least_inv g)
theorem least_good {m : Mach} (g : GoodM m) : GoodM (leastF m) := by rw [leastF_eq]; exact mkL_good g (least_inv g)
theorem least_ok {m : Mach} (g : GoodM m) : Ok MachT (leastF m) := by rw [leastF_eq]; exact mkL_ok g (least_inv g)
theorem mkL_k (m : Mach) (S : LSt) : (mkL m S).2.1 = m.2.1 := rfl
theorem mkL_start (m : Mach) (S : LSt) : (mkL m S).2.2.2.1 = 0 := rfl
theorem least_k (m : Mach) : (leastF m).2.1 = m.2.1 := by rw [leastF_eq]; exact mkL_k m _
theorem least_start (m : Mach) : (leastF m).2.2.2.1 = 0 := by rw [leastF_eq]; exact mkL_start m _
theorem least_lang {m : Mach} (g : GoodM m) {w : List Int} (hw : SymW m.2.1 w) : accM (leastF m) 0 w = accM m m.2.2.2.1 w := by rw [leastF_eq]; exact mkL_lang g (least_inv g) hw
end Dec
