/-
  The operations that make or turn blocks of the function's own.
-/
import Derived.Test.YtjjlefbbdnfjiaaDecF
set_option linter.unusedSimpArgs false
set_option linter.unusedVariables false
namespace Dec
open Go Go.RowKit

/-! ### plain words -/

def V1.cls : V1 → Option (List Cl)
  | .c .any => none
  | .c x => some [x]
  | .agg cs => some cs

def Cl.isAny : Cl → Bool
  | .any => true
  | _ => false

/-- cells read as a datum of type t, and the cells behind -/
def coll : (t : Ty) → List Cl → Option (t.T × List Cl)
  | .int k, .p (.int k') x :: r => if k = k' then some (x, r) else none
  | .bool, .p .bool x :: r => some (x, r)
  | .sl t, .p (.sl t') x :: r => match Ty.same t' t with
    | some h => some (h.down ▸ x, r)
    | none => none
  | .sl _, .nils :: r => some ([], r)
  | .pr a b, l => match coll a l with
    | some (x, r) => match coll b r with
      | some (y, r') => some ((x, y), r')
      | none => none
    | none => none
  | _, _ => none

/-- a whole value read as a datum -/
def collV (t : Ty) (x : V1) : Option t.T :=
  match x.cls with
  | some cs => match coll t cs with
    | some (y, []) => some y
    | _ => none
  | none => none

/-- cells that hold a type's zero value -/
def zeroIs : (t : Ty) → List Value → Option (List Value)
  | .int k, .int k' n :: r => if k = k' then (if n == 0 then some r else none) else none
  | .bool, .bool false :: r => some r
  | .sl _, .slice none 0 0 :: r => some r
  | .pr a b, l => match zeroIs a l with
    | some r => zeroIs b r
    | none => none
  | _, _ => none

/-- the table's row of an element type: how many cells, bytes; its zero is the type's -/
def elemOk (P : Program) (e : TypeId) (t : Ty) : Bool :=
  match P.info? e with
  | some i => i.size == t.size && decide (i.bytes ≤ 32768) && (match i.zero with
    | some z => decide (z.cells.size = t.size) && (match zeroIs t z.cells.toList with | some [] => true | _ => false)
    | none => false)
  | none => false

section
variable {P : Program} {w : World} {G : Ghost}

theorem ClRep.oneCell {x : Cl} {v : Value} (h : ClRep w G x v) (hx : x.isAny = false) : v.oneCell' = true := by
  cases x with
  | p t x => exact Enc.one h v (by simp)
  | own r => obtain ⟨_, a, n, c, rfl⟩ := h; rfl
  | vw r lo n sz => obtain ⟨a, len, cap, c, a', _, _, _, _, rfl, _⟩ := h; rfl
  | ptr r off => obtain ⟨b, _, rfl⟩ := h; rfl
  | el r i sz => obtain ⟨g, n, c, _, _, rfl⟩ := h; rfl
  | ad t x => obtain ⟨b, off, cells, e, fz, cs, rfl, _⟩ := h; rfl
  | nils => have h' : v = .slice none 0 0 := h; subst h'; rfl
  | any => cases hx

theorem cells_of_one {v : Value} (h : v.oneCell' = true) : v.cells = #[v] := by
  cases v <;> first | rfl | (simp [Value.oneCell'] at h)

theorem V1Rep.cells {x : V1} {v : Value} {cs : List Cl} (h : V1Rep w G x v) (hc : x.cls = some cs) : All2 (ClRep w G) cs v.cells.toList := by
  unfold V1.cls at hc
  split at hc
  · cases hc
  · rename_i x hx
    injection hc with hc
    subst hc
    have h1 : ClRep w G x v := h
    rw [cells_of_one (h1.oneCell (by cases x <;> first | rfl | exact absurd rfl hx))]
    exact ⟨h1, trivial⟩
  · rename_i cs'
    injection hc with hc
    subst hc
    obtain ⟨vs, rfl, h2⟩ := h
    exact h2

theorem coll_rep : ∀ {t : Ty} {cs : List Cl} {vs : List Value} {x : t.T} {r : List Cl}, coll t cs = some (x, r) → All2 (ClRep w G) cs vs → ∃ c1 c2, vs = c1 ++ c2 ∧ Enc w G.S t x c1 ∧ All2 (ClRep w G) r c2
  | .int k, .p (.int k') y :: cs, v :: vs, x, r, h, h2 => by
    simp only [coll] at h
    split at h
    · rename_i hk; subst hk; injection h with h; injection h with e1 e2; subst e1 e2; exact ⟨[v], vs, rfl, h2.1, h2.2⟩
    · cases h
  | .bool, .p .bool y :: cs, v :: vs, x, r, h, h2 => by
    simp only [coll] at h
    injection h with h; injection h with e1 e2; subst e1 e2; exact ⟨[v], vs, rfl, h2.1, h2.2⟩
  | .sl t, .p (.sl t') y :: cs, v :: vs, x, r, h, h2 => by
    simp only [coll] at h
    split at h
    · rename_i hh _
      have := hh.down
      subst this
      injection h with h; injection h with e1 e2; subst e1 e2; exact ⟨[v], vs, rfl, h2.1, h2.2⟩
    · cases h
  | .sl t, .nils :: cs, v :: vs, x, r, h, h2 => by
    simp only [coll] at h
    injection h with h; injection h with e1 e2; subst e1 e2
    have hv : v = .slice none 0 0 := h2.1
    exact ⟨[v], vs, rfl, ⟨none, 0, by rw [hv]; rfl, Nat.le_refl _, Nat.zero_le _, .inl rfl⟩, h2.2⟩
  | .pr a b, cs, vs, x, r, h, h2 => by
    simp only [coll] at h
    split at h
    · rename_i x1 r1 h1
      split at h
      · rename_i y1 r2 h3
        injection h with h; injection h with e1 e2; subst e1 e2
        obtain ⟨c1, c2, rfl, k1, k2⟩ := coll_rep h1 h2
        obtain ⟨d1, d2, rfl, k3, k4⟩ := coll_rep h3 k2
        exact ⟨c1 ++ d1, d2, by rw [List.append_assoc], ⟨c1, d1, rfl, k1, k3⟩, k4⟩
      · cases h
    · cases h
  | .int _, [], _, _, _, h, _ => by simp [coll] at h
  | .bool, [], _, _, _, h, _ => by simp [coll] at h
  | .sl _, [], _, _, _, h, _ => by simp [coll] at h
  | .int _, _ :: _, [], _, _, _, h2 => h2.elim
  | .bool, _ :: _, [], _, _, _, h2 => h2.elim
  | .sl _, _ :: _, [], _, _, _, h2 => h2.elim
  | .int _, .p .bool _ :: _, _ :: _, _, _, h, _ => by simp [coll] at h
  | .int _, .p (.sl _) _ :: _, _ :: _, _, _, h, _ => by simp [coll] at h
  | .int _, .p (.pr _ _) _ :: _, _ :: _, _, _, h, _ => by simp [coll] at h
  | .int _, .own _ :: _, _ :: _, _, _, h, _ => by simp [coll] at h
  | .int _, .vw _ _ _ _ :: _, _ :: _, _, _, h, _ => by simp [coll] at h
  | .int _, .ptr _ _ :: _, _ :: _, _, _, h, _ => by simp [coll] at h
  | .int _, .el _ _ _ :: _, _ :: _, _, _, h, _ => by simp [coll] at h
  | .int _, .ad _ _ :: _, _ :: _, _, _, h, _ => by simp [coll] at h
  | .int _, .nils :: _, _ :: _, _, _, h, _ => by simp [coll] at h
  | .int _, .any :: _, _ :: _, _, _, h, _ => by simp [coll] at h
  | .bool, .p (.int _) _ :: _, _ :: _, _, _, h, _ => by simp [coll] at h
  | .bool, .p (.sl _) _ :: _, _ :: _, _, _, h, _ => by simp [coll] at h
  | .bool, .p (.pr _ _) _ :: _, _ :: _, _, _, h, _ => by simp [coll] at h
  | .bool, .own _ :: _, _ :: _, _, _, h, _ => by simp [coll] at h
  | .bool, .vw _ _ _ _ :: _, _ :: _, _, _, h, _ => by simp [coll] at h
  | .bool, .ptr _ _ :: _, _ :: _, _, _, h, _ => by simp [coll] at h
  | .bool, .el _ _ _ :: _, _ :: _, _, _, h, _ => by simp [coll] at h
  | .bool, .ad _ _ :: _, _ :: _, _, _, h, _ => by simp [coll] at h
  | .bool, .nils :: _, _ :: _, _, _, h, _ => by simp [coll] at h
  | .bool, .any :: _, _ :: _, _, _, h, _ => by simp [coll] at h
  | .sl _, .p (.int _) _ :: _, _ :: _, _, _, h, _ => by simp [coll] at h
  | .sl _, .p .bool _ :: _, _ :: _, _, _, h, _ => by simp [coll] at h
  | .sl _, .p (.pr _ _) _ :: _, _ :: _, _, _, h, _ => by simp [coll] at h
  | .sl _, .own _ :: _, _ :: _, _, _, h, _ => by simp [coll] at h
  | .sl _, .vw _ _ _ _ :: _, _ :: _, _, _, h, _ => by simp [coll] at h
  | .sl _, .ptr _ _ :: _, _ :: _, _, _, h, _ => by simp [coll] at h
  | .sl _, .el _ _ _ :: _, _ :: _, _, _, h, _ => by simp [coll] at h
  | .sl _, .ad _ _ :: _, _ :: _, _, _, h, _ => by simp [coll] at h
  | .sl _, .any :: _, _ :: _, _, _, h, _ => by simp [coll] at h

theorem collV_rep {t : Ty} {x : V1} {v : Value} {y : t.T} (h : collV t x = some y) (hx : V1Rep w G x v) : Enc w G.S t y v.cells.toList := by
  unfold collV at h
  split at h
  · rename_i cs hcs
    split at h
    · rename_i y' hc
      injection h with h; subst h
      obtain ⟨c1, c2, e, h1, h2⟩ := coll_rep hc (hx.cells hcs)
      have : c2 = [] := by cases c2 with | nil => rfl | cons => exact h2.elim
      subst this
      rw [e, List.append_nil]
      exact h1
    · cases h
  · cases h

theorem zeroIs_rep {S : Nat → Prop} : ∀ {t : Ty} {vs r : List Value}, zeroIs t vs = some r → ∃ c, vs = c ++ r ∧ Enc w S t t.d c
  | .int k, .int k' n :: vs, r, h => by
    simp only [zeroIs] at h
    split at h
    · rename_i hk
      subst hk
      split at h
      · rename_i hn
        injection h with h; subst h
        have : n = 0 := by simpa using hn
        subst this
        refine ⟨[.int k 0], rfl, rfl, ?_, ?_⟩ <;> cases k <;> decide
      · cases h
    · cases h
  | .bool, .bool false :: vs, r, h => by
    simp only [zeroIs] at h; injection h with h; subst h; exact ⟨[.bool false], rfl, rfl⟩
  | .sl t, .slice none 0 0 :: vs, r, h => by
    simp only [zeroIs] at h; injection h with h; subst h
    exact ⟨[.slice none 0 0], rfl, none, 0, rfl, Nat.le_refl _, Nat.zero_le _, .inl rfl⟩
  | .pr a b, vs, r, h => by
    simp only [zeroIs] at h
    split at h
    · rename_i r1 h1
      obtain ⟨c1, e1, k1⟩ := zeroIs_rep h1
      obtain ⟨c2, e2, k2⟩ := zeroIs_rep h
      exact ⟨c1 ++ c2, by rw [e1, e2, List.append_assoc], c1, c2, rfl, k1, k2⟩
    · cases h
  | .int _, [], _, h => by simp [zeroIs] at h
  | .bool, [], _, h => by simp [zeroIs] at h
  | .sl _, [], _, h => by simp [zeroIs] at h
  | .int _, .bool _ :: _, _, h => by simp [zeroIs] at h
  | .int _, .float _ _ :: _, _, h => by simp [zeroIs] at h
  | .int _, .complex _ _ _ :: _, _, h => by simp [zeroIs] at h
  | .int _, .string _ :: _, _, h => by simp [zeroIs] at h
  | .int _, .pointer _ :: _, _, h => by simp [zeroIs] at h
  | .int _, .slice _ _ _ :: _, _, h => by simp [zeroIs] at h
  | .int _, .map _ :: _, _, h => by simp [zeroIs] at h
  | .int _, .chan _ :: _, _, h => by simp [zeroIs] at h
  | .int _, .func _ _ _ :: _, _, h => by simp [zeroIs] at h
  | .int _, .nilFunc :: _, _, h => by simp [zeroIs] at h
  | .int _, .iface _ _ :: _, _, h => by simp [zeroIs] at h
  | .int _, .nilIface :: _, _, h => by simp [zeroIs] at h
  | .int _, .agg _ :: _, _, h => by simp [zeroIs] at h
  | .int _, .tuple _ :: _, _, h => by simp [zeroIs] at h
  | .bool, .bool true :: _, _, h => by simp [zeroIs] at h
  | .bool, .int _ _ :: _, _, h => by simp [zeroIs] at h
  | .bool, .float _ _ :: _, _, h => by simp [zeroIs] at h
  | .bool, .complex _ _ _ :: _, _, h => by simp [zeroIs] at h
  | .bool, .string _ :: _, _, h => by simp [zeroIs] at h
  | .bool, .pointer _ :: _, _, h => by simp [zeroIs] at h
  | .bool, .slice _ _ _ :: _, _, h => by simp [zeroIs] at h
  | .bool, .map _ :: _, _, h => by simp [zeroIs] at h
  | .bool, .chan _ :: _, _, h => by simp [zeroIs] at h
  | .bool, .func _ _ _ :: _, _, h => by simp [zeroIs] at h
  | .bool, .nilFunc :: _, _, h => by simp [zeroIs] at h
  | .bool, .iface _ _ :: _, _, h => by simp [zeroIs] at h
  | .bool, .nilIface :: _, _, h => by simp [zeroIs] at h
  | .bool, .agg _ :: _, _, h => by simp [zeroIs] at h
  | .bool, .tuple _ :: _, _, h => by simp [zeroIs] at h
  | .sl _, .slice (some _) _ _ :: _, _, h => by simp [zeroIs] at h
  | .sl _, .slice none (_ + 1) _ :: _, _, h => by simp [zeroIs] at h
  | .sl _, .slice none 0 (_ + 1) :: _, _, h => by simp [zeroIs] at h
  | .sl _, .bool _ :: _, _, h => by simp [zeroIs] at h
  | .sl _, .int _ _ :: _, _, h => by simp [zeroIs] at h
  | .sl _, .float _ _ :: _, _, h => by simp [zeroIs] at h
  | .sl _, .complex _ _ _ :: _, _, h => by simp [zeroIs] at h
  | .sl _, .string _ :: _, _, h => by simp [zeroIs] at h
  | .sl _, .pointer _ :: _, _, h => by simp [zeroIs] at h
  | .sl _, .map _ :: _, _, h => by simp [zeroIs] at h
  | .sl _, .chan _ :: _, _, h => by simp [zeroIs] at h
  | .sl _, .func _ _ _ :: _, _, h => by simp [zeroIs] at h
  | .sl _, .nilFunc :: _, _, h => by simp [zeroIs] at h
  | .sl _, .iface _ _ :: _, _, h => by simp [zeroIs] at h
  | .sl _, .nilIface :: _, _, h => by simp [zeroIs] at h
  | .sl _, .agg _ :: _, _, h => by simp [zeroIs] at h
  | .sl _, .tuple _ :: _, _, h => by simp [zeroIs] at h

theorem elemOk_spec {e : TypeId} {t : Ty} (h : elemOk P e t = true) : ∃ i z, P.info? e = some i ∧ i.size = t.size ∧ i.bytes ≤ 32768 ∧ i.zero = some z ∧ z.cells.size = t.size ∧ ∀ (w : World) (S : Nat → Prop), Enc w S t t.d z.cells.toList := by
  unfold elemOk at h
  split at h
  · rename_i i hi
    simp only [Bool.and_eq_true, beq_iff_eq, decide_eq_true_eq] at h
    obtain ⟨⟨h1, h2⟩, h3⟩ := h
    split at h3
    · rename_i z hz
      simp only [Bool.and_eq_true, decide_eq_true_eq] at h3
      refine ⟨i, z, hi, h1, h2, hz, h3.1, fun w S => ?_⟩
      have h4 := h3.2
      split at h4
      · rename_i hzz
        obtain ⟨c, e1, e2⟩ := zeroIs_rep (w := w) (S := S) hzz
        rw [e1, List.append_nil]
        exact e2
      · cases h4
    · cases h3
  · cases h

theorem madeCells_flat (z : Array Value) (hz : 0 < z.size) : ∀ n : Nat, (madeCells z (n * z.size)).toList = (List.replicate n z.toList).flatten := by
  intro n
  induction n with
  | zero => simp [madeCells]
  | succ n ih =>
    rw [List.replicate_succ', List.flatten_append, ← ih]
    have : (n + 1) * z.size = n * z.size + z.size := by rw [Nat.add_mul]; omega
    rw [this]
    unfold madeCells
    apply List.ext_getElem
    · simp
    · intro i h1 h2
      simp only [Array.toList_map, Array.toList_range, List.length_map, List.length_range] at h1
      simp only [Array.toList_map, Array.toList_range, List.getElem_map, List.getElem_range, List.flatten_cons, List.flatten_nil, List.append_nil]
      rw [List.getElem_append]
      split
      · rename_i h3
        simp
      · rename_i h3
        simp only [List.length_map, List.length_range] at h3 ⊢
        have hm : i % z.size = i - n * z.size := by
          have : i = (i - n * z.size) + z.size * n := by rw [Nat.mul_comm z.size n]; omega
          rw [this, Nat.add_mul_mod_self_left, Nat.mod_eq_of_lt (by omega), Nat.mul_comm z.size n]; omega
        rw [hm, getElem!_pos z (i - n * z.size) (by omega)]
        simp
end
end Dec
