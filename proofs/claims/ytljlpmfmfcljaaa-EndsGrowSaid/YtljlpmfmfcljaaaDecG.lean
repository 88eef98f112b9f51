/-
The operations that make or turn blocks of the function's own.
-/
import Derived.Test.YtljlpmfmfcljaaaDecF
set_option linter.unusedSimpArgs false
set_option linter.unusedVariables false
namespace Dec
open Go Go.RowKit
/-! ### plain words -/
def V1.cls : V1 → Option (List Cl)
  | .c .any => none
  | .c x => some [x]
  | .agg cs => some cs
def Cl.isAny : Cl → Bool
  | .any => true
  | _ => false
def leaf (t : Ty) (c : Cl) : Option t.T :=
  match c with
  | .p t' x => match Ty.same t' t with
    | some h => some (h.down ▸ x)
    | none => none
  | .nils => match t with
    | .sl _ => some []
    | _ => none
  | .nilm => match t with
    | .mp _ _ => some []
    | _ => none
  | _ => none
def collN {α : Type} (f : List Cl → Option (α × List Cl)) : Nat → List Cl → Option (List α × List Cl)
  | 0, l => some ([], l)
  | n + 1, l => match f l with
    | some (x, r) => match collN f n r with
      | some (xs, r') => some (x :: xs, r')
      | none => none
    | none => none
def leafC (t : Ty) : List Cl → Option (t.T × List Cl)
  | [] => none
  | c :: r => match leaf t c with
    | some x => some (x, r)
    | none => none
def coll : (t : Ty) → List Cl → Option (t.T × List Cl)
  | .int k, l => leafC (.int k) l
  | .bool, l => leafC .bool l
  | .sl t, l => leafC (.sl t) l
  | .mp k v, l => leafC (.mp k v) l
  | .pr a b, l => match coll a l with
    | some (x, r) => match coll b r with
      | some (y, r') => some ((x, y), r')
      | none => none
    | none => none
  | .ar n t, l => collN (coll t) (n + 1) l
  | .tr, l => match leafC (.int .i64) l with
    | some (r, l1) => match leafC (.sl .tr) l1 with
      | some (k, l2) => match leafC (.sl (.int .i64)) l2 with
        | some (w, l3) => some (.node r k w, l3)
        | none => none
      | none => none
    | none => none
def collV (t : Ty) (x : V1) : Option t.T :=
  match x.cls with
  | some cs => match coll t cs with
    | some (y, []) => some y
    | _ => none
  | none => none
def zeroN (f : List Value → Option (List Value)) : Nat → List Value → Option (List Value)
  | 0, l => some l
  | n + 1, l => match f l with
    | some r => zeroN f n r
    | none => none
def zeroIs : (t : Ty) → List Value → Option (List Value)
  | .int k, l => match l with
    | .int k' n :: r => if k = k' then (if n == 0 then some r else none) else none
    | _ => none
  | .bool, l => match l with
    | .bool false :: r => some r
    | _ => none
  | .sl _, l => match l with
    | .slice none 0 0 :: r => some r
    | _ => none
  | .mp _ _, l => match l with
    | .map none :: r => some r
    | _ => none
  | .pr a b, l => match zeroIs a l with
    | some r => zeroIs b r
    | none => none
  | .ar n t, l => zeroN (zeroIs t) (n + 1) l
  | .tr, l => match l with
    | .int k n :: .slice none 0 0 :: .slice none 0 0 :: r => if k = .i64 then (if n == 0 then some r else none) else none
    | _ => none
def elemOk (P : Program) (e : TypeId) (t : Ty) : Bool :=
  match P.info? e with
  | some i => i.size == t.size && decide (i.bytes ≤ 128 ∧ i.bytes ≤ wid t) && (match i.zero with
    | some z => decide (z.cells.size = t.size) && (match zeroIs t z.cells.toList with | some [] => true | _ => false)
    | none => false)
  | none => false
section
variable {P : Program} {w : World} {G : Ghost}
theorem ClRep.oneCell {x : Cl} {v : Value} (h : ClRep w G x v) (hx : x.isAny = false) : v.oneCell' = true := by
  cases x with
  | p t x => exact Enc.one h v (by simp)
  | own r => rcases h with ⟨_, ⟨a, n, c, rfl⟩ | ⟨g, rfl⟩⟩ <;> rfl
  | vw r lo n sz => obtain ⟨a, len, cap, c, a', _, _, _, _, rfl, _⟩ := h; rfl
  | ptr r off => obtain ⟨b, _, rfl⟩ := h; rfl
  | el r i sz => obtain ⟨g, n, c, _, _, rfl⟩ := h; rfl
  | elf r i sz off => obtain ⟨g, n, c, _, _, rfl⟩ := h; rfl
  | elv r i sz off n => obtain ⟨g, _, _, rfl⟩ := h; rfl
  | ep r q off => obtain ⟨g, o, _, rfl⟩ := h; rfl
  | yv r => obtain ⟨_, l, rfl⟩ := h; rfl
  | ad t x => obtain ⟨b, off, cells, e, fz, cs, rfl, _⟩ := h; rfl
  | nils => have h' : v = .slice none 0 0 := h; subst h'; rfl
  | nilm => have h' : v = .map none := h; subst h'; rfl
  | fn f caps => obtain ⟨vs, rfl, _⟩ := h; rfl
  | cl f caps => obtain ⟨vs, rfl, _⟩ := h; rfl
  | any => cases hx
theorem cells_of_one {v : Value} (h : v.oneCell' = true) : v.cells = #[v] := by
  cases v <;> first | rfl | (simp [Value.oneCell'] at h)
theorem V1Rep.cells {x : V1} {v : Value} {cs : List Cl} (h : V1Rep w G x v) (hc : x.cls = some cs) : All2 (ClRep w G) cs v.cells.toList := by
  unfold V1.cls at hc
  split at hc
  · cases hc
  · rename_i x hx
    injection hc with hc
    subst hc
    have h1 : ClRep w G x v := h
    rw [cells_of_one (h1.oneCell (by cases x <;> first | rfl | exact absurd rfl hx))]
    exact ⟨h1, trivial⟩
  · rename_i cs'
    injection hc with hc
    subst hc
    obtain ⟨vs, rfl, h2⟩ := h
    exact h2
theorem leaf_rep {t : Ty} {c : Cl} {v : Value} {x : t.T} (h : leaf t c = some x) (hc : ClRep w G c v) : Enc w G.S t x [v] := by
  unfold leaf at h
  split at h
  · split at h
    · rename_i t' y hh _
      have := hh.down
      subst this
      injection h with h; subst h
      exact hc
    · cases h
  · have hv : v = .slice none 0 0 := hc
    split at h
    · injection h with h; subst h
      exact ⟨none, 0, by rw [hv]; rfl, Nat.le_refl _, Nat.zero_le _, .inl rfl⟩
    · cases h
  · have hv : v = .map none := hc
    split at h
    · injection h with h; subst h
      exact .inl ⟨by rw [hv], rfl⟩
    · cases h
  · cases h
theorem leafC_rep {t : Ty} {cs : List Cl} {vs : List Value} {x : t.T} {r : List Cl} (h : leafC t cs = some (x, r)) (h2 : All2 (ClRep w G) cs vs) : ∃ c1 c2, vs = c1 ++ c2 ∧ Enc w G.S t x c1 ∧ All2 (ClRep w G) r c2 := by
  cases cs with
  | nil => simp [leafC] at h
  | cons c cs =>
    cases vs with
    | nil => exact h2.elim
    | cons v vs =>
      simp only [leafC] at h
      split at h
      · rename_i y hy
        injection h with h; injection h with e1 e2; subst e1 e2
        exact ⟨[v], vs, rfl, leaf_rep hy h2.1, h2.2⟩
      · cases h
theorem collN_rep {t : Ty} {f : List Cl → Option (t.T × List Cl)} (hf : ∀ {cs : List Cl} {vs : List Value} {x : t.T} {r : List Cl}, f cs = some (x, r) → All2 (ClRep w G) cs vs → ∃ c1 c2, vs = c1 ++ c2 ∧ Enc w G.S t x c1 ∧ All2 (ClRep w G) r c2) :
    ∀ {n : Nat} {cs : List Cl} {vs : List Value} {l : List t.T} {r : List Cl}, collN f n cs = some (l, r) → All2 (ClRep w G) cs vs → ∃ c1 c2, vs = c1 ++ c2 ∧ l.length = n ∧ EncL (Enc w G.S t) l c1 ∧ All2 (ClRep w G) r c2
  | 0, cs, vs, l, r, h, h2 => by
    simp only [collN] at h
    injection h with h; injection h with e1 e2; subst e1 e2
    exact ⟨[], vs, rfl, rfl, rfl, h2⟩
  | n + 1, cs, vs, l, r, h, h2 => by
    simp only [collN] at h
    split at h
    · rename_i x r1 h1
      split at h
      · rename_i xs r2 h3
        injection h with h; injection h with e1 e2; subst e1 e2
        obtain ⟨c1, c2, rfl, k1, k2⟩ := hf h1 h2
        obtain ⟨d1, d2, rfl, k3, k4, k5⟩ := collN_rep hf h3 k2
        exact ⟨c1 ++ d1, d2, by rw [List.append_assoc], by simp [k3], ⟨c1, d1, rfl, k1, k4⟩, k5⟩
      · cases h
    · cases h
theorem coll_rep : ∀ {t : Ty} {cs : List Cl} {vs : List Value} {x : t.T} {r : List Cl}, coll t cs = some (x, r) → All2 (ClRep w G) cs vs → ∃ c1 c2, vs = c1 ++ c2 ∧ Enc w G.S t x c1 ∧ All2 (ClRep w G) r c2
  | .int _, _, _, _, _, h, h2 => leafC_rep h h2
  | .bool, _, _, _, _, h, h2 => leafC_rep h h2
  | .sl _, _, _, _, _, h, h2 => leafC_rep h h2
  | .mp _ _, _, _, _, _, h, h2 => leafC_rep h h2
  | .pr a b, cs, vs, x, r, h, h2 => by
    simp only [coll] at h
    split at h
    · rename_i x1 r1 h1
      split at h
      · rename_i y1 r2 h3
        injection h with h; injection h with e1 e2; subst e1 e2
        obtain ⟨c1, c2, rfl, k1, k2⟩ := coll_rep h1 h2
        obtain ⟨d1, d2, rfl, k3, k4⟩ := coll_rep h3 k2
        exact ⟨c1 ++ d1, d2, by rw [List.append_assoc], ⟨c1, d1, rfl, k1, k3⟩, k4⟩
      · cases h
    · cases h
  | .ar n t, cs, vs, x, r, h, h2 => by
    simp only [coll] at h
    obtain ⟨c1, c2, e, k1, k2, k3⟩ := collN_rep (fun h h2 => coll_rep h h2) h h2
    exact ⟨c1, c2, e, ⟨k1, k2⟩, k3⟩
  | .tr, cs, vs, x, r, h, h2 => by
    simp only [coll] at h
    split at h
    · rename_i x1 r1 h1
      split at h
      · rename_i y1 r2 h3
        split at h
        · rename_i z1 r3 h4
          injection h with h; injection h with e1 e2; subst e1 e2
          obtain ⟨c1, c2, rfl, k1, k2⟩ := leafC_rep h1 h2
          obtain ⟨d1, d2, rfl, k3, k4⟩ := leafC_rep h3 k2
          obtain ⟨f1, f2, rfl, k5, k6⟩ := leafC_rep h4 k4
          exact ⟨c1 ++ (d1 ++ f1), f2, by simp only [List.append_assoc], enc_tr.2 ⟨c1, d1 ++ f1, rfl, k1, d1, f1, rfl, k3, k5⟩, k6⟩
        · cases h
      · cases h
    · cases h
theorem collV_rep {t : Ty} {x : V1} {v : Value} {y : t.T} (h : collV t x = some y) (hx : V1Rep w G x v) : Enc w G.S t y v.cells.toList := by
  unfold collV at h
  split at h
  · rename_i cs hcs
    split at h
    · rename_i y' hc
      injection h with h; subst h
      obtain ⟨c1, c2, e, h1, h2⟩ := coll_rep hc (hx.cells hcs)
      have : c2 = [] := by cases c2 with | nil => rfl | cons => exact h2.elim
      subst this
      rw [e, List.append_nil]
      exact h1
    · cases h
  · cases h
theorem zeroN_rep {S : Nat → Prop} {t : Ty} {f : List Value → Option (List Value)} (hf : ∀ {vs r : List Value}, f vs = some r → ∃ c, vs = c ++ r ∧ Enc w S t t.d c) :
    ∀ {n : Nat} {vs r : List Value}, zeroN f n vs = some r → ∃ c, vs = c ++ r ∧ EncL (Enc w S t) (List.replicate n t.d) c
  | 0, vs, r, h => by
    simp only [zeroN] at h
    injection h with h; subst h
    exact ⟨[], rfl, rfl⟩
  | n + 1, vs, r, h => by
    simp only [zeroN] at h
    split at h
    · rename_i r1 h1
      obtain ⟨c1, e1, k1⟩ := hf h1
      obtain ⟨c2, e2, k2⟩ := zeroN_rep hf h
      exact ⟨c1 ++ c2, by rw [e1, e2, List.append_assoc], c1, c2, rfl, k1, k2⟩
    · cases h
theorem zeroIs_rep {S : Nat → Prop} : ∀ {t : Ty} {vs r : List Value}, zeroIs t vs = some r → ∃ c, vs = c ++ r ∧ Enc w S t t.d c
  | .int k, vs, r, h => by
    simp only [zeroIs] at h
    split at h
    · split at h
      · rename_i hk
        subst hk
        split at h
        · rename_i hn
          injection h with h; subst h
          have := eq_of_beq hn
          subst this
          refine ⟨[.int k 0], rfl, rfl, ?_, ?_⟩ <;> cases k <;> decide
        · cases h
      · cases h
    · cases h
  | .bool, vs, r, h => by
    simp only [zeroIs] at h
    split at h
    · injection h with h; subst h; exact ⟨[.bool false], rfl, rfl⟩
    · cases h
  | .sl t, vs, r, h => by
    simp only [zeroIs] at h
    split at h
    · injection h with h; subst h
      exact ⟨[.slice none 0 0], rfl, none, 0, rfl, Nat.le_refl _, Nat.zero_le _, .inl rfl⟩
    · cases h
  | .mp a b, vs, r, h => by
    simp only [zeroIs] at h
    split at h
    · injection h with h; subst h
      exact ⟨[.map none], rfl, .inl ⟨rfl, rfl⟩⟩
    · cases h
  | .pr a b, vs, r, h => by
    simp only [zeroIs] at h
    split at h
    · rename_i r1 h1
      obtain ⟨c1, e1, k1⟩ := zeroIs_rep h1
      obtain ⟨c2, e2, k2⟩ := zeroIs_rep h
      exact ⟨c1 ++ c2, by rw [e1, e2, List.append_assoc], c1, c2, rfl, k1, k2⟩
    · cases h
  | .ar n t, vs, r, h => by
    simp only [zeroIs] at h
    obtain ⟨c, e, k⟩ := zeroN_rep (fun h => zeroIs_rep h) h
    exact ⟨c, e, by simp [Ty.d], k⟩
  | .tr, vs, r, h => by
    simp only [zeroIs] at h
    split at h
    · split at h
      · rename_i hk
        subst hk
        split at h
        · rename_i hn
          injection h with h; subst h
          have := eq_of_beq hn
          subst this
          exact ⟨[.int .i64 0, .slice none 0 0, .slice none 0 0], rfl, enc_tr.2 ⟨[.int .i64 0], _, rfl, ⟨rfl, by decide, by decide⟩, [.slice none 0 0], [.slice none 0 0], rfl, ⟨none, 0, rfl, Nat.le_refl _, Nat.zero_le _, .inl rfl⟩, ⟨none, 0, rfl, Nat.le_refl _, Nat.zero_le _, .inl rfl⟩⟩⟩
        · cases h
      · cases h
    · cases h
theorem elemOk_spec {e : TypeId} {t : Ty} (h : elemOk P e t = true) : ∃ i z, P.info? e = some i ∧ i.size = t.size ∧ i.bytes ≤ 128 ∧ i.zero = some z ∧ z.cells.size = t.size ∧ ∀ (w : World) (S : Nat → Prop), Enc w S t t.d z.cells.toList := by
  unfold elemOk at h
  split at h
  · rename_i i hi
    simp only [Bool.and_eq_true, beq_iff_eq, decide_eq_true_eq] at h
    obtain ⟨⟨h1, h2⟩, h3⟩ := h
    split at h3
    · rename_i z hz
      simp only [Bool.and_eq_true, decide_eq_true_eq] at h3
      refine ⟨i, z, hi, h1, h2.1, hz, h3.1, fun w S => ?_⟩
      have h4 := h3.2
      split at h4
      · rename_i hzz
        obtain ⟨c, e1, e2⟩ := zeroIs_rep (w := w) (S := S) hzz
        rw [e1, List.append_nil]
        exact e2
      · cases h4
    · cases h3
  · cases h
theorem elemOk_wid {e : TypeId} {t : Ty} (h : elemOk P e t = true) {i : TypeInfo} (hi : P.info? e = some i) : i.bytes ≤ wid t := by
  unfold elemOk at h
  rw [hi] at h
  simp only [Bool.and_eq_true, beq_iff_eq, decide_eq_true_eq] at h
  exact h.1.2.2
theorem madeCells_flat (z : Array Value) (hz : 0 < z.size) : ∀ n : Nat, (madeCells z (n * z.size)).toList = (List.replicate n z.toList).flatten := by
  intro n
  induction n with
  | zero => simp [madeCells]
  | succ n ih =>
    rw [List.replicate_succ', List.flatten_append, ← ih]
    have : (n + 1) * z.size = n * z.size + z.size := by rw [Nat.add_mul]; omega
    rw [this]
    unfold madeCells
    apply List.ext_getElem
    · simp
    · intro i h1 h2
      simp only [Array.toList_map, Array.toList_range, List.length_map, List.length_range] at h1
      simp only [Array.toList_map, Array.toList_range, List.getElem_map, List.getElem_range, List.flatten_cons, List.flatten_nil, List.append_nil]
      rw [List.getElem_append]
      split
      · rename_i h3
        simp
      · rename_i h3
        simp only [List.length_map, List.length_range] at h3 ⊢
        have hm : i % z.size = i - n * z.size := by
          have : i = (i - n * z.size) + z.size * n := by rw [Nat.mul_comm z.size n]; omega
          rw [this, Nat.add_mul_mod_self_left, Nat.mod_eq_of_lt (by omega), Nat.mul_comm z.size n]; omega
        rw [hm, getElem!_pos z (i - n * z.size) (by omega)]
        simp
def V1.isAgg : V1 → Bool
  | .agg _ => true
  | _ => false
theorem mkVal_cells {G : Ghost} {t : Ty} {v : Value} {x : V1} {cs : List Cl} (hx : V1Rep w G x v) (hc : x.cls = some cs) (ha : t.isPr = x.isAgg) : v = mkVal t v.cells.toList := by
  unfold mkVal
  cases x with
  | agg ds =>
    simp only [V1.isAgg] at ha
    rw [if_pos ha]
    obtain ⟨vs, rfl, _⟩ := hx
    simp [Value.cells]
  | c y =>
    simp only [V1.isAgg] at ha
    rw [if_neg (by rw [ha]; simp)]
    have hna : y.isAny = false := by cases y <;> first | rfl | (simp [V1.cls] at hc)
    have hr : ClRep w G y v := hx
    rw [cells_of_one (hr.oneCell hna)]
    simp
end
end Dec
