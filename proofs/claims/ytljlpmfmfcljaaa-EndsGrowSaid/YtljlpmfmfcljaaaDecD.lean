/-
The operations that only compute or read: what each gives, in plain words, and that the model gives that.
-/
import Derived.Test.YtljlpmfmfcljaaaDecC
set_option linter.unusedSimpArgs false
set_option linter.unusedVariables false
namespace Dec
open Go Go.RowKit
section tables
variable (P : Program)
def fieldTys (f : TypeId → Option Ty) : List Field → Nat → Option (List Ty)
  | [], _ => some []
  | x :: xs, off => match f x.type with
    | some t => if x.offset == off then (match fieldTys f xs (off + t.size) with | some l => some (t :: l) | none => none) else none
    | none => none
def nest : List Ty → Option Ty
  | [] => none
  | [t] => some t
  | t :: ts => match nest ts with | some u => some (.pr t u) | none => none
def sliceOf (P : Program) (t : TypeId) : Option TypeId := match P.underlying t with | some (.slice e) => some e | _ => none
def isI64 (P : Program) (t : TypeId) : Bool := match P.underlying t with | some (.int .i64) => true | _ => false
def treeAt (t : TypeId) : List Field → Bool
  | [a, b, c] => a.offset == 0 && b.offset == 1 && c.offset == 2 && isI64 P a.type && (match sliceOf P b.type with | some e => e == t | none => false) && (match sliceOf P c.type with | some e => isI64 P e | none => false)
  | _ => false
def tyOf : Nat → TypeId → Option Ty
  | 0, _ => none
  | n + 1, t => match P.info? t with
    | none => none
    | some i => match P.underlying t with
      | some (.int k) => if i.size == 1 then some (.int k) else none
      | some .bool => if i.size == 1 then some .bool else none
      | some (.slice e) => if i.size == 1 then (match tyOf n e with | some u => some (.sl u) | none => none) else none
      | some (.struct fs) => if treeAt P t fs.toList then (if i.size == 3 then some .tr else none) else match fieldTys (tyOf n) fs.toList 0 with
        | some l => match nest l with
          | some u => if u.isPr && i.size == u.size then some u else none
          | none => none
        | none => none
      | some (.array m e) => match m, tyOf n e with
        | m + 1, some u => if i.size == (m + 1) * u.size then some (.ar m u) else none
        | _, _ => none
      | some (.map k e) => if i.size == 1 then (match tyOf n k, tyOf n e with | some u, some v => some (.mp u v) | _, _ => none) else none
      | _ => none
end tables
section
variable {P : Program}
theorem tyOf_info {n : Nat} {t : TypeId} {u : Ty} (h : tyOf P n t = some u) : ∃ i, P.info? t = some i ∧ i.size = u.size := by
  cases n with
  | zero => simp [tyOf] at h
  | succ n =>
    simp only [tyOf] at h
    split at h
    · cases h
    · rename_i i hi
      refine ⟨i, hi, ?_⟩
      split at h
      · split at h
        · rename_i hs; injection h with h; subst h; simpa [Ty.size] using hs
        · cases h
      · split at h
        · rename_i hs; injection h with h; subst h; simpa [Ty.size] using hs
        · cases h
      · split at h
        · rename_i hs
          split at h
          · injection h with h; subst h; simpa [Ty.size] using hs
          · cases h
        · cases h
      · split at h
        · split at h
          · rename_i hs; injection h with h; subst h; simpa [Ty.size] using hs
          · cases h
        · split at h
          · split at h
            · split at h
              · rename_i hs; injection h with h; subst h; simp at hs; exact hs.2
              · cases h
            · cases h
          · cases h
      · split at h
        · split at h
          · rename_i hs; injection h with h; subst h; simpa [Ty.size] using hs
          · cases h
        · cases h
      · split at h
        · rename_i hs
          split at h
          · injection h with h; subst h; simpa [Ty.size] using hs
          · cases h
        · cases h
      · cases h
theorem tyOf_size {n : Nat} {t : TypeId} {u : Ty} (h : tyOf P n t = some u) (w : World) : (Go.sizeOf t).run P w = .ok u.size w := by
  obtain ⟨i, hi, hs⟩ := tyOf_info h
  simp [Go.sizeOf, typeInfo, hi, hs]
theorem tyOf_agg {n : Nat} {t : TypeId} {u : Ty} (h : tyOf P n t = some u) (w : World) : (isAgg t).run P w = .ok u.isPr w := by
  cases n with
  | zero => simp [tyOf] at h
  | succ n =>
    simp only [tyOf] at h
    split at h
    · cases h
    · split at h
      · rename_i hu
        split at h
        · injection h with h; subst h; simp [isAgg, run_underlying hu, Ty.isPr]
        · cases h
      · rename_i hu
        split at h
        · injection h with h; subst h; simp [isAgg, run_underlying hu, Ty.isPr]
        · cases h
      · rename_i hu
        split at h
        · split at h
          · injection h with h; subst h; simp [isAgg, run_underlying hu, Ty.isPr]
          · cases h
        · cases h
      · rename_i hu
        split at h
        · split at h
          · injection h with h; subst h; simp [isAgg, run_underlying hu, Ty.isPr]
          · cases h
        · split at h
          · split at h
            · split at h
              · rename_i hs; injection h with h; subst h; simp at hs; simp [isAgg, run_underlying hu, hs.1]
              · cases h
            · cases h
          · cases h
      · rename_i hu
        split at h
        · split at h
          · injection h with h; subst h; simp [isAgg, run_underlying hu, Ty.isPr]
          · cases h
        · cases h
      · rename_i hu
        split at h
        · split at h
          · injection h with h; subst h; simp [isAgg, run_underlying hu, Ty.isPr]
          · cases h
        · cases h
      · cases h
def elemOf (P : Program) (t : TypeId) : Option TypeId := match P.underlying t with | some (.slice e) => some e | _ => none
theorem elemOf_under {t e : TypeId} (h : elemOf P t = some e) : P.underlying t = some (.slice e) := by
  unfold elemOf at h
  split at h
  · rename_i hu; injection h with h; subst h; exact hu
  · cases h
end
def lk {α : Type} : List (Nat × α) → Nat → Option α
  | [], _ => none
  | (j, x) :: r, i => if i == j then some x else lk r i
theorem lk_mem {α : Type} : ∀ {l : List (Nat × α)} {i : Nat} {x : α}, lk l i = some x → (i, x) ∈ l
  | [], _, _, h => by simp [lk] at h
  | (j, y) :: r, i, x, h => by
    simp only [lk] at h
    split at h
    · rename_i e; injection h with h; subst h; simp at e; subst e; simp
    · exact List.mem_cons_of_mem _ (lk_mem h)
def subP (q p : Path) : Bool := q.all fun x => p.any fun y => x.1 == y.1 && x.2 == y.2
theorem holds_sub {a : Act} {p q : Path} (h : subP q p = true) (hp : Holds a p) : Holds a q := by
  intro x hx
  simp only [subP, List.all_eq_true, List.any_eq_true, Bool.and_eq_true, beq_iff_eq] at h
  obtain ⟨y, hy, e1, e2⟩ := h x hx
  rw [e1, e2]
  exact hp y hy
def St.get (st : St) (p : Path) (i : Nat) : Option AV :=
  if i < st.n then
  match lk st.sl i with
  | some (q, x) => if subP q p then some x else none
  | none => none
  else none
def St.con (st : St) (p : Path) (r : Nat) : Option Con :=
  match lk st.hp r with
  | some (q, c) => if subP q p then some c else none
  | none => none
def inKind (k : IntKind) (n : Int) : Bool := decide (k.min ≤ n) && decide (n ≤ k.max)
def cstCl : Value → Option Cl
  | .bool b => some (.p .bool b)
  | .int k n => if inKind k n then some (.p (.int k) n) else none
  | .slice none 0 0 => some .nils
  | .map none => some .nilm
  | .nilFunc => some .any
  | .pointer none => some .any
  | _ => none
def cstCls : List Value → Option (List Cl)
  | [] => some []
  | v :: r => match cstCl v, cstCls r with | some x, some l => some (x :: l) | _, _ => none
def cstV : Value → Option V1
  | .agg cs => match cstCls cs.toList with | some l => some (.agg l) | none => none
  | v => match cstCl v with | some x => some (.c x) | none => none
def St.val (st : St) (p : Path) : Operand → Option AV
  | .tmp i => st.get p i
  | .const v => match cstV v with | some x => some (.v x) | none => none
  | .func f => some (.v (.c (.fn f [])))
  | _ => none
section
variable {P : Program} {w0 w : World} {S0 : Base} {G : Ghost} {st : St} {a : Act} {p : Path}
theorem SR.get_ (h : SR w0 S0 G st a w) (hp : Holds a p) {i : Nat} {x : AV} (hg : st.get p i = some x) : AVRep w G x (a.tmps.getD i undef) := by
  unfold St.get at hg
  split at hg
  · rename_i hin
    split at hg
    · rename_i q y hl
      split at hg
      · rename_i hs
        injection hg with hg
        subst hg
        have := (h.sl _ (lk_mem hl)).2.1 (holds_sub hs hp)
        rw [slotV_in (by rw [h.size]; exact hin)] at this
        exact this
      · cases hg
    · cases hg
  · cases hg
theorem SR.con_ (h : SR w0 S0 G st a w) (hp : Holds a p) {r : Nat} {c : Con} (hg : st.con p r = some c) : ConRep w G r c := by
  unfold St.con at hg
  split at hg
  · rename_i q y hl
    split at hg
    · rename_i hs
      injection hg with hg
      subst hg
      exact h.hp _ (lk_mem hl) (holds_sub hs hp)
    · cases hg
  · cases hg
theorem cstCl_rep {v : Value} {x : Cl} (h : cstCl v = some x) : ClRep w G x v := by
  unfold cstCl at h
  split at h
  · injection h with h; subst h; rfl
  · split at h
    · rename_i hk; injection h with h; subst h; simp [inKind] at hk; exact ⟨rfl, hk.1, hk.2⟩
    · cases h
  · injection h with h; subst h; rfl
  · injection h with h; subst h; rfl
  · injection h with h; subst h; trivial
  · injection h with h; subst h; trivial
  · cases h
theorem cstCls_rep : ∀ {vs : List Value} {l : List Cl}, cstCls vs = some l → All2 (ClRep w G) l vs
  | [], l, h => by simp only [cstCls] at h; injection h with h; subst h; trivial
  | v :: r, l, h => by
    simp only [cstCls] at h
    split at h
    · rename_i x l' h1 h2; injection h with h; subst h; exact ⟨cstCl_rep h1, cstCls_rep h2⟩
    · cases h
theorem cstV_rep {v : Value} {x : V1} (h : cstV v = some x) : V1Rep w G x v := by
  unfold cstV at h
  split at h
  · split at h
    · rename_i hl; injection h with h; subst h; exact ⟨_, by simp, cstCls_rep hl⟩
    · cases h
  · split at h
    · rename_i hl; injection h with h; subst h; exact cstCl_rep hl
    · cases h
theorem SR.val_ (h : SR w0 S0 G st a w) (hp : Holds a p) {x : Operand} {y : AV} (hv : st.val p x = some y) : AVRep w G y (a.eval x) := by
  unfold St.val at hv
  split at hv
  · exact h.get_ hp hv
  · split at hv
    · rename_i hc; injection hv with hv; subst hv; exact cstV_rep hc
    · cases hv
  · injection hv with hv; subst hv; exact ⟨[], rfl, trivial⟩
  · cases hv
theorem wrap_in {k : IntKind} {n : Int} (h1 : k.min ≤ n) (h2 : n ≤ k.max) : k.wrap n = n := by
  cases k <;> simp [IntKind.wrap, IntKind.min, IntKind.max, IntKind.signed, IntKind.bits] at * <;> omega
theorem wrap_lo (k : IntKind) (n : Int) : k.min ≤ k.wrap n := by
  cases k <;> simp [IntKind.wrap, IntKind.min, IntKind.signed, IntKind.bits] <;> omega
theorem wrap_hi (k : IntKind) (n : Int) : k.wrap n ≤ k.max := by
  cases k <;> simp [IntKind.wrap, IntKind.max, IntKind.signed, IntKind.bits] <;> omega
theorem inR_i64 {n : Int} (h : InR n) : IntKind.i64.min ≤ n ∧ n ≤ IntKind.i64.max := by
  simp [InR, IntKind.min, IntKind.max, IntKind.signed, IntKind.bits] at *
  omega
end
def pI (k : IntKind) (n : Int) : AV := .v (.c (.p (.int k) n))
def pB (b : Bool) : AV := .v (.c (.p .bool b))
theorem rep_pI {w : World} {G : Ghost} {k : IntKind} {n : Int} {v : Value} (h : AVRep w G (pI k n) v) : v = .int k n ∧ k.min ≤ n ∧ n ≤ k.max := by
  obtain ⟨e, h1, h2⟩ := h
  injection e with e _
  exact ⟨e, h1, h2⟩
theorem rep_pB {w : World} {G : Ghost} {b : Bool} {v : Value} (h : AVRep w G (pB b) v) : v = .bool b := by
  have h' : [v] = [Value.bool b] := h
  injection h' with e _
theorem mk_pI {w : World} {G : Ghost} {k : IntKind} {n : Int} (h1 : k.min ≤ n) (h2 : n ≤ k.max) : AVRep w G (pI k n) (.int k n) := ⟨rfl, h1, h2⟩
theorem mk_pB {w : World} {G : Ghost} {b : Bool} : AVRep w G (pB b) (.bool b) := rfl
def evalInt (op : BinOp) (k : IntKind) (m n : Int) : Option (Prop × AV) :=
  match op with
  | .add => match k with | .i64 => some (InR (m + n), pI .i64 (m + n)) | k => some (True, pI k (k.wrap (m + n)))
  | .sub => match k with | .i64 => some (InR (m - n), pI .i64 (m - n)) | k => some (True, pI k (k.wrap (m - n)))
  | .mul => match k with | .i64 => some (InR (m * n), pI .i64 (m * n)) | k => some (True, pI k (k.wrap (m * n)))
  | .quo => some (0 ≤ m ∧ 0 < n, pI k (m / n))
  | .rem => some (0 ≤ m ∧ 0 < n, pI k (m % n))
  | .and => some (True, pI k (bAnd k m n))
  | .or => some (True, pI k (bOr k m n))
  | .xor => some (True, pI k (bXor k m n))
  | .andNot => some (True, pI k (bAndNot k m n))
  | .eql => some (True, pB (decide (m = n)))
  | .neq => some (True, pB (!decide (m = n)))
  | .lss => some (True, pB (decide (m < n)))
  | .leq => some (True, pB (decide (m ≤ n)))
  | .gtr => some (True, pB (decide (n < m)))
  | .geq => some (True, pB (decide (n ≤ m)))
  | _ => none
def evalShift (op : BinOp) (k : IntKind) (m n : Int) : Option (Prop × AV) :=
  match op with
  | .shl => some (0 ≤ n, pI k (bShl k m n))
  | .shr => some (0 ≤ m ∧ 0 ≤ n, pI k (bShr k m n))
  | _ => none
def isShift : BinOp → Bool
  | .shl | .shr => true
  | _ => false
def isBoolT (P : Program) (t : TypeId) : Bool := match P.underlying t with | some .bool => true | _ => false
def evalBin (P : Program) (op : BinOp) (t : TypeId) (x y : AV) : Option (Prop × AV) :=
  match x, y with
  | .v (.c (.p (.int k) m)), .v (.c (.p (.int k') n)) =>
    if isShift op then evalShift op k m n
    else if k = k' then evalInt op k m n else none
  | .v (.c (.p .bool b)), .v (.c (.p .bool c)) => if isBoolT P t then (match op with
    | .eql => some (True, pB (b == c))
    | .neq => some (True, pB (b != c))
    | _ => none) else none
  | _, _ => none
section
variable {P : Program} {w : World} {G : Ghost}
theorem evalInt_sound {op : BinOp} {k : IntKind} {m n : Int} {t : TypeId} {ob : Prop} {z : AV} (h : evalInt op k m n = some (ob, z)) (hs : isShift op = false) (hob : ob) (m1 : k.min ≤ m) (m2 : m ≤ k.max) (n1 : k.min ≤ n) (n2 : n ≤ k.max) :
    ∃ v, (∀ w' : World, (binOp op t (.int k m) (.int k n)).run P w' = .ok v w') ∧ AVRep w G z v := by
  have arith : ∀ r : Int, InR r → k = .i64 → AVRep w G (pI .i64 r) (.int k (k.wrap r)) := by
    intro r hr hk
    subst hk
    rw [wrap_in (inR_i64 hr).1 (inR_i64 hr).2]
    exact mk_pI (inR_i64 hr).1 (inR_i64 hr).2
  have wr : ∀ r : Int, AVRep w G (pI k (k.wrap r)) (.int k (k.wrap r)) := fun r => mk_pI (wrap_lo k r) (wrap_hi k r)
  cases op <;> simp only [evalInt, isShift] at h hs
  case add =>
    cases k <;> (injection h with h; injection h with h1 h2; subst h1 h2)
    all_goals first
      | exact ⟨_, fun w' => by simp [binOp, Op.intArith], arith _ hob rfl⟩
      | exact ⟨_, fun w' => by simp [binOp, Op.intArith], wr _⟩
  case sub =>
    cases k <;> (injection h with h; injection h with h1 h2; subst h1 h2)
    all_goals first
      | exact ⟨_, fun w' => by simp [binOp, Op.intArith], arith _ hob rfl⟩
      | exact ⟨_, fun w' => by simp [binOp, Op.intArith], wr _⟩
  case mul =>
    cases k <;> (injection h with h; injection h with h1 h2; subst h1 h2)
    all_goals first
      | exact ⟨_, fun w' => by simp [binOp, Op.intArith], arith _ hob rfl⟩
      | exact ⟨_, fun w' => by simp [binOp, Op.intArith], wr _⟩
  case quo =>
    injection h with h; injection h with h1 h2; subst h1 h2
    have hn : ¬ n = 0 := by omega
    have hq : m.tdiv n = m / n := Int.tdiv_eq_ediv_of_nonneg hob.1
    have h0 : 0 ≤ m / n := Int.ediv_nonneg hob.1 (by omega)
    have h1 : m / n ≤ m := Int.ediv_le_self _ hob.1
    have hk : k.min ≤ 0 := by cases k <;> simp [IntKind.min, IntKind.signed, IntKind.bits]
    refine ⟨.int k (m / n), fun w' => ?_, mk_pI (by omega) (by omega)⟩
    simp [binOp, Op.intDiv, hn, hq, wrap_in (k := k) (n := m / n) (by omega) (by omega)]
  case rem =>
    injection h with h; injection h with h1 h2; subst h1 h2
    have hn : ¬ n = 0 := by omega
    have hq : m.tmod n = m % n := Int.tmod_eq_emod_of_nonneg hob.1
    have h0 : 0 ≤ m % n := Int.emod_nonneg _ hn
    have h1 : m % n < n := Int.emod_lt_of_pos _ hob.2
    have hk : k.min ≤ 0 := by cases k <;> simp [IntKind.min, IntKind.signed, IntKind.bits]
    refine ⟨.int k (m % n), fun w' => ?_, mk_pI (by omega) (by omega)⟩
    simp [binOp, Op.intDiv, hn, hq]
  case and => injection h with h; injection h with h1 h2; subst h1 h2; exact ⟨_, fun w' => by simp [binOp, Op.intBits], wr _⟩
  case or => injection h with h; injection h with h1 h2; subst h1 h2; exact ⟨_, fun w' => by simp [binOp, Op.intBits], wr _⟩
  case xor => injection h with h; injection h with h1 h2; subst h1 h2; exact ⟨_, fun w' => by simp [binOp, Op.intBits], wr _⟩
  case andNot => injection h with h; injection h with h1 h2; subst h1 h2; exact ⟨_, fun w' => by simp [binOp, Op.intBits], wr _⟩
  case eql => injection h with h; injection h with h1 h2; subst h1 h2; exact ⟨.bool (decide (m = n)), fun w' => by simp [binOp, Op.intCmp]; rfl, mk_pB⟩
  case neq => injection h with h; injection h with h1 h2; subst h1 h2; exact ⟨.bool (!decide (m = n)), fun w' => by simp [binOp, Op.intCmp]; rfl, mk_pB⟩
  case lss => injection h with h; injection h with h1 h2; subst h1 h2; exact ⟨_, fun w' => by simp [binOp, Op.intCmp], mk_pB⟩
  case leq => injection h with h; injection h with h1 h2; subst h1 h2; exact ⟨_, fun w' => by simp [binOp, Op.intCmp], mk_pB⟩
  case gtr => injection h with h; injection h with h1 h2; subst h1 h2; exact ⟨_, fun w' => by simp [binOp, Op.intCmp], mk_pB⟩
  case geq => injection h with h; injection h with h1 h2; subst h1 h2; exact ⟨_, fun w' => by simp [binOp, Op.intCmp], mk_pB⟩
  all_goals cases h
theorem evalShift_sound {op : BinOp} {k k' : IntKind} {m n : Int} {t : TypeId} {ob : Prop} {z : AV} (h : evalShift op k m n = some (ob, z)) (hob : ob) (m1 : k.min ≤ m) (m2 : m ≤ k.max) :
    ∃ v, (∀ w' : World, (binOp op t (.int k m) (.int k' n)).run P w' = .ok v w') ∧ AVRep w G z v := by
  cases op <;> simp only [evalShift] at h
  case shl =>
    injection h with h; injection h with h1 h2; subst h1 h2
    have hn : ¬ n < 0 := by omega
    exact ⟨_, fun w' => by simp [binOp, Op.shift, hn]; rfl, mk_pI (wrap_lo _ _) (wrap_hi _ _)⟩
  case shr =>
    injection h with h; injection h with h1 h2; subst h1 h2
    have hn : ¬ n < 0 := by omega
    have hp : (0 : Int) < 2 ^ (min n.toNat k.bits) := Int.pow_pos (by omega)
    have he : bShr k m n = m / 2 ^ (min n.toNat k.bits) := by unfold bShr; exact Int.fdiv_eq_ediv_of_nonneg _ (by omega)
    have h0 : 0 ≤ m / 2 ^ (min n.toNat k.bits) := Int.ediv_nonneg hob.1 (by omega)
    have h1 : m / 2 ^ (min n.toNat k.bits) ≤ m := Int.ediv_le_self _ hob.1
    have hk : k.min ≤ 0 := by cases k <;> simp [IntKind.min, IntKind.signed, IntKind.bits]
    exact ⟨_, fun w' => by simp [binOp, Op.shift, hn]; rfl, mk_pI (by show k.min ≤ bShr k m n; omega) (by show bShr k m n ≤ k.max; omega)⟩
  all_goals cases h
theorem evalBin_sound {op : BinOp} {x y z : AV} {vx vy : Value} {t : TypeId} {ob : Prop} {cx cy : Operand} (h : evalBin P op t x y = some (ob, z)) (hob : ob) (hx : AVRep w G x vx) (hy : AVRep w G y vy) :
    ∃ v, (∀ w' : World, (do eqGuard op t cx cy vx vy; binOp op t vx vy : Sem Value).run P w' = .ok v w') ∧ AVRep w G z v := by
  unfold evalBin at h
  split at h
  · rename_i k m k' n
    obtain ⟨rfl, m1, m2⟩ := rep_pI (k := k) (n := m) hx
    obtain ⟨rfl, n1, n2⟩ := rep_pI (k := k') (n := n) hy
    have hg : ∀ w' : World, (eqGuard op t cx cy (.int k m) (.int k' n)).run P w' = .ok () w' := by
      intro w'
      unfold eqGuard; split <;> simp
    simp only [Sem.run_bind, hg, Result.andThen_ok]
    split at h
    · exact evalShift_sound h hob m1 m2
    · rename_i hsh
      split at h
      · rename_i hk; subst hk; exact evalInt_sound h (by simpa using hsh) hob m1 m2 n1 n2
      · cases h
  · rename_i b c
    have e1 := rep_pB (b := b) hx
    have e2 := rep_pB (b := c) hy
    subst e1 e2
    have hg : ∀ w' : World, (eqGuard op t cx cy (.bool b) (.bool c)).run P w' = .ok () w' := by
      intro w'
      unfold eqGuard; split <;> simp
    simp only [Sem.run_bind, hg, Result.andThen_ok]
    split at h
    · rename_i hb
      have hu : P.underlying t = some .bool := by
        unfold isBoolT at hb
        split at hb
        · assumption
        · cases hb
      have he : ∀ w' : World, (Op.equal t (.bool b) (.bool c)).run P w' = .ok (b == c) w' := by
        intro w'
        have key : ∀ d : Nat, (Op.equalIn (d + 1) t (.bool b) (.bool c)).run P w' = .ok (b == c) w' := fun d => by simp [Op.equalIn, run_underlying hu]
        exact key 9999
      cases op <;> simp only at h
      case eql => injection h with h; injection h with h1 h2; subst h1 h2; exact ⟨_, fun w' => by simp [binOp, he], mk_pB⟩
      case neq => injection h with h; injection h with h1 h2; subst h1 h2; exact ⟨.bool (b != c), fun w' => by simp only [binOp, Sem.run_bind, he, Result.andThen_ok, Sem.run_pure, bne], mk_pB⟩
      all_goals cases h
    · cases h
  · cases h
end
end Dec
