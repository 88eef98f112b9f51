/-
The other operations that only compute or read.
-/
import Derived.Test.YtljlpmfmfcljaaaDecD
set_option linter.unusedSimpArgs false
set_option linter.unusedVariables false
namespace Dec
open Go Go.RowKit
def explode : (t : Ty) → t.T → List Cl
  | .int k, x => [.p (.int k) x]
  | .bool, x => [.p .bool x]
  | .sl t, x => [.p (.sl t) x]
  | .pr a b, x => explode a x.1 ++ explode b x.2
  | .ar n t, x => ((List.range (n + 1)).map fun i => explode t (x.getD i t.d)).flatten
  | .mp k v, x => [.p (.mp k v) x]
  | .tr, x => [.p (.int .i64) x.rule, .p (.sl .tr) x.kids, .p (.sl (.int .i64)) x.word]
def toV1 : (t : Ty) → t.T → V1
  | .int k, x => .c (.p (.int k) x)
  | .bool, x => .c (.p .bool x)
  | .sl t, x => .c (.p (.sl t) x)
  | .pr a b, x => .agg (explode (.pr a b) x)
  | .ar n t, x => .agg (explode (.ar n t) x)
  | .mp k v, x => .c (.p (.mp k v) x)
  | .tr, x => .agg (explode .tr x)
section
variable {P : Program} {w : World} {G : Ghost}
theorem explode_rep : ∀ {t : Ty} {x : t.T} {cs : List Value}, Enc w G.S t x cs → All2 (ClRep w G) (explode t x) cs
  | .int k, x, cs, h => by
    have h0 := h
    obtain ⟨rfl, _⟩ := h
    exact ⟨h0, trivial⟩
  | .bool, x, cs, h => by
    have h0 := h
    unfold Enc at h
    subst h
    exact ⟨h0, trivial⟩
  | .sl t, x, cs, h => by
    have h0 := h
    obtain ⟨a, c, rfl, _⟩ := h
    exact ⟨h0, trivial⟩
  | .pr a b, x, cs, ⟨c1, c2, e, h1, h2⟩ => by
    subst e
    exact All2.append (explode_rep h1) (explode_rep h2)
  | .ar n t, l, cs, ⟨e, h⟩ => by
    have key : ∀ {l : List t.T} {cs : List Value}, EncL (Enc w G.S t) l cs → All2 (ClRep w G) (l.map (explode t)).flatten cs := by
      intro l
      induction l with
      | nil => intro cs h; unfold EncL at h; subst h; trivial
      | cons x l ih =>
        rintro cs ⟨c, r, rfl, h1, h2⟩
        simp only [List.map_cons, List.flatten_cons]
        exact All2.append (explode_rep h1) (ih h2)
    have hl : ((List.range (n + 1)).map fun i => explode t (l.getD i t.d)) = l.map (explode t) := by
      apply List.ext_getElem
      · simp [e]
      · intro i h1 h2
        simp only [List.length_map] at h2
        simp [List.getD, List.getElem?_eq_getElem h2]
    show All2 (ClRep w G) ((List.range (n + 1)).map fun i => explode t (l.getD i t.d)).flatten cs
    rw [hl]
    exact key h
  | .mp k v, x, cs, h => by
    have h0 := h
    rcases h with ⟨rfl, _⟩ | ⟨_, _, _, rfl, _⟩ <;> exact ⟨h0, trivial⟩
  | .tr, x, cs, h => by
    obtain ⟨c1, c2, rfl, ⟨rfl, h0⟩, c3, c4, rfl, h1, h2⟩ := enc_tr.1 h
    have g1 := h1
    have g2 := h2
    obtain ⟨a1, k1, rfl, _⟩ := h1
    obtain ⟨a2, k2, rfl, _⟩ := h2
    exact ⟨⟨rfl, h0⟩, g1, g2, trivial⟩
theorem toV1_rep {t : Ty} {x : t.T} {cs : List Value} (h : Enc w G.S t x cs) : V1Rep w G (toV1 t x) (mkVal t cs) := by
  cases t with
  | int k => obtain ⟨rfl, h1, h2⟩ := h; exact ⟨rfl, h1, h2⟩
  | bool => unfold Enc at h; subst h; rfl
  | sl t =>
    have h0 := h
    obtain ⟨a, c, rfl, _⟩ := h
    exact h0
  | pr a b => exact ⟨cs, rfl, explode_rep h⟩
  | ar n t => exact ⟨cs, rfl, explode_rep h⟩
  | mp k v =>
    have h0 := h
    rcases h with ⟨rfl, _⟩ | ⟨_, _, _, rfl, _⟩ <;> exact h0
  | tr => exact ⟨cs, rfl, explode_rep h⟩
theorem addr_add (b off j : Nat) : (⟨b, off, none⟩ : Addr).add j = ⟨b, off + j, none⟩ := by
  unfold Addr.add
  split
  · rename_i h; subst h; rfl
  · rfl
theorem cells_cell {b : Nat} {cells : Array Value} {e : TypeId} {fz : Nat × Nat} (hb : w.heap[b]? = some (.cells cells e fz)) (j : Nat) : w.cell? ⟨b, j, none⟩ = cells[j]? := by
  simp [World.cell?, hb]
theorem run_loadVar_ty {n : Nat} {t : TypeId} {u : Ty} (ht : tyOf P n t = some u) {b off : Nat} {cs : List Value} (hl : cs.length = u.size) (h : ∀ j v, cs[j]? = some v → w.cell? ⟨b, off + j, none⟩ = some v) :
    (loadVar t ⟨b, off, none⟩).run P w = .ok (mkVal u cs) w := by
  unfold loadVar mkVal
  simp only [Sem.run_bind, tyOf_agg ht, Result.andThen_ok]
  cases hu : u.isPr with
  | true =>
    have hr := run_loadCells_list (P := P) w ⟨b, off, none⟩ cs (fun j v hj => by rw [addr_add]; exact h j v hj)
    rw [hl] at hr
    simp [Sem.run_bind, tyOf_size ht, hr]
  | false =>
    cases cs with
    | nil => have := u.size_pos; simp at hl; omega
    | cons v r =>
      have hc := h 0 v rfl
      simp only [Nat.add_zero] at hc
      simp [hc]
end
/-! ### the evaluator -/
def cstB : Operand → Option Bool
  | .const (.bool b) => some b
  | _ => none
def evalPick (st : St) (p : Path) (i : Nat) (c a b : Operand) : Option (Prop × AV) :=
  match st.val p c with
  | some (.v (.c (.p .bool x))) => match cstB a, cstB b with
    | some true, _ => match st.val (p ++ [(i, false)]) b with
      | some (.v (.c (.p .bool z))) => some (True, pB (x || z))
      | _ => none
    | _, some false => match st.val (p ++ [(i, true)]) a with
      | some (.v (.c (.p .bool y))) => some (True, pB (x && y))
      | _ => none
    | _, _ => match st.val (p ++ [(i, true)]) a, st.val (p ++ [(i, false)]) b with
      | some (.v (.c (.p .bool y))), some (.v (.c (.p .bool z))) => some (True, pB (cond x y z))
      | _, _ => none
  | _ => none
def fits : IntKind → IntKind → Bool
  | .u8, .u8 => true | .u8, .u16 => true | .u8, .u32 => true | .u8, .u64 => true | .u8, .i64 => true | .u8, .i32 => true
  | .u16, .u16 => true | .u16, .u32 => true | .u16, .u64 => true | .u16, .i64 => true | .u16, .i32 => true
  | .u32, .u32 => true | .u32, .u64 => true | .u32, .i64 => true
  | .u64, .u64 => true
  | .i32, .i32 => true | .i32, .i64 => true | .i64, .i64 => true
  | _, _ => false
def evalConv (P : Program) (dst : TypeId) (x : AV) : Option (Prop × AV) :=
  match P.underlying dst, x with
  | some (.int k'), .v (.c (.p (.int k) n)) => some (True, pI k' (if fits k k' then n else k'.wrap n))
  | _, _ => none
def bnd : Option (Option AV) → Option (Option Int)
  | none => some none
  | some (some (.v (.c (.p (.int _) n)))) => some (some n)
  | _ => none
def slOb (len : Nat) : Option Int → Option Int → Prop
  | none, none => True
  | some lo, none => 0 ≤ lo ∧ lo ≤ (len : Int)
  | none, some hi => 0 ≤ hi ∧ hi ≤ (len : Int)
  | some lo, some hi => 0 ≤ lo ∧ lo ≤ hi ∧ hi ≤ (len : Int)
def slRes {α : Type} (l : List α) : Option Int → Option Int → List α
  | none, none => l
  | some lo, none => l.drop lo.toNat
  | none, some hi => l.take hi.toNat
  | some lo, some hi => (l.take hi.toNat).drop lo.toNat
def lo0 : Option Int → Nat
  | none => 0
  | some x => x.toNat
def hi0 (len : Nat) : Option Int → Nat
  | none => len
  | some x => x.toNat
def evalSlice (P : Program) (st : St) (p : Path) (t : TypeId) (x : AV) (lo hi : Option Int) : Option (Prop × AV) :=
  match elemOf P t with
  | none => none
  | some e => match tyOf P 8 e with
    | none => none
    | some u => match x with
      | .v (.c (.p (.sl v) l)) => if v.size == u.size then some (slOb l.length lo hi, .v (.c (.p (.sl v) (slRes l lo hi)))) else none
      | .v (.c (.own r)) => match st.con p r with
        | some (.arr _ v l) => if v.size == u.size then some (slOb l.length lo hi, .v (.c (.vw r (lo0 lo) (hi0 l.length hi - lo0 lo) u.size))) else none
        | _ => none
      | .v (.c (.vw r k n sz)) => if sz == u.size then some (slOb n lo hi, .v (.c (.vw r (k + lo0 lo) (hi0 n hi - lo0 lo) sz))) else none
      | _ => none
def evalIndexAddr (P : Program) (st : St) (p : Path) (t : TypeId) (x i : AV) : Option (Prop × AV) :=
  match i with
  | .v (.c (.p (.int _) i)) => match elemOf P t with
    | none => none
    | some e => match tyOf P 8 e with
      | none => none
      | some u => match x with
        | .v (.c (.p (.sl v) l)) => if v.size == u.size then some (inIdx i l.length, .v (.c (.ad v (l.getD i.toNat v.d)))) else none
        | .v (.c (.own r)) => match st.con p r with
          | some (.arr _ v l) => if v.size == u.size then some (inIdx i l.length, .v (.c (.el r i.toNat u.size))) else none
          | _ => none
        | .v (.c (.vw r k n sz)) => if sz == u.size then some (inIdx i n, .v (.c (.el r (k + i.toNat) sz))) else none
        | _ => none
  | _ => none
def fieldTy : (t : Ty) → t.T → (n f : Nat) → Option (Nat × (u : Ty) × u.T)
  | .pr a _, x, _ + 2, 0 => some (0, ⟨a, x.1⟩)
  | .pr a b, x, n + 2, f + 1 => match fieldTy b x.2 (n + 1) f with
    | some (o, y) => some (a.size + o, y)
    | none => none
  | t, x, 1, 0 => some (0, ⟨t, x⟩)
  | _, _, _, _ => none
def fieldsOf (P : Program) (s : TypeId) : Option (Array Field) := match P.underlying s with | some (.struct fs) => some fs | _ => none
def evalFieldAddr (P : Program) (s : TypeId) (x : AV) (f : Nat) : Option (Prop × AV) :=
  match fieldsOf P s with
  | none => none
  | some fs => match fs[f]? with
    | none => none
    | some fd => match P.info? fd.type with
      | none => none
      | some i => if i.size == 0 then none else match x with
        | .v (.c (.ptr r off)) => some (True, .v (.c (.ptr r (off + fd.offset))))
        | .v (.c (.ad t y)) => match fieldTy t y fs.size f with
          | some (o, z) => if o == fd.offset then some (True, .v (.c (.ad z.1 z.2))) else none
          | none => none
        | _ => none
def aggSize (P : Program) (t : TypeId) : Option (Bool × Nat) :=
  match P.underlying t, P.info? t with
  | some (.struct _), some i => some (true, i.size)
  | some (.array _ _), some i => some (true, i.size)
  | some _, some i => some (false, i.size)
  | _, _ => none
def evalLoad (P : Program) (st : St) (p : Path) (t : TypeId) (x : AV) : Option (Prop × AV) :=
  match x with
  | .v (.c (.ptr r off)) => match st.con p r, aggSize P t with
    | some (.box cs), some (true, n) => if decide (off + n ≤ cs.length) then some (True, .v (.agg ((cs.drop off).take n))) else none
    | some (.box cs), some (false, _) => match cs[off]? with | some c => some (True, .v (.c c)) | none => none
    | _, _ => none
  | .v (.c (.ad u y)) => match tyOf P 8 t with
    | some v => match Ty.same v u with | some _ => some (True, .v (toV1 u y)) | none => none
    | none => none
  | .v (.c (.el r i sz)) => match st.con p r, tyOf P 8 t with
    | some (.arr _ u l), some v => match Ty.same v u with | some _ => if sz == u.size then some (True, .v (toV1 u (l.getD i u.d))) else none | none => none
    | _, _ => none
  | _ => none
def evalField (P : Program) (s : TypeId) (x : AV) (f : Nat) : Option (Prop × AV) :=
  match fieldsOf P s, x with
  | some fs, .v (.agg cs) => match fs[f]? with
    | none => none
    | some fd => match aggSize P fd.type with
      | some (true, n) => if decide (fd.offset + n ≤ cs.length) then some (True, .v (.agg ((cs.drop fd.offset).take n))) else none
      | some (false, _) => match cs[fd.offset]? with | some c => some (True, .v (.c c)) | none => none
      | none => none
  | _, _ => none
def evalExtract (x : AV) (i : Nat) : Option (Prop × AV) :=
  match x with
  | .tup xs => match xs[i]? with | some y => some (True, .v y) | none => none
  | _ => none
def isSlT (P : Program) (t : TypeId) : Bool := match P.underlying t with | some (.slice _) => true | _ => false
def evalLen (P : Program) (st : St) (p : Path) (t : TypeId) (x : AV) : Option (Prop × AV) :=
  if isSlT P t then (match x with
    | .v (.c (.p (.sl _) l)) => some (True, pI .i64 (l.length : Int))
    | .v (.c (.own r)) => match st.con p r with | some (.arr _ _ l) => some (True, pI .i64 (l.length : Int)) | _ => none
    | .v (.c (.vw _ _ n _)) => some ((n : Int) ≤ 9223372036854775807, pI .i64 (n : Int))
    | .v (.c .nils) => some (True, pI .i64 0)
    | _ => none) else none
def evalMin (x y : AV) : Option (Prop × AV) :=
  match x, y with
  | .v (.c (.p (.int k) m)), .v (.c (.p (.int k') n)) => if k = k' then some (True, pI k (imin m n)) else none
  | _, _ => none
def tmpOf : Operand → Option Nat
  | .tmp i => some i
  | _ => none
def evalP (P : Program) (st : St) (p : Path) (op : Op) : Option (Prop × AV) :=
  match op with
  | .move x | .assign x => match st.val p x with | some y => some (True, y) | none => none
  | .pick c a b => match tmpOf c with
    | some i => evalPick st p i c a b
    | none => none
  | .binOp op t x y _ => match st.val p x, st.val p y with | some x, some y => evalBin P op t x y | _, _ => none
  | .unOp .not _ x => match st.val p x with | some (.v (.c (.p .bool b))) => some (True, pB (!b)) | _ => none
  | .convert _ d x => match st.val p x with | some x => evalConv P d x | none => none
  | .slice t x lo hi none => match st.val p x, bnd (lo.map (st.val p)), bnd (hi.map (st.val p)) with | some x, some lo, some hi => evalSlice P st p t x lo hi | _, _, _ => none
  | .indexAddr t x i => match st.val p x, st.val p i with | some x, some i => evalIndexAddr P st p t x i | _, _ => none
  | .fieldAddr s x f => match st.val p x with | some x => evalFieldAddr P s x f | none => none
  | .load t x => match st.val p x with | some x => evalLoad P st p t x | none => none
  | .field s x f => match st.val p x with | some x => evalField P s x f | none => none
  | .extract x i => match st.val p x with | some x => evalExtract x i | none => none
  | .nilCheck x => match st.val p x with
    | some (.v (.c (.ptr r off))) => some (True, .v (.c (.ptr r off)))
    | some (.v (.c (.ad t y))) => some (True, .v (.c (.ad t y)))
    | some (.v (.c (.el r i sz))) => some (True, .v (.c (.el r i sz)))
    | _ => none
  | .call c => match c.callee with
    | .builtin .len => match c.args.toList, c.argTypes.toList with
      | [x], [t] => match st.val p x with | some x => evalLen P st p t x | none => none
      | _, _ => none
    | .builtin .min => match c.args.toList with
      | [x, y] => match st.val p x, st.val p y with | some x, some y => evalMin x y | _, _ => none
      | _ => none
    | _ => none
  | _ => none
end Dec
