/-
  Plain types of Go data (whole numbers, bools, slices, structs) and the words in which a function's demand is written: no program in sight.
-/
import GoSem.Core.View
set_option linter.unusedSimpArgs false
set_option linter.unusedVariables false
namespace Dec
open Go

/-- The types of plain data: numbers, bools, slices, pairs (a struct is a nest of pairs). -/
inductive Ty where
  | int (k : IntKind)
  | bool
  | sl (t : Ty)
  | pr (a b : Ty)
  | ar (n : Nat) (t : Ty)
  | mp (k v : Ty)

abbrev Ty.T : Ty → Type
  | .int _ => Int
  | .bool => Bool
  | .sl t => List t.T
  | .pr a b => a.T × b.T
  | .ar _ t => List t.T
  | .mp k v => List (k.T × v.T)

def Ty.d : (t : Ty) → t.T
  | .int _ => (0 : Int)
  | .bool => false
  | .sl _ => []
  | .pr a b => (a.d, b.d)
  | .ar n t => List.replicate (n + 1) t.d
  | .mp _ _ => []

def Ty.size : Ty → Nat
  | .int _ => 1
  | .bool => 1
  | .sl _ => 1
  | .pr a b => a.size + b.size
  | .ar n t => (n + 1) * t.size
  | .mp _ _ => 1

/-- is a value of this type a row of cells? -/
def Ty.isPr : Ty → Bool
  | .pr _ _ => true
  | .ar _ _ => true
  | _ => false

/-- equality of data -/
def Ty.decEq : (t : Ty) → DecidableEq t.T
  | .int _ => Int.instDecidableEq
  | .bool => instDecidableEqBool
  | .sl t => @instDecidableEqList _ t.decEq
  | .pr a b => @instDecidableEqProd _ _ a.decEq b.decEq
  | .ar _ t => @instDecidableEqList _ t.decEq
  | .mp k v => @instDecidableEqList _ (@instDecidableEqProd _ _ k.decEq v.decEq)

def Ty.eqB (t : Ty) (x y : t.T) : Bool := @decide (x = y) (t.decEq x y)

/-- equal types, with the equation -/
def Ty.same : (a b : Ty) → Option (PLift (a = b))
  | .int k, .int k' => if h : k = k' then some ⟨by rw [h]⟩ else none
  | .bool, .bool => some ⟨rfl⟩
  | .sl a, .sl b => match Ty.same a b with
    | some h => some ⟨by rw [h.down]⟩
    | none => none
  | .pr a b, .pr c d => match Ty.same a c, Ty.same b d with
    | some h, some g => some ⟨by rw [h.down, g.down]⟩
    | _, _ => none
  | .ar n a, .ar m b => match Ty.same a b with
    | some h => if e : n = m then some ⟨by rw [h.down, e]⟩ else none
    | none => none
  | .mp a b, .mp c d => match Ty.same a c, Ty.same b d with
    | some h, some g => some ⟨by rw [h.down, g.down]⟩
    | _, _ => none
  | _, _ => none

def Ty.cast {a b : Ty} (h : a = b) (x : a.T) : b.T := h ▸ x

theorem Ty.size_pos : (t : Ty) → 0 < t.size
  | .int _ => Nat.one_pos
  | .bool => Nat.one_pos
  | .sl _ => Nat.one_pos
  | .pr a b => Nat.add_pos_left a.size_pos _
  | .ar n t => Nat.mul_pos (Nat.succ_pos n) t.size_pos
  | .mp _ _ => Nat.one_pos

/-- a number that an int64 can hold -/
def InR (n : Int) : Prop := -9223372036854775808 ≤ n ∧ n ≤ 9223372036854775807

/-- i is an index below n -/
def inIdx (i : Int) (n : Nat) : Prop := 0 ≤ i ∧ i < (n : Int)

/-- so many elements can be made -/
def room (n : Int) : Prop := 0 ≤ n ∧ n ≤ 4294967296
def roomN (n : Nat) : Prop := n ≤ 4294967296

def imin (m n : Int) : Int := min m n

def bAnd (k : IntKind) (m n : Int) : Int := k.wrap (BitVec.ofInt k.bits m &&& BitVec.ofInt k.bits n).toNat
def bOr (k : IntKind) (m n : Int) : Int := k.wrap (BitVec.ofInt k.bits m ||| BitVec.ofInt k.bits n).toNat
def bXor (k : IntKind) (m n : Int) : Int := k.wrap (BitVec.ofInt k.bits m ^^^ BitVec.ofInt k.bits n).toNat
def bAndNot (k : IntKind) (m n : Int) : Int := k.wrap (BitVec.ofInt k.bits m &&& ~~~(BitVec.ofInt k.bits n)).toNat
def bShl (k : IntKind) (m n : Int) : Int := k.wrap (m * 2 ^ (min n.toNat k.bits))
def bShr (k : IntKind) (m n : Int) : Int := m.fdiv (2 ^ (min n.toNat k.bits))

/-- what is so of every datum of a type: its numbers fit, its slices are no longer than a slice can be -/
def Ok : (t : Ty) → t.T → Prop
  | .int k, n => k.min ≤ n ∧ n ≤ k.max
  | .bool, _ => True
  | .sl t, l => l.length ≤ 9223372036854775807 ∧ ∀ x ∈ l, Ok t x
  | .pr a b, x => Ok a x.1 ∧ Ok b x.2
  | .ar n t, l => l.length = n + 1 ∧ ∀ x ∈ l, Ok t x
  | .mp k v, l => ∀ x ∈ l, Ok k x.1 ∧ Ok v x.2

/-- a map's entry of a key -/
def mget {α β : Type} [DecidableEq α] : List (α × β) → α → Option β
  | [], _ => none
  | (k, v) :: r, x => if x = k then some v else mget r x

/-- a map with an entry written -/
def mset {α β : Type} [DecidableEq α] : List (α × β) → α → β → List (α × β)
  | [], x, y => [(x, y)]
  | (k, v) :: r, x, y => if x = k then (x, y) :: r else (k, v) :: mset r x y

/-- where a key's entry stands -/
def midx {α β : Type} [DecidableEq α] : List (α × β) → α → Option Nat
  | [], _ => none
  | (k, _) :: r, x => if x = k then some 0 else (midx r x).map (· + 1)

/-- a map where a key has an entry (d, if it had none) -/
def mtouch {α β : Type} [DecidableEq α] (l : List (α × β)) (x : α) (d : β) : List (α × β) := if (mget l x).isSome then l else l ++ [(x, d)]

def mplace {α β : Type} [DecidableEq α] (l : List (α × β)) (x : α) : Int := (((midx l x).getD l.length : Nat) : Int)

/-- the entry i gets another value -/
def mputAt {α β : Type} (l : List (α × β)) (i : Nat) (y : β) : List (α × β) := l.modify i fun e => (e.1, y)

/-- the least demand that a loop's round keeps: 's' leads out of the loop -/
def Loop {σ : Type} (B : σ → (σ → Prop) → Prop) (s : σ) : Prop := ∀ X : σ → Prop, (∀ s, B s X → X s) → X s

theorem Loop.unroll {σ : Type} {B : σ → (σ → Prop) → Prop} (hm : ∀ s X Y, (∀ s, X s → Y s) → B s X → B s Y) {s : σ} (h : B s (Loop B)) : Loop B s :=
  fun X hX => hX s (hm s _ _ (fun s' hs => hs X hX) h)

/-- A LOOP BY AN INVARIANT AND A MEASURE. The round's own demand is given for any X that holds of all states that keep the invariant and are less. -/
theorem Loop.by {σ : Type} {B : σ → (σ → Prop) → Prop} (I : σ → Prop) (mu : σ → Nat) {s : σ} (h0 : I s)
    (round : ∀ s, I s → ∀ X : σ → Prop, (∀ s', I s' → mu s' < mu s → X s') → B s X) : Loop B s := by
  intro X hX
  have key : ∀ n s, mu s = n → I s → X s := by
    intro n
    induction n using Nat.strongRecOn with
    | _ n ih =>
      intro s hn hI
      exact hX s (round s hI X fun s' hI' hlt => ih (mu s') (by omega) s' rfl hI')
  exact key _ s rfl h0

/-- where ways meet again: what follows is written once -/
def join {σ : Type} (X : (σ → Prop) → Prop) (k : σ → Prop) : Prop := X k

/-- a call that is made only if G; else its result is d -/
def gcall {α : Type} (G : Bool) (X : (α → Prop) → Prop) (d : α) (k : α → Prop) : Prop := if G then X k else k d

theorem gcall_of {α : Type} {G : Bool} {X : (α → Prop) → Prop} {d : α} {k : α → Prop} (f : α) (hX : G = true → k f → X k) (h : k (if G then f else d)) : gcall G X d k := by
  unfold gcall
  cases G
  · simpa using h
  · exact hX rfl (by simpa using h)

end Dec
