/-
  Plain types of Go data (whole numbers, bools, slices, structs) and the words in which a function's demand is written: no program in sight.
-/
import GoSem.Core.View
set_option linter.unusedSimpArgs false
set_option linter.unusedVariables false
namespace Dec
open Go

/-- The types of plain data: numbers, bools, slices, pairs (a struct is a nest of pairs). -/
inductive Ty where
  | int (k : IntKind)
  | bool
  | sl (t : Ty)
  | pr (a b : Ty)

abbrev Ty.T : Ty → Type
  | .int _ => Int
  | .bool => Bool
  | .sl t => List t.T
  | .pr a b => a.T × b.T

def Ty.d : (t : Ty) → t.T
  | .int _ => (0 : Int)
  | .bool => false
  | .sl _ => []
  | .pr a b => (a.d, b.d)

def Ty.size : Ty → Nat
  | .int _ => 1
  | .bool => 1
  | .sl _ => 1
  | .pr a b => a.size + b.size

def Ty.isPr : Ty → Bool
  | .pr _ _ => true
  | _ => false

/-- equal types, with the equation -/
def Ty.same : (a b : Ty) → Option (PLift (a = b))
  | .int k, .int k' => if h : k = k' then some ⟨by rw [h]⟩ else none
  | .bool, .bool => some ⟨rfl⟩
  | .sl a, .sl b => match Ty.same a b with
    | some h => some ⟨by rw [h.down]⟩
    | none => none
  | .pr a b, .pr c d => match Ty.same a c, Ty.same b d with
    | some h, some g => some ⟨by rw [h.down, g.down]⟩
    | _, _ => none
  | _, _ => none

def Ty.cast {a b : Ty} (h : a = b) (x : a.T) : b.T := h ▸ x

theorem Ty.size_pos : (t : Ty) → 0 < t.size
  | .int _ => Nat.one_pos
  | .bool => Nat.one_pos
  | .sl _ => Nat.one_pos
  | .pr a b => Nat.add_pos_left a.size_pos _

/-- a number that an int64 can hold -/
def InR (n : Int) : Prop := -9223372036854775808 ≤ n ∧ n ≤ 9223372036854775807

/-- i is an index below n -/
def inIdx (i : Int) (n : Nat) : Prop := 0 ≤ i ∧ i < (n : Int)

/-- so many elements can be made -/
def room (n : Int) : Prop := 0 ≤ n ∧ n ≤ 4294967296
def roomN (n : Nat) : Prop := n ≤ 4294967296

def imin (m n : Int) : Int := min m n

def bAnd (k : IntKind) (m n : Int) : Int := k.wrap (BitVec.ofInt k.bits m &&& BitVec.ofInt k.bits n).toNat
def bOr (k : IntKind) (m n : Int) : Int := k.wrap (BitVec.ofInt k.bits m ||| BitVec.ofInt k.bits n).toNat
def bXor (k : IntKind) (m n : Int) : Int := k.wrap (BitVec.ofInt k.bits m ^^^ BitVec.ofInt k.bits n).toNat
def bAndNot (k : IntKind) (m n : Int) : Int := k.wrap (BitVec.ofInt k.bits m &&& ~~~(BitVec.ofInt k.bits n)).toNat
def bShl (k : IntKind) (m n : Int) : Int := k.wrap (m * 2 ^ (min n.toNat k.bits))
def bShr (k : IntKind) (m n : Int) : Int := m.fdiv (2 ^ (min n.toNat k.bits))

/-- what is so of every datum of a type: its numbers fit, its slices are no longer than a slice can be -/
def Ok : (t : Ty) → t.T → Prop
  | .int k, n => k.min ≤ n ∧ n ≤ k.max
  | .bool, _ => True
  | .sl t, l => l.length ≤ 9223372036854775807 ∧ ∀ x ∈ l, Ok t x
  | .pr a b, x => Ok a x.1 ∧ Ok b x.2

/-- the least demand that a loop's round keeps: 's' leads out of the loop -/
def Loop {σ : Type} (B : σ → (σ → Prop) → Prop) (s : σ) : Prop := ∀ X : σ → Prop, (∀ s, B s X → X s) → X s

theorem Loop.unroll {σ : Type} {B : σ → (σ → Prop) → Prop} (hm : ∀ s X Y, (∀ s, X s → Y s) → B s X → B s Y) {s : σ} (h : B s (Loop B)) : Loop B s :=
  fun X hX => hX s (hm s _ _ (fun s' hs => hs X hX) h)

/-- A LOOP BY AN INVARIANT AND A MEASURE. The round's own demand is given for any X that holds of all states that keep the invariant and are less. -/
theorem Loop.by {σ : Type} {B : σ → (σ → Prop) → Prop} (I : σ → Prop) (mu : σ → Nat) {s : σ} (h0 : I s)
    (round : ∀ s, I s → ∀ X : σ → Prop, (∀ s', I s' → mu s' < mu s → X s') → B s X) : Loop B s := by
  intro X hX
  have key : ∀ n s, mu s = n → I s → X s := by
    intro n
    induction n using Nat.strongRecOn with
    | _ n ih =>
      intro s hn hI
      exact hX s (round s hI X fun s' hI' hlt => ih (mu s') (by omega) s' rfl hI')
  exact key _ s rfl h0

/-- where ways meet again: what follows is written once -/
def join {σ : Type} (X : (σ → Prop) → Prop) (k : σ → Prop) : Prop := X k

/-- a call that is made only if G; else its result is d -/
def gcall {α : Type} (G : Bool) (X : (α → Prop) → Prop) (d : α) (k : α → Prop) : Prop := if G then X k else k d

theorem gcall_of {α : Type} {G : Bool} {X : (α → Prop) → Prop} {d : α} {k : α → Prop} (f : α) (hX : G = true → k f → X k) (h : k (if G then f else d)) : gcall G X d k := by
  unfold gcall
  cases G
  · simpa using h
  · exact hX rfl (by simpa using h)

end Dec
