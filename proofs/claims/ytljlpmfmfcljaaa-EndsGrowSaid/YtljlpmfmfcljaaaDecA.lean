/-
Plain types of Go data (whole numbers, bools, slices, structs) and the words in which a function's demand is written: no program in sight.
-/
import GoSem.Core.View
set_option linter.unusedSimpArgs false
set_option linter.unusedVariables false
namespace Dec
open Go
inductive Tree where
  | node (rule : Int) (kids : List Tree) (word : List Int)
def Tree.rule : Tree → Int
  | .node r _ _ => r
def Tree.kids : Tree → List Tree
  | .node _ k _ => k
def Tree.word : Tree → List Int
  | .node _ _ w => w
mutual
def Tree.beq : Tree → Tree → Bool
  | .node r k w, .node r' k' w' => decide (r = r') && Tree.beqs k k' && decide (w = w')
def Tree.beqs : List Tree → List Tree → Bool
  | [], [] => true
  | a :: l, b :: m => Tree.beq a b && Tree.beqs l m
  | _, _ => false
end
mutual
theorem Tree.beq_iff : ∀ a b : Tree, Tree.beq a b = true ↔ a = b
  | .node r k w, .node r' k' w' => by
    have := Tree.beqs_iff k k'
    simp only [Tree.beq, Bool.and_eq_true, decide_eq_true_eq, Tree.node.injEq, this, and_assoc]
theorem Tree.beqs_iff : ∀ l m : List Tree, Tree.beqs l m = true ↔ l = m
  | [], [] => by simp [Tree.beqs]
  | a :: l, b :: m => by
    have h1 := Tree.beq_iff a b
    have h2 := Tree.beqs_iff l m
    simp only [Tree.beqs, Bool.and_eq_true, h1, h2, List.cons.injEq]
  | [], _ :: _ => by simp [Tree.beqs]
  | _ :: _, [] => by simp [Tree.beqs]
end
instance Tree.decEq : DecidableEq Tree := fun a b => decidable_of_iff _ (Tree.beq_iff a b)
inductive Ty where
  | int (k : IntKind)
  | bool
  | sl (t : Ty)
  | pr (a b : Ty)
  | ar (n : Nat) (t : Ty)
  | mp (k v : Ty)
  | tr
abbrev Ty.T : Ty → Type
  | .int _ => Int
  | .bool => Bool
  | .sl t => List t.T
  | .pr a b => a.T × b.T
  | .ar _ t => List t.T
  | .mp k v => List (k.T × v.T)
  | .tr => Tree
def Ty.d : (t : Ty) → t.T
  | .int _ => (0 : Int)
  | .bool => false
  | .sl _ => []
  | .pr a b => (a.d, b.d)
  | .ar n t => List.replicate (n + 1) t.d
  | .mp _ _ => []
  | .tr => .node 0 [] []
def Ty.size : Ty → Nat
  | .int _ => 1
  | .bool => 1
  | .sl _ => 1
  | .pr a b => a.size + b.size
  | .ar n t => (n + 1) * t.size
  | .mp _ _ => 1
  | .tr => 3
def Ty.isPr : Ty → Bool
  | .pr _ _ => true
  | .ar _ _ => true
  | .tr => true
  | _ => false
def Ty.decEq : (t : Ty) → DecidableEq t.T
  | .int _ => Int.instDecidableEq
  | .bool => instDecidableEqBool
  | .sl t => @instDecidableEqList _ t.decEq
  | .pr a b => @instDecidableEqProd _ _ a.decEq b.decEq
  | .ar _ t => @instDecidableEqList _ t.decEq
  | .mp k v => @instDecidableEqList _ (@instDecidableEqProd _ _ k.decEq v.decEq)
  | .tr => Tree.decEq
def Ty.eqB (t : Ty) (x y : t.T) : Bool := @decide (x = y) (t.decEq x y)
def Ty.same : (a b : Ty) → Option (PLift (a = b))
  | .int k, .int k' => if h : k = k' then some ⟨by rw [h]⟩ else none
  | .bool, .bool => some ⟨rfl⟩
  | .sl a, .sl b => match Ty.same a b with
    | some h => some ⟨by rw [h.down]⟩
    | none => none
  | .pr a b, .pr c d => match Ty.same a c, Ty.same b d with
    | some h, some g => some ⟨by rw [h.down, g.down]⟩
    | _, _ => none
  | .ar n a, .ar m b => match Ty.same a b with
    | some h => if e : n = m then some ⟨by rw [h.down, e]⟩ else none
    | none => none
  | .mp a b, .mp c d => match Ty.same a c, Ty.same b d with
    | some h, some g => some ⟨by rw [h.down, g.down]⟩
    | _, _ => none
  | .tr, .tr => some ⟨rfl⟩
  | _, _ => none
theorem Ty.size_pos : (t : Ty) → 0 < t.size
  | .int _ => Nat.one_pos
  | .bool => Nat.one_pos
  | .sl _ => Nat.one_pos
  | .pr a b => Nat.add_pos_left a.size_pos _
  | .ar n t => Nat.mul_pos (Nat.succ_pos n) t.size_pos
  | .mp _ _ => Nat.one_pos
  | .tr => Nat.succ_pos 2
def InR (n : Int) : Prop := -9223372036854775808 ≤ n ∧ n ≤ 9223372036854775807
def inIdx (i : Int) (n : Nat) : Prop := 0 ≤ i ∧ i < (n : Int)
def room (n : Int) : Prop := 0 ≤ n ∧ n ≤ 1099511627776
def roomN (n : Nat) : Prop := n ≤ 1099511627776
def roomW (b n : Nat) : Prop := n * b ≤ 140737488355328
def wid : Ty → Nat
  | .int .u8 => 1
  | .int _ => 8
  | .bool => 1
  | .sl _ => 24
  | .pr a b => (wid a + 7) / 8 * 8 + (wid b + 7) / 8 * 8
  | .ar n t => (n + 1) * wid t
  | .mp _ _ => 8
  | .tr => 56
theorem wid_pos : ∀ t, 1 ≤ wid t
  | .int k => by cases k <;> simp [wid]
  | .bool => Nat.le_refl _
  | .sl _ => by simp [wid]
  | .pr a b => by have := wid_pos a; simp only [wid]; omega
  | .ar n t => by have := wid_pos t; simp only [wid]; exact Nat.le_trans this (Nat.le_mul_of_pos_left _ (by omega))
  | .mp _ _ => by simp [wid]
  | .tr => by simp [wid]
def imin (m n : Int) : Int := min m n
def bAnd (k : IntKind) (m n : Int) : Int := k.wrap (BitVec.ofInt k.bits m &&& BitVec.ofInt k.bits n).toNat
def bOr (k : IntKind) (m n : Int) : Int := k.wrap (BitVec.ofInt k.bits m ||| BitVec.ofInt k.bits n).toNat
def bXor (k : IntKind) (m n : Int) : Int := k.wrap (BitVec.ofInt k.bits m ^^^ BitVec.ofInt k.bits n).toNat
def bAndNot (k : IntKind) (m n : Int) : Int := k.wrap (BitVec.ofInt k.bits m &&& ~~~(BitVec.ofInt k.bits n)).toNat
def bShl (k : IntKind) (m n : Int) : Int := k.wrap (m * 2 ^ (min n.toNat k.bits))
def bShr (k : IntKind) (m n : Int) : Int := m.fdiv (2 ^ (min n.toNat k.bits))
def Ok : (t : Ty) → t.T → Prop
  | .int k, n => k.min ≤ n ∧ n ≤ k.max
  | .bool, _ => True
  | .sl t, l => l.length ≤ 9223372036854775807 ∧ ∀ x ∈ l, Ok t x
  | .pr a b, x => Ok a x.1 ∧ Ok b x.2
  | .ar n t, l => l.length = n + 1 ∧ ∀ x ∈ l, Ok t x
  | .mp k v, l => ∀ x ∈ l, Ok k x.1 ∧ Ok v x.2
  | .tr, _ => True
def mget {α β : Type} [DecidableEq α] : List (α × β) → α → Option β
  | [], _ => none
  | (k, v) :: r, x => if x = k then some v else mget r x
def mset {α β : Type} [DecidableEq α] : List (α × β) → α → β → List (α × β)
  | [], x, y => [(x, y)]
  | (k, v) :: r, x, y => if x = k then (x, y) :: r else (k, v) :: mset r x y
def midx {α β : Type} [DecidableEq α] : List (α × β) → α → Option Nat
  | [], _ => none
  | (k, _) :: r, x => if x = k then some 0 else (midx r x).map (· + 1)
def mtouch {α β : Type} [DecidableEq α] (l : List (α × β)) (x : α) (d : β) : List (α × β) := if (mget l x).isSome then l else l ++ [(x, d)]
def mplace {α β : Type} [DecidableEq α] (l : List (α × β)) (x : α) : Int := (((midx l x).getD l.length : Nat) : Int)
def mputAt {α β : Type} (l : List (α × β)) (i : Nat) (y : β) : List (α × β) := l.modify i fun e => (e.1, y)
def Loop {σ : Type} (B : σ → (σ → Prop) → Prop) (s : σ) : Prop := ∀ X : σ → Prop, (∀ s, B s X → X s) → X s
theorem Loop.by {σ : Type} {B : σ → (σ → Prop) → Prop} (I : σ → Prop) (mu : σ → Nat) {s : σ} (h0 : I s)
    (round : ∀ s, I s → ∀ X : σ → Prop, (∀ s', I s' → mu s' < mu s → X s') → B s X) : Loop B s := by
  intro X hX
  have key : ∀ n s, mu s = n → I s → X s := by
    intro n
    induction n using Nat.strongRecOn with
    | _ n ih =>
      intro s hn hI
      exact hX s (round s hI X fun s' hI' hlt => ih (mu s') (by omega) s' rfl hI')
  exact key _ s rfl h0
def gcall {α : Type} (G : Bool) (X : (α → Prop) → Prop) (d : α) (k : α → Prop) : Prop := if G then X k else k d
end Dec
