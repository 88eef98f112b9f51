/-
A row of numbers is copied into an array that stands in an own struct. The library's slices.SortFunc over an own row, in plain words: lent the row and a comparison that gives one plain number for whatever two elements of the row, it leaves a permutation of the row, sorted.
-/
import Derived.Test.YtfpchbpnoggogaaDecRh
import Derived.Laws.CopyRow
import Derived.Shelf.SlSortCmp.NoneTotal
set_option linter.unusedSimpArgs false
set_option linter.unusedVariables false
namespace Dec
open Go Go.RowKit
variable {M : Md → Prop}
end Dec
namespace Dec
open Go Go.RowKit Go.Proofs Go.Shelf Go.Lib Go.Sort
structure Cmp {α : Type} (l : List α) (c : α → α → Int) : Prop where
  irrefl : ∀ x ∈ l, ¬ c x x < 0
  trans : ∀ x ∈ l, ∀ y ∈ l, ∀ z ∈ l, c x y < 0 → c y z < 0 → c x z < 0
  ntrans : ∀ x ∈ l, ∀ y ∈ l, ∀ z ∈ l, ¬ c x y < 0 → ¬ c y z < 0 → ¬ c x z < 0
structure Srt {α : Type} (c : α → α → Int) (l l' : List α) : Prop where
  perm : l'.Perm l
  sorted : l'.Pairwise fun x y => ¬ c y x < 0
theorem EncL.zipped {α : Type} {E : α → List Value → Prop} : ∀ {l : List α} {xs : List Value}, EncL E l xs → ∃ zs : List (α × List Value), zs.map (·.1) = l ∧ (zs.map (·.2)).flatten = xs ∧ ∀ p ∈ zs, E p.1 p.2
  | [], xs, h => by unfold EncL at h; exact ⟨[], rfl, by simp [h], by simp⟩
  | x :: l, xs, ⟨c, r, e, h1, h2⟩ => by
    obtain ⟨zs, e1, e2, e3⟩ := EncL.zipped h2
    refine ⟨(x, c) :: zs, by simp [e1], by simp [e2, e], ?_⟩
    intro p hp
    rcases List.mem_cons.1 hp with rfl | hp
    · exact h1
    · exact e3 p hp
theorem EncL.of_zipped {α : Type} {E : α → List Value → Prop} : ∀ (zs : List (α × List Value)), (∀ p ∈ zs, E p.1 p.2) → EncL E (zs.map (·.1)) (zs.map (·.2)).flatten
  | [], _ => by simp [EncL]
  | p :: zs, h => ⟨p.2, _, rfl, h p (by simp), EncL.of_zipped zs fun q hq => h q (by simp [hq])⟩
theorem world_grown {W w' : World} (h : Bel W.heap.size W w') : ∃ q os', w' = grow (W.drewN q) os' := by
  refine ⟨w'.drawn - W.drawn, w'.heap.extract W.heap.size w'.heap.size, ?_⟩
  have h1 := h.below.os
  have h2 := h.below.tape
  have h3 := h.below.output
  have h4 := h.drawn
  have h5 : W.heap ++ w'.heap.extract W.heap.size w'.heap.size = w'.heap := by
    apply Array.ext_getElem?
    intro i
    have hs := h.size
    rw [Array.getElem?_append]
    split
    · rename_i hi
      exact (h.block i hi).symm
    · rename_i hi
      rw [Array.getElem?_extract]
      by_cases hj : i < w'.heap.size
      · rw [if_pos (by omega)]
        congr 1
        omega
      · rw [if_neg (by omega), Array.getElem?_eq_none (by omega)]
  cases W
  cases w'
  simp only [grow, World.drewN] at *
  subst h1; subst h2; subst h3
  simp only [World.mk.injEq, h5, true_and, and_true]
  omega
theorem block_sorted {α : Type} [Inhabited α] {enc : α → Value} {w : World} {g n : Nat} {os : Array Obj} (d : Array α) {k : Nat} (hk : k < w.heap.size) (hne : k ≠ g) :
    (sortWorld enc w g 0 n d os).heap[k]? = w.heap[k]? := by
  unfold sortWorld
  rw [heap_grow_old _ _ (by simpa using hk)]
  simp [putRow, mapBlock, Sort.ahead, Array.getElem?_modify, Ne.symm hne]
theorem same_sorted {α : Type} [Inhabited α] {enc : α → Value} {w : World} {g n : Nat} {os : Array Obj} {cur : Array Value} {e : TypeId} {fr : Nat × Nat} (d : Array α) (hb : w.heap[g]? = some (.cells cur e fr)) :
    (sortWorld enc w g 0 n d os).heap[g]? = some (.cells (putCells enc 0 d cur) e fr) := by
  have hg : g < w.heap.size := (Array.getElem?_eq_some_iff.1 hb).1
  unfold sortWorld
  rw [heap_grow_old _ _ (by simpa using hg)]
  simp [putRow, mapBlock, Sort.ahead, Array.getElem?_modify, hb, onCells]
theorem size_sorted {α : Type} [Inhabited α] {enc : α → Value} {w : World} {g n : Nat} {os : Array Obj} (d : Array α) : (sortWorld enc w g 0 n d os).heap.size = w.heap.size + os.size := by
  unfold sortWorld
  simp [putRow, mapBlock, Sort.ahead]
theorem take_putRow {α : Type} [Inhabited α] {enc : α → Value} (cur : Array Value) (d : Array α) (h : d.size ≤ cur.size) : (putCells enc 0 d cur).toList.take d.size = d.toList.map enc := by
  apply List.ext_getElem?
  intro j
  by_cases hj : j < d.size
  · rw [List.getElem?_take_of_lt hj, Array.getElem?_toList]
    simp [putCells, hj, show j < cur.size by omega]
  · rw [List.getElem?_take_eq_none (by omega), List.getElem?_eq_none (by simp; omega)]
theorem holds_row {α : Type} [Inhabited α] {enc : α → Value} {w : World} {g : Nat} {cur : Array Value} {e : TypeId} {d : Array α} (hb : w.heap[g]? = some (.cells cur e (0, 0))) (ht : cur.toList.take d.size = d.toList.map enc) : Go.Sort.Holds enc w g 0 d := by
  intro j hj
  refine ⟨?_, by simp [World.frozen?, hb]⟩
  have h1 : (cur.toList.take d.size)[j]? = (d.toList.map enc)[j]? := by rw [ht]
  rw [List.getElem?_take_of_lt hj] at h1
  simp only [World.cell?, hb, Nat.zero_add]
  simp only [Option.isSome_none, Bool.false_eq_true, if_false]
  rw [← Array.getElem?_toList, h1]
  simp [hj]
theorem attach_fun {α β : Type} (zs : List α) (f : α → β) : (zs.attach.map fun p => f p.1) = zs.map f := by
  have h : ((zs.attach.map Subtype.val).map f) = zs.map f := by rw [List.attach_map_subtype_val]
  rw [List.map_map] at h
  exact h
def SortVC {α : Type} (l : List α) (F : α × α → (Int → Prop) → Prop) (K : List α → Prop) : Prop :=
  ∃ c, Cmp l c ∧ roomN l.length ∧ (∀ x ∈ l, ∀ y ∈ l, F (x, y) (fun r => r = c x y)) ∧ ∀ l', Srt c l l' → K l'
end Dec
