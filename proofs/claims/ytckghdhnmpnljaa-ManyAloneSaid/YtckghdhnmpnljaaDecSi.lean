/-
The library's slices.Sort over an own row of ints, in plain words: lent the row, it leaves it sorted.
-/
import Derived.Test.YtckghdhnmpnljaaDecSo
import Derived.Shelf.Sort.Plain
import Derived.Shelf.Slices.In.SortNone
set_option linter.unusedSimpArgs false
set_option linter.unusedVariables false
namespace Dec
open Go Go.RowKit Go.Proofs Go.Shelf Go.Lib Go.Sort
def srtI (l : List Int) : List Int := l.mergeSort fun x y => decide (x ≤ y)
def SortI (l : List Int) (K : List Int → Prop) : Prop := roomN l.length ∧ K (srtI l)
theorem srtI_perm (l : List Int) : (srtI l).Perm l := List.mergeSort_perm ..
theorem encL_ints {w : World} {S : Nat → Prop} : ∀ {l : List Int} {xs : List Value}, EncL (Enc w S (.int .i64)) l xs → xs = l.map (Value.int .i64) ∧ ∀ x ∈ l, IntKind.min .i64 ≤ x ∧ x ≤ IntKind.max .i64
  | [], xs, h => by unfold EncL at h; exact ⟨by simp [h], fun x hx => by cases hx⟩
  | x :: l, xs, ⟨c, r, e, h1, h2⟩ => by
    obtain ⟨e2, h3⟩ := encL_ints h2
    refine ⟨by rw [e, e2, h1.1]; rfl, fun y hy => ?_⟩
    rcases List.mem_cons.1 hy with rfl | hy
    · exact h1.2
    · exact h3 y hy
theorem ints_encL {w : World} {S : Nat → Prop} : ∀ {l : List Int}, (∀ x ∈ l, IntKind.min .i64 ≤ x ∧ x ≤ IntKind.max .i64) → EncL (Enc w S (.int .i64)) l (l.map (Value.int .i64))
  | [], _ => by simp [EncL]
  | x :: l, h => ⟨[.int .i64 x], _, rfl, ⟨rfl, h x (List.mem_cons_self ..)⟩, ints_encL fun y hy => h y (List.mem_cons_of_mem _ hy)⟩
theorem lcalls_sortI {P : Program} {ρ : Ren} (L : Lays.n189 P ρ) (e : TypeId) (r : Nat) (l : List Int) {K : List Int → Prop} (hK : SortI l K) :
    LCalls P (ρ.f 189) [r] [r] [(r, [], .arr e (.int .i64) l)] [.c (.own r)] (fun av hp' => ∃ y : List Int, av = .tup [] ∧ hp' = [(r, [], .arr e (.int .i64) y)] ∧ K y) := by
  obtain ⟨hrm, hK⟩ := hK
  intro w G vs hS hcol hcon hargs
  obtain ⟨xs, hE, hrow, hmax, hown⟩ := hcon _ (List.mem_singleton.2 rfl)
  match vs, hargs with
  | [v1], ⟨⟨hv1, hsl⟩, _⟩ =>
  have hz : (Ty.int IntKind.i64).size = 1 := rfl
  rw [hz] at hrow
  subst hv1
  obtain ⟨hxs, hok⟩ := encL_ints hE
  by_cases hl : l = []
  · have hn : ∃ p cap, G.rho r = .slice p 0 cap := by
      rcases hrow.2 with ⟨h1, _⟩ | ⟨g', cap, cur, h1, _⟩
      · exact ⟨_, _, h1⟩
      · exact ⟨_, _, by rw [h1, hl]; rfl⟩
    obtain ⟨p, cap, hp⟩ := hn
    rw [hp]
    refine (Any.slices_Sort_int_none L p cap w).mono ?_
    rintro en w' ⟨rfl, rfl⟩
    let G' : Ghost := { S := G.S, col := fun b => if G.col b = some r then some r else none, rho := G.rho }
    refine ⟨_, G', .tup [], [(r, [], .arr e (.int .i64) ([] : List Int))], rfl, Fr.refl _ _ _, fun b hb => ⟨hS b hb, .inl hb⟩, ?_, fun _ _ => rfl, ⟨[], rfl, trivial⟩, ?_, ?_, [], rfl, rfl, ?_⟩
    · intro b q hq
      by_cases h : G.col b = some r
      · exact ⟨.inl ⟨r, by simp, h⟩, hcol b r h⟩
      · simp [G', h] at hq
    · simp [okHp, Con.tagsIn]
    · intro x hx
      rw [List.mem_singleton] at hx
      subst hx
      subst hl
      refine ⟨xs, hE, by rw [hz]; exact hrow, hmax, fun b hb => ?_⟩
      simp [G', hown b hb]
    · subst hl; rw [show srtI [] = [] by simp [srtI]] at hK; exact hK
  · rcases hrow.2 with ⟨_, h0⟩ | ⟨gb, cap, cur, h1, _, hb, h2, h3, h4, h5⟩
    · exact absurd (List.eq_nil_of_length_eq_zero h0) hl
    · have hgb : gb < w.heap.size := (Array.getElem?_eq_some_iff.1 hb).1
      have hgcol : G.col gb = some r := hown gb (by rw [h1]; rfl)
      have hgS := (hcol gb r hgcol).2
      have hHo : Go.Sort.Holds (Value.int .i64) w gb 0 l.toArray := holds_row hb (by rw [List.toList_toArray, ← hxs, List.size_toArray]; simpa using h5)
      rw [h1]
      refine (Any.slices_Sort_int L gb 0 cap l w hHo hgb (by unfold roomN at hrm; omega)).mono ?_
      rintro en w' ⟨rfl, n, os, hw⟩
      have hw : w' = sortWorld (Value.int .i64) w gb 0 n (srtI l).toArray os := hw
      subst hw
      have hll : (srtI l).length = l.length := (srtI_perm l).length_eq
      have hSk : ∀ b, G.S b → G.S b ∧ (sortWorld (Value.int .i64) w gb 0 n (srtI l).toArray os).heap[b]? = w.heap[b]? := fun b hb' =>
        ⟨hb', block_sorted _ (hS b hb') (fun e => by subst e; exact hgS hb')⟩
      let G' : Ghost := { S := G.S, col := fun b => if G.col b = some r then some r else none, rho := G.rho }
      refine ⟨_, G', .tup [], [(r, [], .arr e (.int .i64) (srtI l))], rfl, ⟨?_, rfl, rfl, rfl, ?_, ?_⟩, ?_, ?_, fun _ _ => rfl, ⟨[], rfl, trivial⟩, ?_, ?_, srtI l, rfl, rfl, hK⟩
      · show w.drawn ≤ w.drawn + n; omega
      · rw [size_sorted]; omega
      · intro k hk hx
        exact block_sorted _ hk fun e => hx ⟨r, by simp, by rw [e]; exact hgcol⟩
      · intro b hb'
        exact ⟨by rw [size_sorted]; have := hS b hb'; omega, .inl hb'⟩
      · intro b q hq
        by_cases h : G.col b = some r
        · have := hcol b r h
          exact ⟨.inl ⟨r, by simp, h⟩, by rw [size_sorted]; omega, this.2⟩
        · simp [G', h] at hq
      · simp [okHp, Con.tagsIn]
      · intro x hx
        rw [List.mem_singleton] at hx
        subst hx
        refine ⟨(srtI l).map (Value.int .i64), ints_encL (fun x hx => hok x ((srtI_perm l).subset hx)), ?_, by show (srtI l).length ≤ maxLen; omega, fun b hb' => ?_⟩
        · refine ⟨by simp [hz], .inr ⟨gb, cap, _, ?_, Nat.zero_le _, same_sorted _ hb, by rw [hll]; exact h2, h3, ?_, ?_⟩⟩
          · show G.rho r = _
            rw [h1, hll]
          · simp [putCells, h4, hz]
          · rw [hz, Nat.mul_one]
            have h6 := take_putRow (enc := Value.int .i64) cur (srtI l).toArray (by rw [List.size_toArray, hll]; omega)
            rw [List.size_toArray, List.toList_toArray] at h6
            exact h6
        · simp [G', hown b hb']
end Dec
