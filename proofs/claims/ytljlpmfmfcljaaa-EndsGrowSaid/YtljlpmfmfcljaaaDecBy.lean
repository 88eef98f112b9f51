/-
The library's slices.SortFunc over an own row, in plain words: lent the row and a comparison that gives one plain number for whatever two elements of the row, it leaves a permutation of the row, sorted. bytes.Compare, in plain words.
-/
import Derived.Test.YtljlpmfmfcljaaaDecRh
import Derived.Shelf.SlSortCmp.NoneTotal
import Derived.Lib.Bytealg
import Derived.Laws.Externs
set_option linter.unusedSimpArgs false
set_option linter.unusedVariables false
namespace Dec
open Go Go.RowKit Go.Proofs Go.Shelf Go.Lib Go.Sort
structure Cmp {α : Type} (l : List α) (c : α → α → Int) : Prop where
  irrefl : ∀ x ∈ l, ¬ c x x < 0
  trans : ∀ x ∈ l, ∀ y ∈ l, ∀ z ∈ l, c x y < 0 → c y z < 0 → c x z < 0
  ntrans : ∀ x ∈ l, ∀ y ∈ l, ∀ z ∈ l, ¬ c x y < 0 → ¬ c y z < 0 → ¬ c x z < 0
structure Srt {α : Type} (c : α → α → Int) (l l' : List α) : Prop where
  perm : l'.Perm l
  sorted : l'.Pairwise fun x y => ¬ c y x < 0
theorem EncL.zipped {α : Type} {E : α → List Value → Prop} : ∀ {l : List α} {xs : List Value}, EncL E l xs → ∃ zs : List (α × List Value), zs.map (·.1) = l ∧ (zs.map (·.2)).flatten = xs ∧ ∀ p ∈ zs, E p.1 p.2
  | [], xs, h => by unfold EncL at h; exact ⟨[], rfl, by simp [h], by simp⟩
  | x :: l, xs, ⟨c, r, e, h1, h2⟩ => by
    obtain ⟨zs, e1, e2, e3⟩ := EncL.zipped h2
    refine ⟨(x, c) :: zs, by simp [e1], by simp [e2, e], ?_⟩
    intro p hp
    rcases List.mem_cons.1 hp with rfl | hp
    · exact h1
    · exact e3 p hp
theorem EncL.of_zipped {α : Type} {E : α → List Value → Prop} : ∀ (zs : List (α × List Value)), (∀ p ∈ zs, E p.1 p.2) → EncL E (zs.map (·.1)) (zs.map (·.2)).flatten
  | [], _ => by simp [EncL]
  | p :: zs, h => ⟨p.2, _, rfl, h p (by simp), EncL.of_zipped zs fun q hq => h q (by simp [hq])⟩
def oneC : Ty → Bool
  | .int _ => true
  | .bool => true
  | .sl _ => true
  | _ => false
theorem Enc.oneC {w : World} {S : Nat → Prop} {t : Ty} (ht : oneC t = true) {x : t.T} {cs : List Value} (h : Enc w S t x cs) : ∃ v, cs = [v] ∧ v.oneCell' = true := by
  cases t with
  | int k => exact ⟨_, h.1, rfl⟩
  | bool => exact ⟨_, h, rfl⟩
  | sl t => obtain ⟨a, c, e, _⟩ := h; exact ⟨_, e, rfl⟩
  | _ => simp [Dec.oneC] at ht
theorem oneC_size {t : Ty} (ht : oneC t = true) : t.size = 1 := by
  cases t <;> simp [oneC] at ht <;> rfl
theorem oneC_mk {t : Ty} (ht : oneC t = true) (v : Value) : mkVal t [v] = v := by
  cases t <;> simp [oneC] at ht <;> rfl
theorem world_grown {W w' : World} (h : Bel W.heap.size W w') : ∃ q os', w' = grow (W.drewN q) os' := by
  refine ⟨w'.drawn - W.drawn, w'.heap.extract W.heap.size w'.heap.size, ?_⟩
  have h1 := h.below.os
  have h2 := h.below.tape
  have h3 := h.below.output
  have h4 := h.drawn
  have h5 : W.heap ++ w'.heap.extract W.heap.size w'.heap.size = w'.heap := by
    apply Array.ext_getElem?
    intro i
    have hs := h.size
    rw [Array.getElem?_append]
    split
    · rename_i hi
      exact (h.block i hi).symm
    · rename_i hi
      rw [Array.getElem?_extract]
      by_cases hj : i < w'.heap.size
      · rw [if_pos (by omega)]
        congr 1
        omega
      · rw [if_neg (by omega), Array.getElem?_eq_none (by omega)]
  cases W
  cases w'
  simp only [grow, World.drewN] at *
  subst h1; subst h2; subst h3
  simp only [World.mk.injEq, h5, true_and, and_true]
  omega
theorem block_sorted {α : Type} [Inhabited α] {enc : α → Value} {w : World} {g n : Nat} {os : Array Obj} (d : Array α) {k : Nat} (hk : k < w.heap.size) (hne : k ≠ g) :
    (sortWorld enc w g 0 n d os).heap[k]? = w.heap[k]? := by
  unfold sortWorld
  rw [heap_grow_old _ _ (by simpa using hk)]
  simp [putRow, mapBlock, Sort.ahead, Array.getElem?_modify, Ne.symm hne]
theorem same_sorted {α : Type} [Inhabited α] {enc : α → Value} {w : World} {g n : Nat} {os : Array Obj} {cur : Array Value} {e : TypeId} {fr : Nat × Nat} (d : Array α) (hb : w.heap[g]? = some (.cells cur e fr)) :
    (sortWorld enc w g 0 n d os).heap[g]? = some (.cells (putCells enc 0 d cur) e fr) := by
  have hg : g < w.heap.size := (Array.getElem?_eq_some_iff.1 hb).1
  unfold sortWorld
  rw [heap_grow_old _ _ (by simpa using hg)]
  simp [putRow, mapBlock, Sort.ahead, Array.getElem?_modify, hb, onCells]
theorem size_sorted {α : Type} [Inhabited α] {enc : α → Value} {w : World} {g n : Nat} {os : Array Obj} (d : Array α) : (sortWorld enc w g 0 n d os).heap.size = w.heap.size + os.size := by
  unfold sortWorld
  simp [putRow, mapBlock, Sort.ahead]
theorem take_putRow {α : Type} [Inhabited α] {enc : α → Value} (cur : Array Value) (d : Array α) (h : d.size ≤ cur.size) : (putCells enc 0 d cur).toList.take d.size = d.toList.map enc := by
  apply List.ext_getElem?
  intro j
  by_cases hj : j < d.size
  · rw [List.getElem?_take_of_lt hj, Array.getElem?_toList]
    simp [putCells, hj, show j < cur.size by omega]
  · rw [List.getElem?_take_eq_none (by omega), List.getElem?_eq_none (by simp; omega)]
theorem holds_row {α : Type} [Inhabited α] {enc : α → Value} {w : World} {g : Nat} {cur : Array Value} {e : TypeId} {d : Array α} (hb : w.heap[g]? = some (.cells cur e (0, 0))) (ht : cur.toList.take d.size = d.toList.map enc) : Go.Sort.Holds enc w g 0 d := by
  intro j hj
  refine ⟨?_, by simp [World.frozen?, hb]⟩
  have h1 : (cur.toList.take d.size)[j]? = (d.toList.map enc)[j]? := by rw [ht]
  rw [List.getElem?_take_of_lt hj] at h1
  simp only [World.cell?, hb, Nat.zero_add]
  simp only [Option.isSome_none, Bool.false_eq_true, if_false]
  rw [← Array.getElem?_toList, h1]
  simp [hj]
theorem attach_fun {α β : Type} (zs : List α) (f : α → β) : (zs.attach.map fun p => f p.1) = zs.map f := by
  have h : ((zs.attach.map Subtype.val).map f) = zs.map f := by rw [List.attach_map_subtype_val]
  rw [List.map_map] at h
  exact h
theorem lcalls_sort {P : Program} {ρ : Ren} (L : SlLaysF.n6 P ρ) {g : FuncId} {caps : List Dat} (t : Ty) (ht : oneC t = true) (e : TypeId) (r : Nat) (l : List t.T) (c : t.T → t.T → Int) (hc : Cmp l c) (hrm : roomN l.length) (hfg : FnOk P g)
    (hcmp : ∀ x ∈ l, ∀ y ∈ l, ACalls P g ([toV1 t x, toV1 t y] ++ caps.map fun d => .c (.ad d.1 d.2)) (fun res => res = [.c (.p (.int .i64) (c x y))])) :
    LCalls P (ρ.f 6) [r] [r] [(r, [], .arr e t l)] [.c (.own r), .c (.fn g caps)] (fun av hp' => ∃ l', av = .tup [] ∧ hp' = [(r, [], .arr e t l')] ∧ Srt c l l') := by
  intro w G vs hS hcol hcon hargs
  obtain ⟨xs, hE, hrow, hmax, hown⟩ := hcon _ (List.mem_singleton.2 rfl)
  match vs, hargs with
  | [v1, v2], ⟨⟨hv1, hsl⟩, ⟨cvs, hv2, hcv⟩, _⟩ =>
  have hz := oneC_size ht
  rw [hz] at hrow
  subst hv1
  subst hv2
  have fin0 : ∀ w' : World, w' = w → l = [] → (∃ v G' av hp', Ending.returned (.tuple #[]) = .returned v ∧ Fr (Xof [r] G) w.heap.size w w' ∧ (∀ b, G'.S b → b < w'.heap.size ∧ (G.S b ∨ w.heap.size ≤ b ∨ Xof [r] G b)) ∧
      (∀ b q, G'.col b = some q → (Xof [r] G b ∨ w.heap.size ≤ b) ∧ b < w'.heap.size ∧ ¬ G'.S b) ∧ (∀ q ∈ [r], G'.rho q = G.rho q) ∧ AVRep w' G' av v ∧ okHp [r] hp' = true ∧ (∀ e ∈ hp', ConRep w' G' e.1 e.2.2) ∧ ∃ l', av = .tup [] ∧ hp' = [(r, [], .arr e t l')] ∧ Srt c l l') := by
    rintro w' rfl hl
    let G' : Ghost := { S := G.S, col := fun b => if G.col b = some r then some r else none, rho := G.rho }
    refine ⟨_, G', .tup [], [(r, [], .arr e t [])], rfl, Fr.refl _ _ _, fun b hb => ⟨hS b hb, .inl hb⟩, ?_, fun _ _ => rfl, ⟨[], rfl, trivial⟩, ?_, ?_, [], rfl, rfl, ?_⟩
    · intro b q hq
      by_cases h : G.col b = some r
      · exact ⟨.inl ⟨r, by simp, h⟩, hcol b r h⟩
      · simp [G', h] at hq
    · simp [okHp, Con.tagsIn]
    · intro x hx
      rw [List.mem_singleton] at hx
      subst hx
      subst hl
      refine ⟨xs, hE, by rw [hz]; exact hrow, hmax, fun b hb => ?_⟩
      simp [G', hown b hb]
    · subst hl; exact ⟨List.Perm.refl _, List.Pairwise.nil⟩
  by_cases hl : l = []
  · have hn : ∃ p cap, G.rho r = .slice p 0 cap := by
      rcases hrow.2 with ⟨h1, _⟩ | ⟨g', cap, cur, h1, _⟩
      · exact ⟨_, _, h1⟩
      · exact ⟨_, _, by rw [h1, hl]; rfl⟩
    obtain ⟨p, cap, hp⟩ := hn
    rw [hp]
    refine (AnyF.slices_SortFunc_none { L with } p cap _ w).mono ?_
    rintro en w' ⟨rfl, hw⟩
    exact fin0 w' hw hl
  · obtain ⟨zs, z1, z2, z3⟩ := hE.zipped
    rcases hrow.2 with ⟨_, h0⟩ | ⟨gb, cap, cur, h1, _, hb, h2, h3, h4, h5⟩
    · exact absurd (List.eq_nil_of_length_eq_zero h0) hl
    · have hgb : gb < w.heap.size := (Array.getElem?_eq_some_iff.1 hb).1
      have hgcol : G.col gb = some r := hown gb (by rw [h1]; rfl)
      have hgS := (hcol gb r hgcol).2
      obtain ⟨z0, hz0⟩ : ∃ z, z ∈ zs := by
        cases zs with
        | nil => exact absurd (by simpa using z1.symm) hl
        | cons a _ => exact ⟨a, by simp⟩
      let α : Type := { p : t.T × List Value // p ∈ zs }
      let _ : Inhabited α := ⟨⟨z0, hz0⟩⟩
      let enc : α → Value := fun p => p.1.2.headD undef
      have henc : ∀ p : α, p.1.2 = [enc p] ∧ (enc p).oneCell' = true := by
        intro p
        obtain ⟨v, e1, e2⟩ := Enc.oneC ht (z3 p.1 p.2)
        have : enc p = v := by show p.1.2.headD undef = v; rw [e1]; rfl
        rw [this]; exact ⟨e1, e2⟩
      let cf : α → α → Int := fun p q => c p.1.1 q.1.1
      have hmem : ∀ p : α, p.1.1 ∈ l := fun p => by rw [← z1]; exact List.mem_map_of_mem p.2
      have hO : SWO (ltOf cf) := by
        constructor
        · intro x; simpa [ltOf, cf] using hc.irrefl _ (hmem x)
        · intro x y z; simpa [ltOf, cf] using hc.trans _ (hmem x) _ (hmem y) _ (hmem z)
        · intro x y z; simpa [ltOf, cf] using hc.ntrans _ (hmem x) _ (hmem y) _ (hmem z)
      let d : Array α := zs.attach.toArray
      have hdl : d.toList = zs.attach := by simp [d]
      have hds : d.size = l.length := by rw [← z1]; show zs.attach.toArray.size = _; rw [List.size_toArray, List.length_attach, List.length_map]
      have hflat : ∀ ys : List α, (ys.map fun p => p.1.2).flatten = ys.map enc := by
        intro ys
        induction ys with
        | nil => rfl
        | cons a ys ih => rw [List.map_cons, List.flatten_cons, ih, List.map_cons, (henc a).1]; rfl
      have hxs : xs = d.toList.map enc := by
        rw [← hflat, hdl, ← z2]
        congr 1
        exact (attach_fun zs (fun p => p.2)).symm
      have hHo : Go.Sort.Holds enc w gb 0 d := holds_row hb (by rw [← hxs, hds]; simpa using h5)
      have hSk : ∀ (m : Nat) (os : Array Obj) (dk : Array α), ∀ b, G.S b → G.S b ∧ (sortWorld enc w gb 0 m dk os).heap[b]? = w.heap[b]? := fun m os dk b hb' =>
        ⟨hb', block_sorted dk (hS b hb') (fun e => by subst e; exact hgS hb')⟩
      have hlay : CmpLays1 P g cvs.toArray enc cf gb 0 d.size w := by
        intro m os dk hdk x y
        have hk := hSk m os dk
        have hx := Enc.keep hk (z3 x.1 x.2)
        have hy := Enc.keep hk (z3 y.1 y.2)
        have ha : All2 (ARep (sortWorld enc w gb 0 m dk os) G.S) ([toV1 t x.1.1, toV1 t y.1.1] ++ caps.map fun d => .c (.ad d.1 d.2)) ([enc x, enc y] ++ cvs) := by
          refine ⟨.inl ⟨t, _, _, rfl, hx, ?_⟩, .inl ⟨t, _, _, rfl, hy, ?_⟩, caps_rep (All2.imp (fun _ _ _ hh => AdRep.keep hk hh) hcv)⟩
          · rw [(henc x).1, oneC_mk ht]
          · rw [(henc y).1, oneC_mk ht]
        have hs' : ∀ b, G.S b → b < (sortWorld enc w gb 0 m dk os).heap.size := fun b hb' => by rw [size_sorted]; have := hS b hb'; omega
        have hr := hcmp _ (hmem x) _ (hmem y) _ G.S _ hs' ha
        have e1 : (#[enc x, enc y] ++ cvs.toArray : Array Value) = ([enc x, enc y] ++ cvs).toArray := by simp
        rw [e1]
        refine hr.mono ?_
        rintro en w' ⟨us, res, S', rfl, h6, _, h7, rfl⟩
        match us, h7 with
        | [u], ⟨⟨tt, yy, cs, e2, he, e3⟩, _⟩ =>
          refine ⟨?_, world_grown h6⟩
          have h8 := PRep.v1 (G := ⟨S', fun _ => none, fun _ => undef⟩) (⟨tt, yy, cs, e2, he, e3⟩ : PRep w' S' (.c (.p (.int .i64) (c x.1.1 y.1.1))) u)
          have h9 : Enc w' S' (.int .i64) (c x.1.1 y.1.1) [u] := h8
          have h10 := h9.1
          simp only [List.cons.injEq, and_true] at h10
          rw [h10]
          rfl
      rw [h1, show l.length = d.size from hds.symm]
      refine (Any.slices_SortFunc L enc (fun p => (henc p).2) cf hO g cvs.toArray gb 0 cap d w (fun args w => hfg args w) hlay hHo hgb (by rw [hds]; unfold roomN at hrm; omega)).mono ?_
      rintro en w' ⟨rfl, d', n, os, hp, hso, rfl⟩
      let l' : List t.T := d'.toList.map fun p => p.1.1
      have hl'd : d'.size = d.size := hp.1
      have hperm : d'.toList.Perm d.toList := by
        have h6 := hp.2.2
        rw [Array.extract_size] at h6
        rw [show d'.extract 0 d.size = d' from by rw [← hl'd, Array.extract_size]] at h6
        exact h6
      have hl'p : l'.Perm l := by
        have h6 := hperm.map (fun p => p.1.1)
        rw [hdl] at h6
        have h7 : (zs.attach.map fun p => p.1.1) = l := by
          rw [← z1]; exact attach_fun zs (fun p => p.1)
        rw [h7] at h6
        exact h6
      have hl'l : l'.length = l.length := hl'p.length_eq
      let G' : Ghost := { S := G.S, col := fun b => if G.col b = some r then some r else none, rho := G.rho }
      refine ⟨_, G', .tup [], [(r, [], .arr e t l')], rfl, ⟨?_, rfl, rfl, rfl, ?_, ?_⟩, ?_, ?_, fun _ _ => rfl, ⟨[], rfl, trivial⟩, ?_, ?_, l', rfl, rfl, hl'p, ?_⟩
      · show w.drawn ≤ w.drawn + n; omega
      · rw [size_sorted]; omega
      · intro k hk hx
        exact block_sorted d' hk fun e => hx ⟨r, by simp, by rw [e]; exact hgcol⟩
      · intro b hb'
        exact ⟨by rw [size_sorted]; have := hS b hb'; omega, .inl hb'⟩
      · intro b q hq
        by_cases h : G.col b = some r
        · have := hcol b r h
          exact ⟨.inl ⟨r, by simp, h⟩, by rw [size_sorted]; omega, this.2⟩
        · simp [G', h] at hq
      · simp [okHp, Con.tagsIn]
      · intro x hx
        rw [List.mem_singleton] at hx
        subst hx
        refine ⟨d'.toList.map enc, ?_, ?_, by show l'.length ≤ maxLen; omega, fun b hb' => ?_⟩
        · rw [← hflat]
          have := EncL.of_zipped (E := Enc (sortWorld enc w gb 0 n d' os) G.S t) (d'.toList.map fun p => p.1) (fun p hp' => by
            obtain ⟨q, _, rfl⟩ := List.mem_map.1 hp'
            exact Enc.keep (hSk n os d') (z3 q.1 q.2))
          simpa [l', List.map_map, Function.comp_def] using this
        · refine ⟨by simp [l', hz], .inr ⟨gb, cap, _, ?_, Nat.zero_le _, same_sorted d' hb, by show l'.length ≤ cap; omega, h3, ?_, ?_⟩⟩
          · show G.rho r = _
            rw [h1]; simp only [l'] at hl'l ⊢; rw [hl'l]
          · simp [putCells, h4, hz]
          · rw [hz, Nat.mul_one]
            have h6 := take_putRow (enc := enc) cur d' (by omega)
            have h7 : l'.length = d'.size := by simp [l']
            show List.take l'.length _ = _
            rw [h7]; exact h6
        · simp [G', hown b hb']
      · rw [List.pairwise_iff_getElem]
        intro i j hi hj hij
        have h6 := hso i j (Nat.zero_le _) hij (by omega)
        have h7 : l'.length = d'.size := by simp [l']
        rw [getElem!_pos d' i (by omega), getElem!_pos d' j (by omega)] at h6
        simpa [ltOf, cf, l'] using h6
def SortVC {α : Type} (l : List α) (F : α × α → (Int → Prop) → Prop) (K : List α → Prop) : Prop :=
  ∃ c, Cmp l c ∧ roomN l.length ∧ (∀ x ∈ l, ∀ y ∈ l, F (x, y) (fun r => r = c x y)) ∧ ∀ l', Srt c l l' → K l'
theorem lcalls_sortF {P : Program} {ρ : Ren} (L : SlLaysF.n6 P ρ) {g : FuncId} {caps : List Dat} (t : Ty) (ht : oneC t = true) (e : TypeId) (r : Nat) (l : List t.T) {K : List t.T → Prop} (F : t.T × t.T → (Int → Prop) → Prop)
    (hF : FnIs P g caps (fun (x : t.T × t.T) => [toV1 t x.1, toV1 t x.2]) (fun (y : Int) => [toV1 (.int .i64) y]) F) (h : SortVC l F K) :
    LCalls P (ρ.f 6) [r] [r] [(r, [], .arr e t l)] [.c (.own r), .c (.fn g caps)] (fun av hp' => ∃ y, av = .tup [] ∧ hp' = [(r, [], .arr e t y)] ∧ K y) := by
  obtain ⟨c, hc, hr, hv, hk⟩ := h
  intro w G vs h1 h2 h3 h4
  refine (lcalls_sort L t ht e r l c hc hr hF.1 (fun x hx y hy => ?_) w G vs h1 h2 h3 h4).mono ?_
  · intro w S vs' k1 k2
    refine (hF.2 (x, y) _ (hv x hx y hy) w S vs' k1 k2).mono ?_
    rintro en w' ⟨us, res, S', a1, a2, a3, a4, z, rfl, rfl⟩
    exact ⟨us, _, S', a1, a2, a3, a4, rfl⟩
  · rintro en w' ⟨v, G', av, hp', a1, a2, a3, a4, a5, a6, a7, a8, l', a9, a10, a11⟩
    exact ⟨v, G', av, hp', a1, a2, a3, a4, a5, a6, a7, a8, l', a9, a10, hk l' a11⟩
end Dec
namespace Dec
open Go Go.RowKit Go.Proofs
def cmpI : List Int → List Int → Int
  | [], [] => 0
  | [], _ :: _ => -1
  | _ :: _, [] => 1
  | a :: l, b :: m => if a < b then -1 else if b < a then 1 else cmpI l m
def byteOf (n : Int) : UInt8 := n.toNat.toUInt8
theorem byteOf_lt {a b : Int} (ha : 0 ≤ a ∧ a ≤ 255) (hb : 0 ≤ b ∧ b ≤ 255) : byteOf a < byteOf b ↔ a < b := by
  unfold byteOf
  rw [UInt8.lt_iff_toNat_lt]
  simp only [Nat.toUInt8_eq, UInt8.toNat_ofNat']
  omega
theorem cmp_bytes : ∀ (l m : List Int), (∀ x ∈ l, 0 ≤ x ∧ x ≤ 255) → (∀ x ∈ m, 0 ≤ x ∧ x ≤ 255) → Lib.compareBytes (l.map byteOf) (m.map byteOf) = cmpI l m
  | [], [], _, _ => rfl
  | [], _ :: _, _, _ => rfl
  | _ :: _, [], _, _ => rfl
  | a :: l, b :: m, h1, h2 => by
    have ih := cmp_bytes l m (fun x hx => h1 x (by simp [hx])) (fun x hx => h2 x (by simp [hx]))
    have ha := h1 a (by simp)
    have hb := h2 b (by simp)
    simp only [List.map_cons, Lib.compareBytes, cmpI, byteOf_lt ha hb, byteOf_lt hb ha, ih]
theorem run_loadBytes {P : Program} {w : World} : ∀ (l : List Int) (b off : Nat) (acc : ByteArray), (∀ j x, l[j]? = some x → w.cell? ⟨b, off + j, none⟩ = some (.int .u8 x)) →
    (Extern.Bytes.loadBytes ⟨b, off, none⟩ l.length acc).run P w = .ok ⟨acc.data ++ (l.map byteOf).toArray⟩ w
  | [], b, off, acc, _ => by simp [Extern.Bytes.loadBytes]
  | x :: l, b, off, acc, h => by
    have h0 := h 0 x rfl
    have ih := run_loadBytes (P := P) (w := w) l b (off + 1) (acc.push (byteOf x)) (fun j y hy => by rw [Nat.add_right_comm, Nat.add_assoc]; exact h (j + 1) y hy)
    rw [Nat.add_zero] at h0
    unfold Extern.Bytes.loadBytes
    simp only [List.length_cons, Sem.run_bind, run_load, h0, Result.andThen]
    have e1 : (⟨b, off, none⟩ : Addr).add 1 = ⟨b, off + 1, none⟩ := rfl
    rw [e1]
    have e2 : x.toNat.toUInt8 = byteOf x := rfl
    rw [e2, ih]
    simp [ByteArray.push]
theorem run_bytesOf {P : Program} {w : World} {S : Nat → Prop} {l : List Int} {v : Value} (h : Enc w S (.sl (.int .u8)) l [v]) : (Extern.Bytes.bytesOf v).run P w = .ok ⟨(l.map byteOf).toArray⟩ w := by
  obtain ⟨a, c, e, h1, h2, h3⟩ := h
  simp only [List.cons.injEq, and_true] at e
  subst e
  rcases h3 with rfl | ⟨b, off, cells, ty, fz, xs, rfl, _, hb, hE, hj⟩
  · cases a with
    | none => simp [Extern.Bytes.bytesOf, Sem.run_pure]; rfl
    | some a => simp [Extern.Bytes.bytesOf, Extern.Bytes.loadBytes]; rfl
  · have hx : ∀ j x, l[j]? = some x → w.cell? ⟨b, off + j, none⟩ = some (.int .u8 x) := by
      intro j x hx
      obtain ⟨cs, he, hg⟩ := EncL.get (n := 1) (fun x c hh => by rw [hh.1]; rfl) j x hE hx
      have h4 := hg 0 (.int .u8 x) (by rw [he.1]; rfl)
      rw [Nat.mul_one, Nat.add_zero] at h4
      have h5 := hj _ _ h4
      rw [cells_cell hb]; exact h5
    simp only [Extern.Bytes.bytesOf]
    rw [run_loadBytes l b off _ hx]
    simp [ByteArray.empty, ByteArray.emptyWithCapacity]; rfl
theorem run_compare {P : Program} {w : World} {S : Nat → Prop} {l m : List Int} {v u : Value} (h1 : Enc w S (.sl (.int .u8)) l [v]) (h2 : Enc w S (.sl (.int .u8)) m [u]) :
    (Extern.BytealgCompare.compare #[v, u]).run P w = .ok (.int .i64 (cmpI l m)) w := by
  change Sem.run P (do pure (goInt (Extern.BytealgCompare.cmp (← Extern.Bytes.bytesOf v) (← Extern.Bytes.bytesOf u)))) w = _
  simp only [Sem.run_bind, run_bytesOf h1, run_bytesOf h2, Sem.run_pure, Result.andThen]
  rw [Lib.cmp_eq]
  have o1 := (Enc.ok h1).2
  have o2 := (Enc.ok h2).2
  have r : ∀ {l : List Int}, (∀ x ∈ l, Ok (.int .u8) x) → ∀ x ∈ l, 0 ≤ x ∧ x ≤ 255 := fun h x hx => by
    have := h x hx
    simpa [Ok, IntKind.min, IntKind.max, IntKind.bits, IntKind.signed] using this
  have := cmp_bytes l m (r o1) (r o2)
  simp only
  rw [this]
  rfl
end Dec
