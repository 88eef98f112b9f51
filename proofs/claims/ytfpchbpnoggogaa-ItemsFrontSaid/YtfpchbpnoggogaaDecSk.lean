/-
The library's slices.SortFunc over an own row of structs (DecSo at elements of several cells).
-/
import Derived.Test.YtfpchbpnoggogaaDecSo
set_option linter.unusedSimpArgs false
set_option linter.unusedVariables false
namespace Dec
open Go Go.RowKit Go.Proofs Go.Shelf Go.Lib Go.Sort
theorem flat_get {β : Type} {k : Nat} (hk : 0 < k) : ∀ (l : List (List β)), (∀ x ∈ l, x.length = k) → ∀ t, l.flatten[t]? = (l[t / k]?).bind (·[t % k]?)
  | [], _, t => by simp
  | x :: l, h, t => by
    have hx := h x List.mem_cons_self
    rw [List.flatten_cons]
    by_cases ht : t < k
    · rw [List.getElem?_append_left (by omega), Nat.div_eq_of_lt ht, Nat.mod_eq_of_lt ht]
      rfl
    · rw [List.getElem?_append_right (by omega), hx, flat_get hk l (fun y hy => h y (List.mem_cons_of_mem _ hy)), Nat.div_eq t k, if_pos ⟨hk, by omega⟩, List.getElem?_cons_succ, Nat.mod_eq_sub_mod (show t ≥ k by omega)]
theorem flatK_list {α : Type} [Inhabited α] {enc : α → List Value} {k : Nat} (hk0 : 0 < k) (hk : ∀ x, (enc x).length = k) (d : Array α) : (flatK enc k d).toList = (d.toList.map enc).flatten := by
  apply List.ext_getElem?
  intro t
  rw [flat_get hk0 _ (fun x hx => by obtain ⟨y, _, rfl⟩ := List.mem_map.1 hx; exact hk y)]
  have hlen : (flatK enc k d).toList.length = d.size * k := by simp
  by_cases ht : t < d.size * k
  · have hq : t / k < d.size := (Nat.div_lt_iff_lt_mul hk0).2 ht
    have hm : t % k < k := Nat.mod_lt _ hk0
    have h1 := get_flatK enc k d t ht
    rw [getElem!_pos _ t (by simpa using ht), getElem!_pos d _ hq, getElem!_pos _ _ (by rw [hk]; exact hm)] at h1
    rw [Array.getElem?_toList, Array.getElem?_eq_getElem (by simpa using ht), h1, List.getElem?_map, Array.getElem?_toList, Array.getElem?_eq_getElem hq]
    simp [hk, hm]
  · rw [List.getElem?_eq_none (by omega), List.getElem?_map, List.getElem?_eq_none]
    · rfl
    · have := (Nat.le_div_iff_mul_le hk0).2 (show d.size * k ≤ t by omega)
      simpa using this
set_option maxHeartbeats 1000000 in
theorem lcalls_sortK {P : Program} {ρ : Ren} (L : SlLaysF0.n6 P ρ) {g : FuncId} {caps : List Dat} (t : Ty) (ht : t.isPr = true) (hk0 : 0 < t.size) (aE : ∀ w, (isAgg (ρ.t 24)).run P w = .ok true w) (zE : ∀ w, (Go.sizeOf (ρ.t 24)).run P w = .ok t.size w) (e : TypeId) (r : Nat) (l : List t.T) (c : t.T → t.T → Int) (hc : Cmp l c) (hrm : roomN l.length) (hfg : FnOk P g)
    (hcmp : ∀ x ∈ l, ∀ y ∈ l, ACalls P g ([toV1 t x, toV1 t y] ++ caps.map fun d => .c (.ad d.1 d.2)) (fun res => res = [.c (.p (.int .i64) (c x y))])) :
    LCalls P (ρ.f 6) [r] [r] [(r, [], .arr e t l)] [.c (.own r), .c (.fn g caps)] (fun av hp' => ∃ l', av = .tup [] ∧ hp' = [(r, [], .arr e t l')] ∧ Srt c l l') := by
  intro w G vs hS hcol hcon hargs
  obtain ⟨xs, hE, hrow, hmax, hown⟩ := hcon _ (List.mem_singleton.2 rfl)
  match vs, hargs with
  | [v1, v2], ⟨⟨hv1, hsl⟩, ⟨cvs, hv2, hcv⟩, _⟩ =>
  subst hv1
  subst hv2
  have fin0 : ∀ w' : World, w' = w → l = [] → (∃ v G' av hp', Ending.returned (.tuple #[]) = .returned v ∧ Fr (Xof [r] G) w.heap.size w w' ∧ (∀ b, G'.S b → b < w'.heap.size ∧ (G.S b ∨ w.heap.size ≤ b ∨ Xof [r] G b)) ∧
      (∀ b q, G'.col b = some q → (Xof [r] G b ∨ w.heap.size ≤ b) ∧ b < w'.heap.size ∧ ¬ G'.S b) ∧ (∀ q ∈ [r], G'.rho q = G.rho q) ∧ AVRep w' G' av v ∧ okHp [r] hp' = true ∧ (∀ e ∈ hp', ConRep w' G' e.1 e.2.2) ∧ ∃ l', av = .tup [] ∧ hp' = [(r, [], .arr e t l')] ∧ Srt c l l') := by
    rintro w' rfl hl
    let G' : Ghost := { S := G.S, col := fun b => if G.col b = some r then some r else none, rho := G.rho }
    refine ⟨_, G', .tup [], [(r, [], .arr e t [])], rfl, Fr.refl _ _ _, fun b hb => ⟨hS b hb, .inl hb⟩, ?_, fun _ _ => rfl, ⟨[], rfl, trivial⟩, ?_, ?_, [], rfl, rfl, ?_⟩
    · intro b q hq
      by_cases h : G.col b = some r
      · exact ⟨.inl ⟨r, by simp, h⟩, hcol b r h⟩
      · simp [G', h] at hq
    · simp [okHp, Con.tagsIn]
    · intro x hx
      rw [List.mem_singleton] at hx
      subst hx
      subst hl
      refine ⟨xs, hE, hrow, hmax, fun b hb => ?_⟩
      simp [G', hown b hb]
    · subst hl; exact ⟨List.Perm.refl _, List.Pairwise.nil⟩
  by_cases hl : l = []
  · have hn : ∃ p cap, G.rho r = .slice p 0 cap := by
      rcases hrow.2 with ⟨h1, _⟩ | ⟨g', cap, cur, h1, _⟩
      · exact ⟨_, _, h1⟩
      · exact ⟨_, _, by rw [h1, hl]; rfl⟩
    obtain ⟨p, cap, hp⟩ := hn
    rw [hp]
    refine (AnyF.slices_SortFunc_none L p cap _ w).mono ?_
    rintro en w' ⟨rfl, hw⟩
    exact fin0 w' hw hl
  · obtain ⟨zs, z1, z2, z3⟩ := hE.zipped
    rcases hrow.2 with ⟨_, h0⟩ | ⟨gb, cap, cur, h1, _, hb, h2, h3, h4, h5⟩
    · exact absurd (List.eq_nil_of_length_eq_zero h0) hl
    · have hgb : gb < w.heap.size := (Array.getElem?_eq_some_iff.1 hb).1
      have hgcol : G.col gb = some r := hown gb (by rw [h1]; rfl)
      have hgS := (hcol gb r hgcol).2
      obtain ⟨z0, hz0⟩ : ∃ z, z ∈ zs := by
        cases zs with
        | nil => exact absurd (by simpa using z1.symm) hl
        | cons a _ => exact ⟨a, by simp⟩
      let α : Type := { p : t.T × List Value // p ∈ zs }
      let _ : Inhabited α := ⟨⟨z0, hz0⟩⟩
      let enc : α → List Value := fun p => p.1.2
      have hlenk : ∀ p : α, (enc p).length = t.size := fun p => Enc.length (z3 p.1 p.2)
      have hone : ∀ p : α, ∀ v ∈ enc p, v.oneCell' = true := fun p => Enc.one (z3 p.1 p.2)
      let cf : α → α → Int := fun p q => c p.1.1 q.1.1
      have hmem : ∀ p : α, p.1.1 ∈ l := fun p => by rw [← z1]; exact List.mem_map_of_mem p.2
      have hO : SWO (ltOf cf) := by
        constructor
        · intro x; simpa [ltOf, cf] using hc.irrefl _ (hmem x)
        · intro x y z; simpa [ltOf, cf] using hc.trans _ (hmem x) _ (hmem y) _ (hmem z)
        · intro x y z; simpa [ltOf, cf] using hc.ntrans _ (hmem x) _ (hmem y) _ (hmem z)
      let d : Array α := zs.attach.toArray
      have hdl : d.toList = zs.attach := by simp [d]
      have hds : d.size = l.length := by rw [← z1]; show zs.attach.toArray.size = _; rw [List.size_toArray, List.length_attach, List.length_map]
      have hxs : xs = (flatK enc t.size d).toList := by
        rw [flatK_list hk0 hlenk, hdl, ← z2]
        congr 1
        exact (attach_fun zs (fun p => p.2)).symm
      have hfs : (flatK enc t.size d).size = l.length * t.size := by rw [size_flatK, hds]
      have hHo : HoldsK enc t.size w gb 0 d := by
        refine holds_row (enc := id) hb ?_
        rw [hfs, h5, hxs]
        simp
      have hSk : ∀ (m : Nat) (os : Array Obj) (dk : Array α), ∀ b, G.S b → G.S b ∧ (sortWorldK enc t.size w gb 0 m dk os).heap[b]? = w.heap[b]? := fun m os dk b hb' =>
        ⟨hb', block_sorted (enc := id) (flatK enc t.size dk) (hS b hb') (fun e => by subst e; exact hgS hb')⟩
      have hsize : ∀ (m : Nat) (os : Array Obj) (dk : Array α), (sortWorldK enc t.size w gb 0 m dk os).heap.size = w.heap.size + os.size := fun m os dk => size_sorted (enc := id) (flatK enc t.size dk)
      have hlay : CmpLays P g cvs.toArray enc t.size cf gb 0 d.size w := by
        intro m os dk hdk x y
        have hk := hSk m os dk
        have hx := Enc.keep hk (z3 x.1 x.2)
        have hy := Enc.keep hk (z3 y.1 y.2)
        have ha : All2 (ARep (sortWorldK enc t.size w gb 0 m dk os) G.S) ([toV1 t x.1.1, toV1 t y.1.1] ++ caps.map fun d => .c (.ad d.1 d.2)) ([Value.agg (enc x).toArray, Value.agg (enc y).toArray] ++ cvs) := by
          refine ⟨.inl ⟨t, _, _, rfl, hx, ?_⟩, .inl ⟨t, _, _, rfl, hy, ?_⟩, caps_rep (All2.imp (fun _ _ _ hh => AdRep.keep hk hh) hcv)⟩
          · unfold mkVal; rw [if_pos ht]
          · unfold mkVal; rw [if_pos ht]
        have hs' : ∀ b, G.S b → b < (sortWorldK enc t.size w gb 0 m dk os).heap.size := fun b hb' => by rw [hsize]; have := hS b hb'; omega
        have hr := hcmp _ (hmem x) _ (hmem y) _ G.S _ hs' ha
        have e1 : (#[Value.agg (enc x).toArray, Value.agg (enc y).toArray] ++ cvs.toArray : Array Value) = ([Value.agg (enc x).toArray, Value.agg (enc y).toArray] ++ cvs).toArray := by simp
        rw [e1]
        refine hr.mono ?_
        rintro en w' ⟨us, res, S', rfl, h6, _, h7, rfl⟩
        match us, h7 with
        | [u], ⟨⟨tt, yy, cs, e2, he, e3⟩, _⟩ =>
          refine ⟨?_, world_grown h6⟩
          have h8 := PRep.v1 (G := ⟨S', fun _ => none, fun _ => undef⟩) (⟨tt, yy, cs, e2, he, e3⟩ : PRep w' S' (.c (.p (.int .i64) (c x.1.1 y.1.1))) u)
          have h9 : Enc w' S' (.int .i64) (c x.1.1 y.1.1) [u] := h8
          have h10 := h9.1
          simp only [List.cons.injEq, and_true] at h10
          rw [h10]
          rfl
      rw [h1, show l.length = d.size from hds.symm]
      refine (AnyQ.slices_SortFunc L t.size aE zE enc hlenk hone cf hO g cvs.toArray gb 0 cap d w (fun args w => hfg args w) hlay hHo hgb (by rw [hds]; unfold roomN at hrm; omega)).mono ?_
      rintro en w' ⟨rfl, d', n, os, hp, hso, rfl⟩
      let l' : List t.T := d'.toList.map fun p => p.1.1
      have hl'd : d'.size = d.size := hp.1
      have hperm : d'.toList.Perm d.toList := by
        have h6 := hp.2.2
        rw [Array.extract_size] at h6
        rw [show d'.extract 0 d.size = d' from by rw [← hl'd, Array.extract_size]] at h6
        exact h6
      have hl'p : l'.Perm l := by
        have h6 := hperm.map (fun p => p.1.1)
        rw [hdl] at h6
        have h7 : (zs.attach.map fun p => p.1.1) = l := by
          rw [← z1]; exact attach_fun zs (fun p => p.1)
        rw [h7] at h6
        exact h6
      have hl'l : l'.length = l.length := hl'p.length_eq
      let G' : Ghost := { S := G.S, col := fun b => if G.col b = some r then some r else none, rho := G.rho }
      refine ⟨_, G', .tup [], [(r, [], .arr e t l')], rfl, ⟨?_, rfl, rfl, rfl, ?_, ?_⟩, ?_, ?_, fun _ _ => rfl, ⟨[], rfl, trivial⟩, ?_, ?_, l', rfl, rfl, hl'p, ?_⟩
      · show w.drawn ≤ w.drawn + n; omega
      · rw [hsize]; omega
      · intro k hk hx
        exact block_sorted (enc := id) (flatK enc t.size d') hk fun e => hx ⟨r, by simp, by rw [e]; exact hgcol⟩
      · intro b hb'
        exact ⟨by rw [hsize]; have := hS b hb'; omega, .inl hb'⟩
      · intro b q hq
        by_cases h : G.col b = some r
        · have := hcol b r h
          exact ⟨.inl ⟨r, by simp, h⟩, by rw [hsize]; omega, this.2⟩
        · simp [G', h] at hq
      · simp [okHp, Con.tagsIn]
      · intro x hx
        rw [List.mem_singleton] at hx
        subst hx
        have hf' : (flatK enc t.size d').size = l'.length * t.size := by rw [size_flatK]; simp [l']
        refine ⟨(flatK enc t.size d').toList, ?_, ?_, by show l'.length ≤ maxLen; omega, fun b hb' => ?_⟩
        · rw [flatK_list hk0 hlenk]
          have := EncL.of_zipped (E := Enc (sortWorldK enc t.size w gb 0 n d' os) G.S t) (d'.toList.map fun p => p.1) (fun p hp' => by
            obtain ⟨q, _, rfl⟩ := List.mem_map.1 hp'
            exact Enc.keep (hSk n os d') (z3 q.1 q.2))
          simpa [l', List.map_map, Function.comp_def] using this
        · have hcap : l'.length * t.size ≤ cur.size := by rw [h4]; exact Nat.mul_le_mul_right _ (by omega)
          refine ⟨by rw [Array.length_toList, hf'], .inr ⟨gb, cap, _, ?_, Nat.zero_le _, same_sorted (enc := id) (flatK enc t.size d') hb, by show l'.length ≤ cap; omega, h3, ?_, ?_⟩⟩
          · show G.rho r = _
            rw [h1]; simp only [l'] at hl'l ⊢; rw [hl'l]
          · simp [putCells, h4]
          · have h6 := take_putRow (enc := id) cur (flatK enc t.size d') (by rw [hf']; exact hcap)
            rw [hf'] at h6
            simpa using h6
        · simp [G', hown b hb']
      · rw [List.pairwise_iff_getElem]
        intro i j hi hj hij
        have h6 := hso i j (Nat.zero_le _) hij (by omega)
        have h7 : l'.length = d'.size := by simp [l']
        rw [getElem!_pos d' i (by omega), getElem!_pos d' j (by omega)] at h6
        simpa [ltOf, cf, l'] using h6
theorem lcalls_sortKF {P : Program} {ρ : Ren} (L : SlLaysF0.n6 P ρ) {g : FuncId} {caps : List Dat} (t : Ty) (ht : t.isPr = true) (hk0 : 0 < t.size) (aE : ∀ w, (isAgg (ρ.t 24)).run P w = .ok true w) (zE : ∀ w, (Go.sizeOf (ρ.t 24)).run P w = .ok t.size w) (e : TypeId) (r : Nat) (l : List t.T) {K : List t.T → Prop} (F : t.T × t.T → (Int → Prop) → Prop)
    (hF : FnIs P g caps (fun (x : t.T × t.T) => [toV1 t x.1, toV1 t x.2]) (fun (y : Int) => [toV1 (.int .i64) y]) F) (h : SortVC l F K) :
    LCalls P (ρ.f 6) [r] [r] [(r, [], .arr e t l)] [.c (.own r), .c (.fn g caps)] (fun av hp' => ∃ y, av = .tup [] ∧ hp' = [(r, [], .arr e t y)] ∧ K y) := by
  obtain ⟨c, hc, hr, hv, hk⟩ := h
  intro w G vs h1 h2 h3 h4
  refine (lcalls_sortK L t ht hk0 aE zE e r l c hc hr hF.1 (fun x hx y hy => ?_) w G vs h1 h2 h3 h4).mono ?_
  · intro w S vs' k1 k2
    refine (hF.2 (x, y) _ (hv x hx y hy) w S vs' k1 k2).mono ?_
    rintro en w' ⟨us, res, S', a1, a2, a3, a4, z, rfl, rfl⟩
    exact ⟨us, _, S', a1, a2, a3, a4, rfl⟩
  · rintro en w' ⟨v, G', av, hp', a1, a2, a3, a4, a5, a6, a7, a8, l', a9, a10, a11⟩
    exact ⟨v, G', av, hp', a1, a2, a3, a4, a5, a6, a7, a8, l', a9, a10, hk l' a11⟩
end Dec
