/-
  Ranges over functions: the contract of a loop's body out of its demand.
-/
import Derived.Test.YtfpchbpnoggogaaDecRf
set_option linter.unusedSimpArgs false
set_option linter.unusedVariables false
namespace Dec
open Go Go.RowKit
variable {M : Md → Prop}
theorem fold_size : ∀ (l : List (Nat × Value)) (t : Array Value), (l.foldl (fun t p => t.setIfInBounds p.1 p.2) t).size = t.size
 | [], _ => rfl
 | p :: l, t => by rw [List.foldl_cons, fold_size l]; simp
theorem fold_miss : ∀ (l : List (Nat × Value)) (t : Array Value) (j : Nat), j ∉ l.map (·.1) → (l.foldl (fun t p => t.setIfInBounds p.1 p.2) t).getD j undef = t.getD j undef
 | [], _, _, _ => rfl
 | p :: l, t, j, h => by
  simp only [List.map_cons, List.mem_cons, not_or] at h
  rw [List.foldl_cons, fold_miss l _ j h.2]
  simp only [Array.getD_eq_getD_getElem?, Array.getElem?_setIfInBounds]
  rw [if_neg (fun e => h.1 e.symm)]
theorem fold_hit : ∀ (l : List (Nat × Value)) (t : Array Value), (l.map (·.1)).Nodup → ∀ p ∈ l, p.1 < t.size → (l.foldl (fun t p => t.setIfInBounds p.1 p.2) t).getD p.1 undef = p.2
 | [], _, _, p, hp, _ => by simp at hp
 | q :: l, t, hn, p, hp, hlt => by
  simp only [List.map_cons, List.nodup_cons] at hn
  rw [List.foldl_cons]
  rcases List.mem_cons.1 hp with rfl | hp
  ·rw [fold_miss l _ _ hn.1]
   simp only [Array.getD_eq_getD_getElem?, Array.getElem?_setIfInBounds]
   simp [hlt]
  ·exact fold_hit l _ hn.2 p hp (by simpa using hlt)
def recSlots (ps : List Nat) (args : List V1) (sl : List (Nat × AV)) : List (Nat × Path × AV) :=
 ((ps.zip args).map fun p => (p.1, [], .v p.2)) ++ ((sl.filter fun e => !ps.contains e.1).map fun e => (e.1, [], e.2))
def yOk (n : Nat) (D D' B' : List Nat) (st' : St) : Prop := st'.n = n ∧ hasBox st'.sl n B' = true ∧ okHp D' (pick st'.hp D') = true ∧ okHp D (pick st'.hp D') = true
def yretQ (n r0 : Nat) (x0 : Go.Loop) (sl : List (Nat × AV)) (D D' B' : List Nat) (K : AV → Hp → Prop) : XE → St → Prop
 | .n, st' => yOk n D D' B' st' ∧ K (.v (.c (.p .bool true))) ((r0, [], .lp x0 0 sl) :: pick st'.hp D')
 | .r, st' => yOk n D D' B' st' ∧ K (.v (.c (.p .bool false))) ((r0, [], .lp x0 1 sl) :: pick st'.hp D')
 | .x id, st' => yOk n D D' B' st' ∧ K (.v (.c (.p .bool false))) ((r0, [], .lp x0 (2 + (id : Int)) sl) :: pick st'.hp D')
def asgQ (K : St → Prop) : XE → St → Prop
 | .n, s => K s
 | _, _ => False
section
variable {P : Program} {w0 w : World} {S0 : Base} {G : Ghost} {st : St} {a : Act}
theorem SR.putObj (h : SR w0 S0 G st a w) {l : Nat} {o : Obj} (h0 : w0.heap.size ≤ l ∨ S0.F l) (hS : ¬ G.S l) (hc : ∀ e ∈ st.hp, G.col l ≠ some e.1) : SR w0 S0 G st a (w.putObj l o) := by
 have hk : ∀ b, G.S b → G.S b ∧ (w.putObj l o).heap[b]? = w.heap[b]? := fun b hb => ⟨hb, World.putObj_heap_other (fun e => by subst e; exact hS hb)⟩
 refine ⟨h.below.trans ⟨Nat.le_refl _, rfl, rfl, rfl, by rw [World.putObj_size]; exact Nat.le_refl _, fun k hk hF => World.putObj_heap_other fun e => ?_⟩, fun b hb => by rw [World.putObj_size]; exact h.sub b hb, fun b r hb => by rw [World.putObj_size]; exact h.colr b r hb, h.df.keep hk rfl, h.size, fun e he => ?_, fun e he hh => ?_⟩
 ·subst e
  rcases h0 with h0 | h0
  ·omega
  ·exact hF h0
 ·obtain ⟨k1, k2, k3⟩ := h.sl e he
  exact ⟨k1, fun hh => AVRep.keep hk (fun _ _ => rfl) (k2 hh), k3⟩
 ·exact ConRep.keep hk rfl (fun _ _ => rfl) (fun b hb => ⟨hb, World.putObj_heap_other (fun e' => by subst e'; exact hc e he hb)⟩) (h.hp e he hh)
theorem SR.put2 (h : SR w0 S0 G st a w) {l : Nat} {o : Obj} (h0 : l < w0.heap.size) (hS : ¬ G.S l) (hc : ∀ e ∈ st.hp, G.col l ≠ some e.1) : SR (w0.putObj l o) S0 G st a (w.putObj l o) := by
 have hk : ∀ b, G.S b → G.S b ∧ (w.putObj l o).heap[b]? = w.heap[b]? := fun b hb => ⟨hb, World.putObj_heap_other (fun e => by subst e; exact hS hb)⟩
 have hb := h.below
 refine ⟨⟨hb.drawn, hb.os, hb.tape, hb.output, by rw [World.putObj_size, World.putObj_size]; exact hb.size, fun k hkk hF => ?_⟩, fun b hb => ?_, fun b r hb => ?_, ?_, h.size, fun e he => ?_, fun e he hh => ?_⟩
 ·rw [World.putObj_size] at hkk
  by_cases e : k = l
  ·subst e
   rw [World.putObj_heap_same (Nat.lt_of_lt_of_le hkk hb.size), World.putObj_heap_same hkk]
  ·rw [World.putObj_heap_other e, World.putObj_heap_other e]
   exact hb.block k hkk hF
 ·rw [World.putObj_size, World.putObj_size]; exact h.sub b hb
 ·rw [World.putObj_size, World.putObj_size]; exact h.colr b r hb
 ·have h1 := h.df.keep (a' := a) hk rfl
  obtain ⟨rs, k1, k2, k3⟩ := h1
  exact ⟨rs, k1, k2, fun r hr => by rw [World.putObj_size]; exact k3 r hr⟩
 ·obtain ⟨k1, k2, k3⟩ := h.sl e he
  exact ⟨k1, fun hh => AVRep.keep hk (fun _ _ => rfl) (k2 hh), k3⟩
 ·exact ConRep.keep hk rfl (fun _ _ => rfl) (fun b hb => ⟨hb, World.putObj_heap_other (fun e' => by subst e'; exact hc e he hb)⟩) (h.hp e he hh)
theorem jumpOf_exit (id : Nat) : jumpOf (2 + (id : Int)) = some (.exit id) := by
 unfold jumpOf
 rw [if_neg (by omega), if_neg (by omega)]
 congr 2
 omega
theorem lyield_of_aw {x0 : Go.Loop} {sl : List (Nat × AV)} {r0 n : Nat} {ps : Array Nat} {assign body : Code} {args : List V1} {hp0 hp1 : Hp} {K : AV → Hp → Prop} (D B D' B' : List Nat)
  (hps : x0.params = ps) (has : x0.assign = assign) (hbd : x0.body = body) (hn : x0.tmps.size = n)
  (h0 : lk hp0 r0 = some ([], .lp x0 0 sl)) (hchk : (D.contains r0 && (D'.all fun q => D.contains q && q != r0) && (B.all fun q => q == r0 || B'.contains q) && (sl.all fun e => decide (e.1 < n) && (e.2.tagsIn D && e.2.tagsIn B')) && ps.toList.all (fun p => decide (p < n)) && decide (args.length = ps.toList.length)) = true)
  (hnd : ps.toList.Nodup) (hok : okHp D hp0 = true) (hp1e : pick hp0 D' = hp1) (hok1 : okHp D' hp1 = true) (hbx : boxesIn hp1 B' = true)
  (h : AW Rm P assign (asgQ (AW Rm P body (yretQ n r0 x0 sl D D' B' K))) ⟨n, recSlots ps.toList args sl ++ boxSl hp1 n B', hp1⟩) : LYCalls P r0 D B hp0 args K := by
 simp only [Bool.and_eq_true, decide_eq_true_eq] at hchk
 obtain ⟨⟨⟨⟨⟨c1, c2⟩, c3⟩, c4⟩, c5⟩, c6⟩ := hchk
 have hr0D : r0 ∈ D := by simpa using c1
 have hD' : ∀ q ∈ D', q ∈ D ∧ q ≠ r0 := fun q hq => by
  have := List.all_eq_true.1 c2 q hq
  simpa using this
 have hBB : ∀ q ∈ B, q = r0 ∨ q ∈ B' := fun q hq => by
  have := List.all_eq_true.1 c3 q hq
  simpa using this
 have hsl : ∀ e ∈ sl, ∀ q, e.2.has q = true → q ∈ D ∧ q ∈ B' := fun e he q hq => by
  have := List.all_eq_true.1 c4 e he
  simp only [Bool.and_eq_true] at this
  exact ⟨AV.tagsIn_has this.2.1 hq, AV.tagsIn_has this.2.2 hq⟩
 have hsln : ∀ e ∈ sl, e.1 < n := fun e he => by
  have := List.all_eq_true.1 c4 e he
  simp only [Bool.and_eq_true, decide_eq_true_eq] at this
  exact this.1
 have hslD : (sl.all fun e => e.2.tagsIn D) = true := List.all_eq_true.2 fun e he => by
  have := List.all_eq_true.1 c4 e he
  simp only [Bool.and_eq_true] at this
  exact this.2.1
 intro w G vs hS hcol hhp hargs l hl
 have hlen := hargs.length
 obtain ⟨l', e1, hlc, hlb, hslr⟩ := hhp _ (lk_mem h0)
 have e1 : G.rho r0 = .func (.yield l') #[] #[] := e1
 have : l' = l := by
  rw [hl] at e1
  injection e1 with e1
  injection e1 with e1
  exact e1.symm
 subst this
 have hlt : l' < w.heap.size := (Array.getElem?_eq_some_iff.1 hlb).1
 have hlS : ¬ G.S l' := (hcol _ _ hlc).2
 have hlX : ¬ Xof D' G l' := by
  rintro ⟨q, hq, hqc⟩
  rw [hlc] at hqc
  injection hqc with hqc
  exact (hD' q hq).2 hqc.symm
 have hXX : ∀ b, Xof D' G b → Xof D G b := fun b ⟨q, hq, hqc⟩ => ⟨q, (hD' q hq).1, hqc⟩
 have hXS : ∀ b, Xof D G b → ¬ G.S b := by
  rintro b ⟨q, _, hq⟩
  exact (hcol b q hq).2
 have hy := run_yield (P := P) (args := vs.toArray) hlb (by
  show vs.toArray.size = x0.params.size
  rw [hps]
  simp
  rw [← hlen, c6]
  simp)
 refine ⟨x0.fn, _, assign, body, (by rw [← has, ← hbd]; exact hy), roundIn_of_wpIn trivial ?_⟩
 let T : Array Value := (x0.params.zip vs.toArray).foldl (fun tmps (t, a) => tmps.setIfInBounds t a) x0.tmps
 have hT : T = ((ps.toList.zip vs).foldl (fun t p => t.setIfInBounds p.1 p.2) x0.tmps) := by
  show (x0.params.zip vs.toArray).foldl _ x0.tmps = _
  rw [hps, ← Array.foldl_toList, Array.toList_zip]
 have hTs : T.size = n := by rw [hT, fold_size, hn]
 have hlz : vs.length = ps.toList.length := by rw [← hlen, c6]
 have hmap : (ps.toList.zip vs).map (·.1) = ps.toList := by rw [List.map_fst_zip (by omega)]
 let S0 : Base := { S := G.S, F := Xof D' G, outer := fun j => G.rho (B'.getD (j - n) 0) }
 have hs : SR w S0 (G.only D') ⟨n, recSlots ps.toList args sl ++ boxSl hp1 n B', hp1⟩ { tmps := T, defers := [] } w := by
  refine ⟨Fr.refl _ _ _, fun b hb => ⟨hS b hb, .inl hb⟩, fun b r hb => ?_, DfOk.none _ _ _ rfl, hTs, fun e he => ?_, fun e he _ => ?_⟩
  ·obtain ⟨h1, h2⟩ := only_col hb
   have := hcol b r h1
   exact ⟨.inl ⟨r, h2, h1⟩, this.1, this.2⟩
  ·have low : ∀ (i : Nat) (x : AV) (v : Value), i < n → T.getD i undef = v → AVRep w G x v →
     Ins n i ∧ (Holds { tmps := T, defers := [] } [] → AVRep w (G.only D') x (slotV S0 { tmps := T, defers := [] } i)) ∧ (¬ Holds { tmps := T, defers := [] } [] → slotV S0 { tmps := T, defers := [] } i = undef) := by
    intro i x v hi hv hx
    refine ⟨trivial, fun _ => ?_, fun hn => absurd holds_nil hn⟩
    rw [slotV_in (by show i < T.size; rw [hTs]; exact hi)]
    show AVRep w (G.only D') x (T.getD i undef)
    rw [hv]
    exact AVRep.keep (w := w) (G := G) (fun b hb => ⟨hb, rfl⟩) (fun _ _ => rfl) hx
   rcases List.mem_append.1 he with he | he
   ·rcases List.mem_append.1 he with he | he
    ·obtain ⟨p, hp, rfl⟩ := List.mem_map.1 he
     obtain ⟨i, hi1, hi2⟩ := List.mem_iff_getElem.1 hp
     have hi3 : i < ps.toList.length ∧ i < args.length := by
      rw [List.length_zip] at hi1; omega
     have hi4 : i < vs.length := by omega
     have hp1 : p.1 = ps.toList[i] := by rw [← hi2, List.getElem_zip]
     have hp2 : p.2 = args[i] := by rw [← hi2, List.getElem_zip]
     have hplt : p.1 < n := by
      have := List.all_eq_true.1 c5 p.1 (by rw [hp1]; exact List.getElem_mem _)
      simpa using this
     have hz : (p.1, vs[i]) ∈ ps.toList.zip vs := by
      rw [hp1]
      refine List.mem_iff_getElem.2 ⟨i, by rw [List.length_zip]; omega, ?_⟩
      rw [List.getElem_zip]
     have hv := fold_hit (ps.toList.zip vs) x0.tmps (by rw [hmap]; exact hnd) _ hz (by rw [hn]; exact hplt)
     have hav : V1Rep w G p.2 vs[i] := by
      obtain ⟨v, hv1, hv2⟩ := hargs.get i p.2 (by rw [hp2, List.getElem?_eq_getElem])
      rw [List.getElem?_eq_getElem hi4] at hv1
      injection hv1 with hv1
      rw [hv1]
      exact hv2
     exact low p.1 (.v p.2) vs[i] hplt (by rw [hT]; exact hv) hav
    ·obtain ⟨e0, he0, rfl⟩ := List.mem_map.1 he
     simp only [List.mem_filter, Bool.not_eq_true', List.contains_eq_mem, decide_eq_false_iff_not] at he0
     have hmiss := fold_miss (ps.toList.zip vs) x0.tmps e0.1 (by rw [hmap]; exact he0.2)
     exact low e0.1 e0.2 _ (hsln e0 he0.1) (by rw [hT]; exact hmiss) (hslr e0 he0.1)
   ·obtain ⟨k, r, h1, h2⟩ := boxSl_mem he
    subst h2
    refine ⟨trivial, fun _ => ?_, fun hn => absurd holds_nil hn⟩
    have h3 : slotV S0 ({ tmps := T, defers := [] } : Act) (n + k) = G.rho r := by
     unfold slotV
     rw [if_neg (by rw [hTs]; omega)]
     show G.rho (B'.getD (n + k - n) 0) = _
     rw [show n + k - n = k by omega]
     simp [List.getD, h1]
    show AVRep w (G.only D') (.v (.c (kindB hp1 r))) (slotV S0 _ (n + k))
    rw [h3]
    refine ClRep.keep (w := w) (G := G) (fun b hb => ⟨hb, rfl⟩) (fun _ _ => rfl) (kind_of_boxes hbx (fun e he => ?_) (List.mem_of_getElem? h1))
    rw [← hp1e] at he
    exact hhp e (pick_mem he)
  ·obtain ⟨h1, h2, h3⟩ := okHp_mem hok1 he
   refine ConRep.keep (w := w) (G := G) (fun b hb => ⟨hb, rfl⟩) rfl (fun _ _ => rfl) (fun b hb => ⟨col_only hb h2, rfl⟩) (hhp e ?_)
   rw [← hp1e] at he
   exact pick_mem he
 have hA := h ⟨some l', by simp⟩ w S0 _ _ w hs
 refine Go.wpIn_mono hA ?_
 intro e a1 w1 hq
 cases e with
 | exit id => obtain ⟨G1, st1, hs1, hb1⟩ := hq; exact hb1.elim
 | ret => obtain ⟨G1, st1, hs1, hb1⟩ := hq; exact hb1.elim
 | goto l => exact hq.elim
 | panic ch => exact hq.elim
 | outgrown => exact hq.elim
 | normal =>
  obtain ⟨G1, st1, hs1, hb1⟩ := hq
  have hb1 : AW Rm P body (yretQ n r0 x0 sl D D' B' K) st1 := hb1
  have hl1 : w1.heap[l']? = some (.loop (recAt x0 0)) := (hs1.below.block l' hlt hlX).trans hlb
  have hcl1 : ∀ q, G1.col l' ≠ some q := fun q hq => by
   rcases (hs1.colr l' q hq).1 with h2 | h2
   ·exact hlX h2
   ·omega
  have hS1 : ¬ G1.S l' := fun hh => by
   rcases (hs1.sub l' hh).2 with h2 | h2 | h2
   ·exact hlS h2
   ·omega
   ·exact hlX h2
  refine ⟨_, run_beginRound hl1 rfl, ?_⟩
  have hs2 := hs1.put2 (o := .loop { recAt x0 0 with state := .busy }) hlt hS1 (fun e he => hcl1 e.1)
  refine Go.wpIn_mono (hb1 ⟨some l', by simp⟩ _ _ _ _ _ hs2) ?_
  have fin : ∀ (jump : Option Code) (k : Int) (b : Bool) (G3 : Ghost) (st3 : St) (a3 : Act) (w3 : World), SR (w.putObj l' (.loop { recAt x0 0 with state := .busy })) S0 G3 st3 a3 w3 → jumpOf k = jump → jump.isNone = b → (k = 0 ↔ b = true) →
    yOk n D D' B' st3 → K (.v (.c (.p .bool b))) ((r0, [], .lp x0 k sl) :: pick st3.hp D') →
    ∃ v w', (Instr.endRound l' jump).run P w3 = .ok v w' ∧ ∃ v' G' av hp', Ending.returned v = .returned v' ∧ Fr (Xof D G) w.heap.size w w' ∧ (∀ b, G'.S b → b < w'.heap.size ∧ (G.S b ∨ w.heap.size ≤ b ∨ Xof D G b)) ∧
     (∀ b r, G'.col b = some r → (Xof D G b ∨ w.heap.size ≤ b) ∧ b < w'.heap.size ∧ ¬ G'.S b) ∧ (∀ r ∈ B, G'.rho r = G.rho r) ∧ AVRep w' G' av v' ∧ okHp D hp' = true ∧ (∀ e ∈ hp', ConRep w' G' e.1 e.2.2) ∧ K av hp' := by
   intro jump k b G3 st3 a3 w3 hs3 hj hjn hk hyo hK
   have hsz : (w.putObj l' (.loop { recAt x0 0 with state := .busy })).heap.size = w.heap.size := World.putObj_size
   have hl3 : w3.heap[l']? = some (.loop { recAt x0 0 with state := .busy }) := by
    rw [hs3.below.block l' (by rw [hsz]; exact hlt) hlX]
    exact World.putObj_heap_same hlt
   have hlt3 : l' < w3.heap.size := (Array.getElem?_eq_some_iff.1 hl3).1
   have hend := run_endRound (P := P) jump hl3
   have hrec : ({ { recAt x0 0 with state := .busy } with state := if jump.isNone then .ready else .done, pending := jump } : Go.Loop) = recAt x0 k := by
    have hst : (if jump.isNone = true then LoopState.ready else LoopState.done) = (if k = 0 then LoopState.ready else LoopState.done) := by
     cases b with
     | true => rw [hjn, if_pos rfl, if_pos (hk.2 rfl)]
     | false => rw [hjn, if_neg (by simp), if_neg (fun h => by have := hk.1 h; cases this)]
    show ({ x0 with state := _, pending := jump } : Go.Loop) = { x0 with state := _, pending := jumpOf k }
    rw [hj, hst]
   rw [hrec, hjn] at hend
   obtain ⟨hn1, hbx1, hok3, hok4⟩ := hyo
   let w4 := w3.putObj l' (.loop (recAt x0 k))
   let G4 : Ghost := { S := fun b => G3.S b ∨ G.S b, col := fun b => if b = l' then some r0 else G3.col b, rho := fun q => if q = r0 then G.rho r0 else G3.rho q }
   have hw4 : ∀ b, b ≠ l' → w4.heap[b]? = w3.heap[b]? := fun b hb => World.putObj_heap_other hb
   have hsz3 : w.heap.size ≤ w3.heap.size := by have := hs3.below.size; rw [hsz] at this; exact this
   have hsz4 : w4.heap.size = w3.heap.size := World.putObj_size
   have hcl3 : ∀ q, G3.col l' ≠ some q := fun q hq => by
    rcases (hs3.colr l' q hq).1 with h2 | h2
    ·exact hlX h2
    ·rw [hsz] at h2; omega
   have hS3 : ¬ G3.S l' := fun hh => by
    rcases (hs3.sub l' hh).2 with h2 | h2 | h2
    ·exact hlS h2
    ·rw [hsz] at h2; omega
    ·exact hlX h2
   have hw3 : ∀ b, b < w.heap.size → ¬ Xof D G b → w3.heap[b]? = w.heap[b]? := fun b hb hx => by
    have hne : b ≠ l' := fun e => hx (by rw [e]; exact ⟨r0, hr0D, hlc⟩)
    rw [hs3.below.block b (by rw [hsz]; exact hb) (fun hh => hx (hXX b hh))]
    exact World.putObj_heap_other hne
   have hGS : ∀ b, G.S b → G4.S b ∧ w4.heap[b]? = w.heap[b]? := fun b hb => ⟨.inr hb, by
    rw [hw4 b (fun e => by subst e; exact hlS hb)]
    exact hw3 b (hS b hb) (fun hx => hXS b hx hb)⟩
   have hG3 : ∀ b, G3.S b → G4.S b ∧ w4.heap[b]? = w3.heap[b]? := fun b hb => ⟨.inl hb, hw4 b (fun e => by subst e; exact hS3 hb)⟩
   have hrho : ∀ q ∈ B', G3.rho q = G.rho q := by
    intro q hq
    obtain ⟨j, hj1, hj2⟩ := List.mem_iff_getElem.1 hq
    have hj3 : B'[j]? = some q := by rw [List.getElem?_eq_getElem hj1, hj2]
    obtain ⟨x, hx, hmem⟩ := hasBox_get hbx1 hj3
    have h2 := (hs3.sl _ hmem).2.1 holds_nil
    have h3 : slotV S0 a3 (n + j) = G.rho q := by
     unfold slotV
     rw [if_neg (by rw [hs3.size, hn1]; omega)]
     show G.rho (B'.getD (n + j - n) 0) = _
     rw [show n + j - n = j by omega]
     simp [List.getD, hj3]
    rw [← h3]
    exact rho_of_box hx h2
   have hrho4 : ∀ q ∈ B, G4.rho q = G.rho q := by
    intro q hq
    show (if q = r0 then _ else _) = _
    rcases hBB q hq with rfl | hq
    ·rw [if_pos rfl]
    ·by_cases e : q = r0
     ·subst e; rw [if_pos rfl]
     ·rw [if_neg e]; exact hrho q hq
   have hrho5 : ∀ q ∈ B', G4.rho q = G.rho q := by
    intro q hq
    show (if q = r0 then _ else _) = _
    by_cases e : q = r0
    ·subst e; rw [if_pos rfl]
    ·rw [if_neg e]; exact hrho q hq
   refine ⟨_, w4, hend, .bool b, G4, .v (.c (.p .bool b)), (r0, [], .lp x0 k sl) :: pick st3.hp D', rfl, ⟨?_, ?_, ?_, ?_, by rw [hsz4]; exact hsz3, fun c hc hx => ?_⟩, fun c hc => ?_, fun c q hc => ?_, hrho4, rfl, ?_, ?_, hK⟩
   ·exact hs3.below.drawn
   ·exact hs3.below.os
   ·exact hs3.below.tape
   ·exact hs3.below.output
   ·rw [hw4 c (fun e => hx (by rw [e]; exact ⟨r0, hr0D, hlc⟩))]
    exact hw3 c hc hx
   ·rw [hsz4]
    rcases hc with hc | hc
    ·obtain ⟨k1, k2⟩ := hs3.sub c hc
     refine ⟨k1, ?_⟩
     rcases k2 with k2 | k2 | k2
     ·exact .inl k2
     ·rw [hsz] at k2; exact .inr (.inl k2)
     ·exact .inr (.inr (hXX c k2))
    ·have := hS c hc
     exact ⟨by omega, .inl hc⟩
   ·rw [hsz4]
    have hc' : (if c = l' then some r0 else G3.col c) = some q := hc
    split at hc'
    ·rename_i e
     subst e
     refine ⟨.inl ⟨r0, hr0D, hlc⟩, hlt3, ?_⟩
     rintro (hh | hh)
     ·exact hS3 hh
     ·exact hlS hh
    ·obtain ⟨k1, k2, k3⟩ := hs3.colr c q hc'
     refine ⟨?_, k2, ?_⟩
     ·rcases k1 with k1 | k1
      ·exact .inl (hXX c k1)
      ·rw [hsz] at k1; exact .inr k1
     ·rintro (hh | hh)
      ·exact k3 hh
      ·rcases k1 with k1 | k1
       ·exact hXS c (hXX c k1) hh
       ·rw [hsz] at k1; have := hS c hh; omega
   ·simp only [okHp, Bool.and_eq_true] at hok4 ⊢
    refine ⟨⟨by simpa using hr0D, hslD⟩, hok4⟩
   ·intro e he
    rcases List.mem_cons.1 he with rfl | he
    ·refine ⟨l', ?_, ?_, World.putObj_heap_same hlt3, fun e he => ?_⟩
     ·show (if r0 = r0 then _ else _) = _
      rw [if_pos rfl]; exact hl
     ·show (if l' = l' then _ else _) = _
      rw [if_pos rfl]
     ·exact AVRep.keep hGS (fun q hq => hrho5 q (hsl e he q hq).2) (hslr e he)
    ·obtain ⟨k1, k2, k3⟩ := okHp_mem hok3 he
     have h5 := hs3.hp e (pick_mem he) (by rw [k1]; exact holds_nil)
     have hne : ∀ q ∈ D', G4.rho q = G3.rho q := fun q hq => by
      show (if q = r0 then _ else _) = _
      rw [if_neg (hD' q hq).2]
     refine ConRep.keep hG3 (hne _ k2) (fun q hq => hne q (Con.tagsIn_has k3 hq)) (fun c hc => ?_) h5
     have hcl : c ≠ l' := fun e' => by subst e'; exact hcl3 _ hc
     refine ⟨?_, hw4 c hcl⟩
     show (if c = l' then _ else _) = _
     rw [if_neg hcl]
     exact hc
  intro e a3 w3 hq
  cases e with
  | normal =>
   obtain ⟨G3, st3, hs3, hy3, hK⟩ := hq
   exact fin none 0 true G3 st3 a3 w3 hs3 rfl rfl (by simp) hy3 hK
  | ret =>
   obtain ⟨G3, st3, hs3, hy3, hK⟩ := hq
   exact fin (some .ret) 1 false G3 st3 a3 w3 hs3 rfl rfl (by simp) hy3 hK
  | exit id =>
   obtain ⟨G3, st3, hs3, hy3, hK⟩ := hq
   exact fin (some (.exit id)) (2 + (id : Int)) false G3 st3 a3 w3 hs3 (jumpOf_exit id) rfl (by simp; omega) hy3 hK
  | goto l => exact hq.elim
  | panic ch => exact hq.elim
  | outgrown => exact hq.elim
end
end Dec
