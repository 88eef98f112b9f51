/-
  The statement: a range over a function, its iterator walked in place.
-/
import Derived.Test.YtfpchbpnoggogaaDecRg
set_option linter.unusedSimpArgs false
set_option linter.unusedVariables false
namespace Dec
open Go Go.RowKit
variable {M : Md → Prop}
def recSl (sl : List (Nat × Path × AV)) (n : Nat) (is : List Nat) : List (Nat × AV) :=
 (pick sl is).filterMap fun e => match e with
  | (i, [], x) => if i < n then some (i, x) else none
  | _ => none
theorem mem_recSl {sl : List (Nat × Path × AV)} {n : Nat} {is : List Nat} {e : Nat × AV} (h : e ∈ recSl sl n is) : (e.1, [], e.2) ∈ sl ∧ e.1 < n := by
 unfold recSl at h
 obtain ⟨x, hx, hf⟩ := List.mem_filterMap.1 h
 obtain ⟨i, p, y⟩ := x
 cases p with
 | nil =>
  simp only at hf
  split at hf
  ·rename_i hlt
   injection hf with hf
   subst hf
   exact ⟨pick_mem hx, hlt⟩
  ·cases hf
 | cons _ _ => cases hf
def rfSt (st : St) (r0 d : Nat) (x0 : Go.Loop) (is : List Nat) : St :=
 ⟨st.n, (d, [], .v (.c (.yv r0))) :: (st.purge r0).sl, (r0, [], .lp x0 0 (recSl (st.purge r0).sl st.n is)) :: (st.purge r0).hp⟩
def rfBack (st0 : St) (m d r0 : Nat) (st' : St) : St := (⟨st0.n, inSl m d st'.sl, flatHp st'.hp⟩ : St).purge r0
def rfQ (st0 : St) (m d r0 : Nat) (x0 : Go.Loop) (Q : XE → St → Prop) : XE → St → Prop
 | .x _, _ => False
 | _, st' => ∃ k sl, st'.n = m ∧ lk st'.hp r0 = some ([], .lp x0 k sl) ∧ lk st'.sl (m + d) = some ([], .v (.c (.yv r0))) ∧
   (k = 0 → Q .n (rfBack st0 m d r0 st')) ∧ (k ≠ 0 → k = 1 → Q .r (rfBack st0 m d r0 st')) ∧ (k ≠ 0 → k ≠ 1 → ∃ id : Nat, (k - 2).toNat = id ∧ Q (.x id) (rfBack st0 m d r0 st'))
theorem rfQ_n {st0 : St} {m d r0 : Nat} {x0 : Go.Loop} {Q : XE → St → Prop} {st' : St} (k : Int) (sl : List (Nat × AV)) (h1 : st'.n = m) (h2 : lk st'.hp r0 = some ([], .lp x0 k sl)) (h3 : lk st'.sl (m + d) = some ([], .v (.c (.yv r0))))
  (h : (k = 0 → Q .n (rfBack st0 m d r0 st')) ∧ (k ≠ 0 → k = 1 → Q .r (rfBack st0 m d r0 st')) ∧ (k ≠ 0 → k ≠ 1 → ∃ id : Nat, (k - 2).toNat = id ∧ Q (.x id) (rfBack st0 m d r0 st'))) : rfQ st0 m d r0 x0 Q .n st' := ⟨k, sl, h1, h2, h3, h⟩
section
variable {P : Program} {w0 w : World} {S0 : Base} {G : Ghost} {st : St} {a : Act} {D : List Nat}
theorem SR.allocS (h : SR w0 S0 G st a w) (o : Obj) : SR w0 S0 { G with S := fun b => G.S b ∨ b = w.heap.size } st a (w.alloc o) := by
 refine h.move (fun _ => False) (fun b hb => ⟨.inl hb, heap_push_old w o (h.sub b hb).1⟩) (fun _ _ => rfl) (fun b r _ hb => ⟨hb, heap_push_old w o (h.colr b r hb).2.1⟩) (h.below.alloc h.below_size o) (fun b hb => ?_) (fun b r hb => ?_) rfl (fun e he => ⟨he, fun _ _ => id⟩) (fun e he => ⟨he, id, fun _ _ => id⟩)
 ·rw [World.size_alloc]
  rcases hb with hb | rfl
  ·have := h.sub b hb
   exact ⟨by omega, this.2⟩
  ·exact ⟨by omega, .inr (.inl h.below_size)⟩
 ·rw [World.size_alloc]
  have := h.colr b r hb
  refine ⟨this.1, by omega, ?_⟩
  rintro (hh | rfl)
  ·exact this.2.2 hh
  ·omega
theorem SR.marked (h : SR w0 S0 G st a w) {r : Nat} (hS : G.S r) (h0 : w0.heap.size ≤ r) (hr : w.heap[r]? = some (.deferred (some []))) (hn : ∀ rs : List Nat, a.defers = rs.map mark → r ∉ rs) : SR w0 S0 G st { a with defers := mark r :: a.defers } w := by
 obtain ⟨rs, k1, k2, k3⟩ := h.df
 refine ⟨h.below, h.sub, h.colr, ⟨r :: rs, by simp [k1], List.nodup_cons.2 ⟨hn rs k1, k2⟩, fun q hq => ?_⟩, h.size, h.sl, h.hp⟩
 rcases List.mem_cons.1 hq with rfl | hq
 ·exact ⟨hS, h0, hr⟩
 ·exact k3 q hq
theorem SR.outerSlot (h : SR w0 S0 G st a w) {d : Nat} {x : AV} {v : Value} (hd : st.n ≤ d) (hno : ∀ e ∈ st.sl, e.1 ≠ d) (hx : AVRep w G x v) : SR w0 { S0 with outer := fun j => if j = d then v else S0.outer j } G ⟨st.n, (d, [], x) :: st.sl, st.hp⟩ a w := by
 have hne : ∀ i, i ≠ d → slotV { S0 with outer := fun j => if j = d then v else S0.outer j } a i = slotV S0 a i := fun i hi => by
  unfold slotV
  split
  ·rfl
  ·show (if i = d then v else S0.outer i) = _
   rw [if_neg hi]
 refine ⟨h.below, h.sub, h.colr, h.df, h.size, fun e he => ?_, h.hp⟩
 rcases List.mem_cons.1 he with rfl | he
 ·refine ⟨trivial, fun _ => ?_, fun hn => absurd holds_nil hn⟩
  have : slotV { S0 with outer := fun j => if j = d then v else S0.outer j } a d = v := by
   unfold slotV
   rw [if_neg (by rw [h.size]; omega)]
   show (if d = d then v else _) = v
   rw [if_pos rfl]
  rw [this]
  exact hx
 ·obtain ⟨k1, k2, k3⟩ := h.sl e he
  rw [hne e.1 (hno e he)]
  exact ⟨k1, k2, k3⟩
theorem SR.noOuter {d : Nat} {v : Value} (h : SR w0 { S0 with outer := fun j => if j = d then v else S0.outer j } G st a w) (hno : ∀ e ∈ st.sl, e.1 ≠ d) : SR w0 S0 G st a w := by
 refine ⟨h.below, h.sub, h.colr, h.df, h.size, fun e he => ?_, h.hp⟩
 have hne : slotV { S0 with outer := fun j => if j = d then v else S0.outer j } a e.1 = slotV S0 a e.1 := by
  unfold slotV
  split
  ·rfl
  ·show (if e.1 = d then v else S0.outer e.1) = _
   rw [if_neg (hno e he)]
 have := h.sl e he
 rw [hne] at this
 exact this
theorem SR.backB0 {m d : Nat} {G' : Ghost} {st' : St} {a1 : Act} {w' : World} (hs : SR w0 S0 G st a w) (h1 : SR w (innerBase S0 G D a m) G' st' a1 w') (hn : st'.n = m) :
  SR w0 S0 { G' with S := fun b => G'.S b ∨ G.S b } ⟨st.n, inSl m d st'.sl, flatHp st'.hp⟩ a w' := by
 have hsz := h1.below.size
 have hsz0 := hs.below.size
 have hF : ∀ b, Xof D G b → S0.F b ∨ w0.heap.size ≤ b := by
  rintro b ⟨q, _, hq⟩
  exact (hs.colr b q hq).1
 have hXS : ∀ b, Xof D G b → ¬ G.S b := by
  rintro b ⟨q, _, hq⟩
  exact (hs.colr b q hq).2.2
 have hSS : ∀ b, G.S b → (G'.S b ∨ G.S b) ∧ w'.heap[b]? = w.heap[b]? := fun b hb => ⟨.inr hb, h1.below.block b (hs.sub b hb).1 (fun hx => hXS b hx hb)⟩
 have hk : ∀ b, G'.S b → ({ G' with S := fun b => G'.S b ∨ G.S b } : Ghost).S b ∧ w'.heap[b]? = w'.heap[b]? := fun b hb => ⟨.inl hb, rfl⟩
 refine ⟨?_, fun b hb => ?_, fun b r hb => ?_, hs.df.keep hSS rfl, hs.size, fun e he => ?_, fun e he _ => ?_⟩
 ·refine hs.below.trans (h1.below.mono hsz0 fun k hk hx => ?_)
  rcases hF k hx with h2 | h2
  ·exact h2
  ·omega
 ·rcases hb with hb | hb
  ·obtain ⟨h2, h3⟩ := h1.sub b hb
   refine ⟨h2, ?_⟩
   rcases h3 with h3 | h3 | h3
   ·exact (hs.sub b h3).2
   ·exact .inr (.inl (by omega))
   ·rcases hF b h3 with h4 | h4
    ·exact .inr (.inr h4)
    ·exact .inr (.inl h4)
  ·have := hs.sub b hb
   exact ⟨by omega, this.2⟩
 ·obtain ⟨h2, h3, h4⟩ := h1.colr b r hb
  refine ⟨?_, h3, ?_⟩
  ·rcases h2 with h2 | h2
   ·exact hF b h2
   ·exact .inr (by omega)
  ·rintro (hh | hh)
   ·exact h4 hh
   ·rcases h2 with h2 | h2
    ·exact hXS b h2 hh
    ·have := (hs.sub b hh).1; omega
 ·obtain ⟨h2, h3, h4⟩ := mem_inSl he
  refine ⟨trivial, fun _ => ?_, fun hn => absurd (by rw [h2]; exact holds_nil) hn⟩
  have h5 := (h1.sl _ h4).2.1 holds_nil
  have h6 : slotV (innerBase S0 G D a m) a1 (m + e.1) = slotV S0 a e.1 := by
   have h7 : ¬ (m + e.1) < a1.tmps.size := by rw [h1.size, hn]; omega
   conv => lhs; unfold slotV
   rw [if_neg h7]
   show slotV S0 a (m + e.1 - m) = _
   rw [show m + e.1 - m = e.1 by omega]
  simp only [h6] at h5
  exact AVRep.keep hk (fun _ _ => rfl) h5
 ·obtain ⟨h2, h3⟩ := mem_flatHp he
  exact ConRep.keep hk rfl (fun _ _ => rfl) (fun b hb => ⟨hb, rfl⟩) (h1.hp e h2 (by rw [h3]; exact holds_nil))
def rfCallee (st : St) (g : Operand) : Option (FuncId × List V1) :=
 match g with
 | .tmp i => match st.get [] i with
  | some (.v (.c (.fn f caps))) => some (f, caps.map fun d => V1.c (.ad d.1 d.2))
  | some (.v (.c (.cl f caps))) => some (f, caps.map capV1)
  | _ => none
 | _ => none
theorem rf_value {f : FuncId} {cl : List V1} {g : Operand} (hs : SR w0 S0 G st a w) (h : rfCallee st g = some (f, cl)) : ∃ cvs : List Value, a.eval g = .func (.func f) #[] cvs.toArray ∧ All2 (V1Rep w G) cl cvs := by
 unfold rfCallee at h
 split at h
 ·rename_i i
  split at h
  ·rename_i g caps hget
   injection h with h; injection h with e1 e2; subst e1 e2
   obtain ⟨cvs, hv, hcv⟩ := hs.get_ holds_nil hget
   exact ⟨cvs, hv, capsAd_v1 hcv⟩
  ·rename_i g caps hget
   injection h with h; injection h with e1 e2; subst e1 e2
   obtain ⟨cvs, hv, hcv⟩ := hs.get_ holds_nil hget
   exact ⟨cvs, hv, caps_v1 hcv⟩
  ·cases h
 ·cases h
theorem mark_inj {rs qs : List Nat} (h : rs.map mark = qs.map mark) : rs = qs := by
 induction rs generalizing qs with
 | nil => cases qs with
  | nil => rfl
  | cons _ _ => cases h
 | cons r rs ih =>
  cases qs with
  | nil => cases h
  | cons q qs =>
   simp only [List.map_cons, List.cons.injEq] at h
   have h1 : r = q := by
    have := h.1
    unfold mark at this
    injection this with e1
    injection e1
   rw [h1, ih h.2]
theorem aw_rangeFunc {g : Operand} {ps : Array Nat} {assign body fbody : Code} {Q : XE → St → Prop} {f : FuncId} {fn : Func} (r0 d : Nat) (is D : List Nat) (cl : List V1)
  (hg : rfCallee st g = some (f, cl)) (hf : FnOk P f) (hfn : P.funcs[f]? = some fn) (hb : fn.body = some fbody) (hr : fn.results = #[])
  (hchk : (decide (cl.length + 1 ≤ fn.ntmps) && decide (st.n ≤ d) && (st.sl.all fun e => e.1 != d) && (cl.all fun x => !x.has r0)) = true)
  (hD : ∀ x0, (flatHp (rfSt st r0 d x0 is).hp).all (fun e => D.contains e.1) = true)
  (h : ∀ x0 : Go.Loop, x0.params = ps → x0.assign = assign → x0.body = body → x0.tmps.size = st.n → AW Fm P fbody (rfQ st fn.ntmps d r0 x0 Q) ((rfSt st r0 d x0 is).inner fn.ntmps (.c (.yv r0) :: cl))) :
  AW Fm P (.rangeFunc g ps assign body) Q st := by
 rintro ⟨m, rfl⟩ w0 S0 G a w hs
 simp only [Bool.and_eq_true, decide_eq_true_eq] at hchk
 obtain ⟨⟨⟨hn, hd⟩, hno⟩, hclr⟩ := hchk
 have hno : ∀ e ∈ st.sl, e.1 ≠ d := fun e he => by
  have := List.all_eq_true.1 hno e he
  simpa using this
 refine wpIn_rangeFunc (F := Fence.wide) (fun fid _ => ?_)
 let x0 : Go.Loop := { state := .ready, pending := none, fn := fid, tmps := a.tmps, params := ps, assign, body, defers := w.heap.size }
 let l := w.heap.size + 1
 let yv : Value := .func (.yield l) #[] #[]
 let w1 := w.alloc (.deferred (some []))
 let W1 := w1.alloc (.loop x0)
 have hw1 : w1.heap.size = l := World.size_alloc _ _
 have hW1 : W1.heap.size = l + 1 := by show (w1.alloc _).heap.size = _; rw [World.size_alloc, hw1]
 have hdf : w1.heap[w.heap.size]? = some (.deferred (some [])) := heap_push_new w _
 let a' : Act := { a with defers := mark w.heap.size :: a.defers }
 have s1 := hs.allocS (.deferred (some []))
 have s2 : SR w0 S0 { G with S := fun b => G.S b ∨ b = w.heap.size } st a' w1 := by
  refine s1.marked (.inr rfl) hs.below_size hdf fun rs hrs hmem => ?_
  obtain ⟨rs', k1, _, k3⟩ := hs.df
  have : rs = rs' := mark_inj (hrs.symm.trans k1)
  subst this
  have := (k3 _ hmem).2.2
  have := (Array.getElem?_eq_some_iff.1 this).1
  omega
 have s3 := s2.alloc r0 (.loop x0) yv
 rw [hw1] at s3
 obtain ⟨G3, hG3⟩ : ∃ G3, ({ G with S := fun b => G.S b ∨ b = w.heap.size } : Ghost).new r0 l yv = G3 := ⟨_, rfl⟩
 rw [hG3] at s3
 have hrho : G3.rho r0 = yv := by rw [← hG3]; simp [Ghost.new]
 have hcol : G3.col l = some r0 := by rw [← hG3]; simp [Ghost.new]
 have hl1 : W1.heap[l]? = some (.loop x0) := by
  have := heap_push_new w1 (.loop x0)
  rwa [hw1] at this
 have hno1 : ∀ e ∈ (st.purge r0).sl, e.1 ≠ d := fun e he => hno e (by simp only [St.purge, List.mem_filter] at he; exact he.1)
 have hlp : ConRep W1 G3 r0 (.lp x0 0 (recSl (st.purge r0).sl st.n is)) := by
  refine ⟨l, hrho, hcol, hl1, fun e he => ?_⟩
  obtain ⟨k1, k2⟩ := mem_recSl he
  have k3 := (s3.sl _ k1).2.1 holds_nil
  rw [slotV_in (by rw [s3.size]; exact k2)] at k3
  exact k3
 have s4 := (s3.own (r := r0) (p := []) (c := .lp x0 0 (recSl (st.purge r0).sl st.n is)) (fun _ => hlp)).outerSlot (d := d) (x := .v (.c (.yv r0))) (v := yv) hd hno1 ⟨hrho.symm, l, rfl⟩
 have s4 : SR w0 { S0 with outer := fun j => if j = d then yv else S0.outer j } G3 (rfSt st r0 d x0 is) a' W1 := s4
 obtain ⟨cvs, hgv, hcv⟩ := rf_value hs hg
 have hk0 : ∀ b, G.S b → G3.S b ∧ W1.heap[b]? = w.heap[b]? := fun b hb => by
  have h1 := (hs.sub b hb).1
  refine ⟨by rw [← hG3]; exact .inl hb, ?_⟩
  show (w1.alloc _).heap[b]? = _
  rw [heap_push_old w1 _ (by rw [hw1]; omega), heap_push_old w _ h1]
 have hr0 : ∀ q, q ≠ r0 → G3.rho q = G.rho q := fun q hq => by rw [← hG3]; simp [Ghost.new, hq]
 have hcv1 : All2 (V1Rep W1 G3) (.c (.yv r0) :: cl) (yv :: cvs) := by
  refine ⟨⟨hrho.symm, l, rfl⟩, All2.imp (fun x hx v hv => V1Rep.keep hk0 (fun q hq => hr0 q (fun e => ?_)) hv) hcv⟩
  subst e
  have := List.all_eq_true.1 hclr x hx
  rw [hq] at this
  cases this
 have hgv' : a.eval g = .func (.func f) #[] cvs.toArray := hgv
 refine ⟨l, [mark w.heap.size], W1, { target := .fn (.func f) cvs.toArray, args := #[yv] }, W1, f, #[yv] ++ cvs.toArray, W1, ?_, ?_, fun _ _ => trivial, ?_, fun hh => (by cases hh), ?_⟩
 ·exact run_enterLoop_outer fid a.tmps ps assign body
 ·simp only [resolve, hgv']
  simp [go_sem, yv]
 ·simp only [invoke, Sem.run_bind, Sem.run_pure, Result.andThen_ok]
  exact hf _ _
 ·refine callsIn_wide.2 ?_
  have hargs : #[yv] ++ cvs.toArray = (yv :: cvs).toArray := by simp
  rw [hargs]
  have hs1 := s4.innerB (fn := fn) (args := .c (.yv r0) :: cl) (vs := yv :: cvs) (D := D) (hD x0) hcv1.length (by simpa using hn) hcv1
  have hbody := h x0 rfl rfl rfl hs.size
  refine calls_of_body hfn hb (hbody ⟨none, rfl⟩ W1 _ _ _ W1 hs1) ?_
  have fin : ∀ (st' : St) (G1 : Ghost) (a1 : Act) (w' : World), SR W1 (innerBase { S0 with outer := fun j => if j = d then yv else S0.outer j } G3 D a' fn.ntmps) G1 st' a1 w' →
    (∃ k sl, st'.n = fn.ntmps ∧ lk st'.hp r0 = some ([], .lp x0 k sl) ∧ lk st'.sl (fn.ntmps + d) = some ([], .v (.c (.yv r0))) ∧
     (k = 0 → Q .n (rfBack st fn.ntmps d r0 st')) ∧ (k ≠ 0 → k = 1 → Q .r (rfBack st fn.ntmps d r0 st')) ∧ (k ≠ 0 → k ≠ 1 → ∃ id : Nat, (k - 2).toNat = id ∧ Q (.x id) (rfBack st fn.ntmps d r0 st'))) →
    ∃ ms : List Nat, a1.defers = ms.map mark ∧ ms.Nodup ∧ (∀ r ∈ ms, w'.heap[r]? = some (.deferred (some []))) ∧ ∃ v, (results fn a1.tmps).run P (shutAll ms w') = .ok v (shutAll ms w') ∧
     rangePost Fence.wide 0 P l (QC w0 S0 Q) a' (.returned v) (shutAll ms w') := by
   rintro st' G1 a1 w' h0 ⟨k, sl, hn1, hlk, hslk, hQ⟩
   obtain ⟨ms, m1, m2, m3, h1⟩ := h0.shut
   have hres := run_results (P := P) (fn := fn) (rs := []) (by rw [hr]; rfl) a1.tmps (shutAll ms w') (us := []) trivial
   refine ⟨ms, m1, m2, m3, _, hres, ?_⟩
   generalize hw2 : shutAll ms w' = w2 at h1 ⊢
   generalize hG2 : G1.less (· ∈ ms) = G2 at h1
   obtain ⟨l2, e1, e2, e3, _⟩ := h1.hp _ (lk_mem hlk) holds_nil
   have hrho2 : G2.rho r0 = yv := by
    have h2 := (h1.sl _ (lk_mem hslk)).2.1 holds_nil
    have h3 : slotV (innerBase { S0 with outer := fun j => if j = d then yv else S0.outer j } G3 D a' fn.ntmps) { tmps := a1.tmps, defers := [] } (fn.ntmps + d) = yv := by
     unfold slotV
     rw [if_neg (by rw [h1.size, hn1]; omega)]
     show slotV { S0 with outer := fun j => if j = d then yv else S0.outer j } a' (fn.ntmps + d - fn.ntmps) = yv
     rw [show fn.ntmps + d - fn.ntmps = d by omega]
     unfold slotV
     rw [if_neg (by rw [show a'.tmps.size = st.n from hs.size]; omega)]
     show (if d = d then yv else _) = yv
     rw [if_pos rfl]
    have h4 := h2.1
    simp only [h3] at h4
    exact h4.symm
   have hl2 : l2 = l := by
    have e1' : G2.rho r0 = .func (.yield l2) #[] #[] := e1
    rw [hrho2] at e1'
    have : (Value.func (.yield l) #[] #[]) = .func (.yield l2) #[] #[] := e1'
    injection this with e1'
    injection e1' with e1'
    exact e1'.symm
   rw [hl2] at e1 e2 e3
   clear hl2
   have h5 := s4.backB0 (d := d) h1 hn1
   have h6 : SR w0 S0 { G2 with S := fun b => G2.S b ∨ G3.S b } (rfBack st fn.ntmps d r0 st') a' w2 := by
    refine (SR.noOuter (h5.purge r0) fun e he => ?_)
    have he' := he
    unfold rfBack at he'
    simp only [St.purge, List.mem_filter] at he'
    exact (mem_inSl he'.1).2.1
   have hlS : ¬ (G2.S l ∨ G3.S l) := ((h5.colr l r0 e2).2.2)
   have h7 := h6.putObj (l := l) (o := .loop { recAt x0 k with state := .exhausted }) (.inl (by have := hs.below_size; show w0.heap.size ≤ w.heap.size + 1; omega)) hlS (fun e he hc => by
    have := purge_hp he
    rw [show ({ G2 with S := fun b => G2.S b ∨ G3.S b } : Ghost).col l = some r0 from e2] at hc
    injection hc with hc
    exact this.1 hc.symm)
   have hne : (recAt x0 k).state ≠ .busy := by
    show (if k = 0 then LoopState.ready else LoopState.done) ≠ .busy
    split <;> simp
   refine ⟨jumpOf k, _, run_endLoop e3 hne, ?_⟩
   by_cases hk0 : k = 0
   ·subst hk0
    exact ⟨_, _, h7, hQ.1 rfl⟩
   ·by_cases hk1 : k = 1
    ·subst hk1
     exact wpIn_ret ⟨_, _, h7, hQ.2.1 (by decide) rfl⟩
    ·have hj : jumpOf k = some (.exit (k - 2).toNat) := by unfold jumpOf; rw [if_neg hk0, if_neg hk1]
     rw [hj]
     obtain ⟨id, e5, hq5⟩ := hQ.2.2 hk0 hk1
     rw [e5]
     exact wpIn_exit ⟨_, _, h7, hq5⟩
  intro e a1 w' hq
  cases e with
  | normal => obtain ⟨G1, st', h1, hq1⟩ := hq; exact ⟨.inl rfl, fin st' G1 a1 w' h1 hq1⟩
  | ret => obtain ⟨G1, st', h1, hq1⟩ := hq; exact ⟨.inr rfl, fin st' G1 a1 w' h1 hq1⟩
  | exit id => obtain ⟨G1, st', h1, hq1⟩ := hq; exact hq1.elim
  | goto l => exact hq.elim
  | panic ch => exact hq.elim
  | outgrown => exact hq.elim
def convQ (Q : XE → St → Prop) : XE → St → Prop := fun e s => ∃ ds s', conv ds s = some s' ∧ Q e s'
theorem aw_cq {c : Code} {Q : XE → St → Prop} (h : AW M P c (convQ Q) st) : AW M P c Q st := by
 intro m w0 S0 G a w hs
 refine Go.wpIn_mono (h m w0 S0 G a w hs) ?_
 intro e a' w' hq
 cases e with
 | normal => obtain ⟨G1, st1, hs1, ds, s', hc, hq1⟩ := hq; obtain ⟨G2, hs2⟩ := hs1.conv_ hc; exact ⟨G2, s', hs2, hq1⟩
 | exit id => obtain ⟨G1, st1, hs1, ds, s', hc, hq1⟩ := hq; obtain ⟨G2, hs2⟩ := hs1.conv_ hc; exact ⟨G2, s', hs2, hq1⟩
 | ret => obtain ⟨G1, st1, hs1, ds, s', hc, hq1⟩ := hq; obtain ⟨G2, hs2⟩ := hs1.conv_ hc; exact ⟨G2, s', hs2, hq1⟩
 | goto l => exact hq.elim
 | panic ch => exact hq.elim
 | outgrown => exact hq.elim
theorem cq {Q : XE → St → Prop} {e : XE} {s s' : St} (ds : List Dir) (hc : conv ds s = some s') (h : Q e s') : convQ Q e s := ⟨ds, s', hc, h⟩
theorem asgQ_n {K : St → Prop} {s : St} (h : K s) : asgQ K .n s := h
section
variable {σ τ : Type} {H : σ → Hp} {H' : τ → Hp} {K0 : σ → Prop} {K1 : τ → Prop} {n r0 : Nat} {x0 : Go.Loop} {sl : List (Nat × AV)} {D D' B' : List Nat} {st' : St}
theorem yret_n (y : σ) (h : (decide (st'.n = n) && hasBox st'.sl n B' && okHp D' (pick st'.hp D') && okHp D (pick st'.hp D')) = true) (h5 : (r0, [], .lp x0 0 sl) :: pick st'.hp D' = H y) (hk : K0 y) :
  yretQ n r0 x0 sl D D' B' (fun av hp' => (∃ y, av = .v (.c (.p .bool true)) ∧ hp' = H y ∧ K0 y) ∨ (∃ y, av = .v (.c (.p .bool false)) ∧ hp' = H' y ∧ K1 y)) .n st' := by
 simp only [Bool.and_eq_true, decide_eq_true_eq] at h
 exact ⟨⟨h.1.1.1, h.1.1.2, h.1.2, h.2⟩, .inl ⟨y, rfl, h5, hk⟩⟩
theorem yret_r (y : τ) (h : (decide (st'.n = n) && hasBox st'.sl n B' && okHp D' (pick st'.hp D') && okHp D (pick st'.hp D')) = true) (h5 : (r0, [], .lp x0 1 sl) :: pick st'.hp D' = H' y) (hk : K1 y) :
  yretQ n r0 x0 sl D D' B' (fun av hp' => (∃ y, av = .v (.c (.p .bool true)) ∧ hp' = H y ∧ K0 y) ∨ (∃ y, av = .v (.c (.p .bool false)) ∧ hp' = H' y ∧ K1 y)) .r st' := by
 simp only [Bool.and_eq_true, decide_eq_true_eq] at h
 exact ⟨⟨h.1.1.1, h.1.1.2, h.1.2, h.2⟩, .inr ⟨y, rfl, h5, hk⟩⟩
theorem yret_x {id : Nat} (y : τ) (h : (decide (st'.n = n) && hasBox st'.sl n B' && okHp D' (pick st'.hp D') && okHp D (pick st'.hp D')) = true) (h5 : (r0, [], .lp x0 (2 + (id : Int)) sl) :: pick st'.hp D' = H' y) (hk : K1 y) :
  yretQ n r0 x0 sl D D' B' (fun av hp' => (∃ y, av = .v (.c (.p .bool true)) ∧ hp' = H y ∧ K0 y) ∨ (∃ y, av = .v (.c (.p .bool false)) ∧ hp' = H' y ∧ K1 y)) (.x id) st' := by
 simp only [Bool.and_eq_true, decide_eq_true_eq] at h
 exact ⟨⟨h.1.1.1, h.1.1.2, h.1.2, h.2⟩, .inr ⟨y, rfl, h5, hk⟩⟩
end
def ycallChk (st : St) (o : Oper) (D : List Nat) : Option (Nat × Nat × List V1 × Hp) :=
 match o.guard, o.dst, o.op with
 | none, some d, .call c => if decide (d < st.n) && okHp D (pick st.hp D) then match yldCallee st c, inlArgs st c.args.toList with
  | some r0, some l => some (d, r0, l, pick st.hp D)
  | _, _ => none
  else none
 | _, _, _ => none
theorem ycallChk_spec {o : Oper} {D : List Nat} {d r0 : Nat} {l : List V1} {hp0 : Hp} (h : ycallChk st o D = some (d, r0, l, hp0)) :
  ∃ c, o.guard = none ∧ o.dst = some d ∧ decide (d < st.n) = true ∧ o.op = .call c ∧ yldCallee st c = some r0 ∧ inlArgs st c.args.toList = some l ∧ pick st.hp D = hp0 ∧ okHp D hp0 = true := by
 unfold ycallChk at h
 split at h
 ·rename_i d' c hg hd ho
  split at h
  ·rename_i hk
   simp only [Bool.and_eq_true] at hk
   split at h
   ·rename_i r l' hc ha
    injection h with h; injection h with e1 h; injection h with e2 h; injection h with e3 e4
    subst e1 e2 e3 e4
    exact ⟨c, hg, hd, hk.1, ho, hc, ha, rfl, hk.2⟩
   ·cases h
  ·cases h
 ·cases h
theorem dycq {σ τ : Type} {ops : Array Oper} {Q : XE → St → Prop} {i : Nat} {done T : List Nat} {o : Oper} {d r0 : Nat} {B : List Nat} {l : List V1} {H : σ → Hp} {H' : τ → Hp} {K0 : σ → Prop} {K1 : τ → Prop} {hp0 : Hp} (D : List Nat) (S : σ → St) (S' : τ → St)
  (hi : ops[i]? = some o) (hDT : (D.all fun q => T.contains q) = true)
  (hc : ycallChk st o D = some (d, r0, l, hp0)) (hS : ∀ y, (st.lentB D B d (.v (.c (.p .bool true))) (H y)).keep (S y).ks (S y).kh = S y) (hS' : ∀ y, (st.lentB D B d (.v (.c (.p .bool false))) (H' y)).keep (S' y).ks (S' y).kh = S' y)
  (hlc : LYCalls P r0 D B hp0 l (fun av hp' => (∃ y, av = .v (.c (.p .bool true)) ∧ hp' = H y ∧ K0 y) ∨ (∃ y, av = .v (.c (.p .bool false)) ∧ hp' = H' y ∧ K1 y)))
  (h : ∀ y, K0 y → AWD M P ops T (i :: done) Q (S y)) (h' : ∀ y, K1 y → AWD M P ops T (i :: done) Q (S' y)) : ADOp M P ops T done i Q st := by
 obtain ⟨c, k1, k2, k3, k4, k5, k6, k7, k8⟩ := ycallChk_spec hc
 exact adop_ycall D B l H H' K0 K1 hp0 _ _ hi hDT k1 k2 k3 k4 k5 k6 k7 k8 (fun _ => rfl) (fun _ => rfl) hlc (fun y hy => awd_conv [.prune (S y).ks (S y).kh] rfl rfl (by have := h y hy; rw [← hS y] at this; exact this))
  (fun y hy => awd_conv [.prune (S' y).ks (S' y).kh] rfl rfl (by have := h' y hy; rw [← hS' y] at this; exact this))
end
def unNil1 (t : Ty) : V1 → V1
 | .c .nils => .c (.p (.sl t) ([] : List t.T))
 | x => x
def unNil : List (Option Ty) → List V1 → List V1
 | some t :: ms, x :: l => unNil1 t x :: unNil ms l
 | none :: ms, x :: l => x :: unNil ms l
 | _, l => l
theorem unNil1_rep {w : World} {G : Ghost} {t : Ty} {x : V1} {v : Value} (h : V1Rep w G x v) : V1Rep w G (unNil1 t x) v := by
 cases x with
 | agg l => exact h
 | c x =>
  cases x
  case nils =>
   have e : v = .slice none 0 0 := h
   subst e
   exact ⟨none, 0, rfl, Nat.le_refl _, Nat.zero_le _, .inl rfl⟩
  all_goals exact h
theorem unNil_rep {w : World} {G : Ghost} : ∀ {ms : List (Option Ty)} {l : List V1} {vs : List Value}, All2 (V1Rep w G) l vs → All2 (V1Rep w G) (unNil ms l) vs
 | [], _, _, h => h
 | none :: _, [], _, h => h
 | some _ :: _, [], _, h => h
 | none :: ms, x :: l, [], h => h.elim
 | some t :: ms, x :: l, [], h => h.elim
 | none :: ms, x :: l, v :: vs, h => ⟨h.1, unNil_rep h.2⟩
 | some t :: ms, x :: l, v :: vs, h => ⟨unNil1_rep h.1, unNil_rep h.2⟩
theorem lcalls_nil {P : Program} {f : FuncId} {D B : List Nat} {hp0 : Hp} {l : List V1} {K : AV → Hp → Prop} (ms : List (Option Ty)) (h : LCalls P f D B hp0 (unNil ms l) K) : LCalls P f D B hp0 l K :=
 fun w G vs h1 h2 h3 h4 => h w G vs h1 h2 h3 (unNil_rep h4)
end Dec
