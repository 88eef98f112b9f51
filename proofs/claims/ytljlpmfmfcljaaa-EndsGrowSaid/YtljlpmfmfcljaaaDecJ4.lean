/-
Equality of structs and arrays; maps.
-/
import Derived.Test.YtljlpmfmfcljaaaDecJ3
import Derived.Laws.StructEq
import Derived.ChangeKeysEq
set_option linter.unusedSimpArgs false
set_option linter.unusedVariables false
namespace Dec
open Go Go.RowKit
def Ty.flat : Ty → Bool
  | .int _ => true
  | .bool => true
  | .pr a b => a.flat && b.flat
  | .ar _ t => t.flat
  | _ => false
theorem eqB_iff (t : Ty) (x y : t.T) : t.eqB x y = true ↔ x = y := by unfold Ty.eqB; simp
theorem eqB_pr {a b : Ty} (x y : (Ty.pr a b).T) : (Ty.pr a b).eqB x y = (a.eqB x.1 y.1 && b.eqB x.2 y.2) := by
  rw [Bool.eq_iff_iff, eqB_iff, Bool.and_eq_true, eqB_iff, eqB_iff]
  exact Prod.ext_iff
def eqOk (P : Program) : Nat → TypeId → Bool
  | 0, _ => false
  | n + 1, t => match P.underlying t with
    | some (.int _) => true
    | some .bool => true
    | some (.struct fs) => !P.stoodInHeld t && fs.toList.all fun f => f.name != "_" && eqOk P n f.type
    | some (.array _ e) => eqOk P n e
    | _ => false
section
variable {P : Program} {w w' : World} {S : Nat → Prop}
theorem flat_cells : ∀ {t : Ty} {x : t.T} {c c' : List Value}, t.flat = true → Enc w S t x c → Enc w' S t x c' → c = c'
  | .int _, _, _, _, _, h, h' => by rw [h.1, h'.1]
  | .bool, _, _, _, _, h, h' => by unfold Enc at h h'; rw [h, h']
  | .pr a b, _, _, _, hf, ⟨c1, c2, e, h1, h2⟩, ⟨d1, d2, e', h1', h2'⟩ => by
    simp only [Ty.flat, Bool.and_eq_true] at hf
    rw [e, e', flat_cells hf.1 h1 h1', flat_cells hf.2 h2 h2']
  | .ar n t, l, c, c', hf, ⟨_, h⟩, ⟨_, h'⟩ => by
    simp only [Ty.flat] at hf
    have key : ∀ {l : List t.T} {c c' : List Value}, EncL (Enc w S t) l c → EncL (Enc w' S t) l c' → c = c' := by
      intro l
      induction l with
      | nil => intro c c' h h'; unfold EncL at h h'; rw [h, h']
      | cons x l ih =>
        rintro c c' ⟨c1, c2, e, h1, h2⟩ ⟨d1, d2, e', h1', h2'⟩
        rw [e, e', flat_cells hf h1 h1', ih h2 h2']
    exact key h h'
  | .sl _, _, _, _, hf, _, _ => by simp [Ty.flat] at hf
  | .mp _ _, _, _, _, hf, _, _ => by simp [Ty.flat] at hf
  | .tr, _, _, _, hf, _, _ => by simp [Ty.flat] at hf
theorem flat_same : ∀ {t : Ty} {x : t.T} {c : List Value} (n : Nat), t.flat = true → Enc w S t x c → ∀ v ∈ c, Instr.sameBits n v v = true
  | .int _, _, _, n, _, h, v, hv => by rw [h.1] at hv; simp at hv; subst hv; cases n <;> simp [Instr.sameBits]
  | .bool, _, _, n, _, h, v, hv => by unfold Enc at h; rw [h] at hv; simp at hv; subst hv; cases n <;> simp [Instr.sameBits]
  | .pr a b, _, _, n, hf, ⟨c1, c2, e, h1, h2⟩, v, hv => by
    simp only [Ty.flat, Bool.and_eq_true] at hf
    rw [e, List.mem_append] at hv
    exact hv.elim (flat_same n hf.1 h1 v) (flat_same n hf.2 h2 v)
  | .ar _ t, l, c, n, hf, ⟨_, h⟩, v, hv => by
    simp only [Ty.flat] at hf
    have key : ∀ {l : List t.T} {c : List Value}, EncL (Enc w S t) l c → ∀ v ∈ c, Instr.sameBits n v v = true := by
      intro l
      induction l with
      | nil => intro c h v hv; unfold EncL at h; rw [h] at hv; simp at hv
      | cons x l ih =>
        rintro c ⟨c1, c2, e, h1, h2⟩ v hv
        rw [e, List.mem_append] at hv
        exact hv.elim (flat_same n hf h1 v) (ih h2 v)
    exact key h v hv
  | .sl _, _, _, _, hf, _, _, _ => by simp [Ty.flat] at hf
  | .mp _ _, _, _, _, hf, _, _, _ => by simp [Ty.flat] at hf
  | .tr, _, _, _, hf, _, _, _ => by simp [Ty.flat] at hf
theorem same_val {t : Ty} {x : t.T} {c : List Value} (hf : t.flat = true) (h : Enc w S t x c) : Instr.sameBits 10000 (mkVal t c) (mkVal t c) = true := by
  unfold mkVal
  split
  · show Instr.sameBits (9999 + 1) _ _ = true
    simp only [Instr.sameBits, beq_self_eq_true, Bool.true_and, List.all_eq_true]
    rintro ⟨v, u⟩ hvu
    obtain ⟨i, hi, e⟩ := List.mem_iff_getElem.1 hvu
    simp only [List.getElem_zip, Prod.mk.injEq] at e
    obtain ⟨rfl, rfl⟩ := e
    exact flat_same 9999 hf h _ (List.getElem_mem _)
  · cases c with
    | nil => have := Enc.length h; have := t.size_pos; simp at *; omega
    | cons v r => exact flat_same 10000 hf h v (by simp)
theorem mkVal_agg {t : Ty} {cs : List Value} (h : t.isPr = true) : mkVal t cs = .agg cs.toArray := by unfold mkVal; rw [if_pos h]
theorem nest_cons {t : Ty} {l : List Ty} {u : Ty} (h : nest (t :: l) = some u) : (l = [] ∧ u = t) ∨ ∃ u', nest l = some u' ∧ u = .pr t u' := by
  cases l with
  | nil => simp only [nest] at h; injection h with h; exact .inl ⟨rfl, h.symm⟩
  | cons s l =>
    simp only [nest] at h
    split at h
    · rename_i u' hu; injection h with h; exact .inr ⟨u', hu, h.symm⟩
    · cases h
theorem eq_fields {n d : Nat} (ih : ∀ {t : TypeId} {u : Ty} {x y : u.T} {cx cy : List Value}, tyOf P n t = some u → eqOk P n t = true → Enc w S u x cx → Enc w S u y cy → (Op.equalIn d t (mkVal u cx) (mkVal u cy)).run P w' = .ok (u.eqB x y) w') {xs ys : List Value} :
    ∀ {fs : List Field} {off : Nat} {l : List Ty} {u : Ty} {x y : u.T} {cx cy : List Value}, fieldTys (tyOf P n) fs off = some l → nest l = some u → fs.all (fun f => f.name != "_" && eqOk P n f.type) = true →
      Enc w S u x cx → Enc w S u y cy → (∀ j v, cx[j]? = some v → xs[off + j]? = some v) → (∀ j v, cy[j]? = some v → ys[off + j]? = some v) →
      (Op.eqFields d xs.toArray ys.toArray fs).run P w' = .ok (u.eqB x y) w'
  | [], off, l, u, x, y, cx, cy, h, hn, _, _, _, _, _ => by
    simp only [fieldTys] at h
    injection h with h; subst h
    simp [nest] at hn
  | f :: fs, off, l, u, x, y, cx, cy, h, hn, hall, hx, hy, hjx, hjy => by
    simp only [fieldTys] at h
    simp only [List.all_cons, Bool.and_eq_true, bne_iff_ne, ne_eq] at hall
    obtain ⟨⟨hname, hok⟩, hall⟩ := hall
    split at h
    · rename_i t ht
      split at h
      · rename_i ho
        have ho' : f.offset = off := by simpa using ho
        split at h
        · rename_i l' hl'
          injection h with h; subst h
          simp only [Op.eqFields]
          rw [if_pos hname]
          rcases nest_cons hn with ⟨rfl, rfl⟩ | ⟨u', hu', rfl⟩
          · have hp1 := run_part (w := w') ht (Enc.length hx) (by rw [← ho'] at hjx; exact hjx)
            have hp2 := run_part (w := w') ht (Enc.length hy) (by rw [← ho'] at hjy; exact hjy)
            simp only [Sem.run_bind, hp1, hp2, Result.andThen_ok, ih ht hok hx hy]
            have : fs = [] := by
              cases fs with
              | nil => rfl
              | cons g gs =>
                simp only [fieldTys] at hl'
                split at hl'
                · split at hl'
                  · split at hl'
                    · injection hl' with hl'; cases hl'
                    · cases hl'
                  · cases hl'
                · cases hl'
            subst this
            cases u.eqB x y <;> simp [Op.eqFields]
          · obtain ⟨c1, c2, rfl, h1, h2⟩ := hx
            obtain ⟨d1, d2, rfl, h1', h2'⟩ := hy
            have hl1 := Enc.length h1
            have hl2 := Enc.length h1'
            have hp1 := run_part (w := w') ht hl1 (off := f.offset) (vs := xs) (fun j v hj => by rw [ho']; exact hjx j v (by rw [List.getElem?_append_left (List.getElem?_eq_some_iff.1 hj).1]; exact hj))
            have hp2 := run_part (w := w') ht hl2 (off := f.offset) (vs := ys) (fun j v hj => by rw [ho']; exact hjy j v (by rw [List.getElem?_append_left (List.getElem?_eq_some_iff.1 hj).1]; exact hj))
            simp only [Sem.run_bind, hp1, hp2, Result.andThen_ok, ih ht hok h1 h1']
            have hrec := eq_fields ih (fs := fs) hl' hu' hall h2 h2' (xs := xs) (ys := ys) (fun j v hj => by
              have := hjx (t.size + j) v (by rw [List.getElem?_append_right (by omega), hl1, Nat.add_sub_cancel_left]; exact hj)
              rw [Nat.add_assoc]; exact this) (fun j v hj => by
              have := hjy (t.size + j) v (by rw [List.getElem?_append_right (by omega), hl2, Nat.add_sub_cancel_left]; exact hj)
              rw [Nat.add_assoc]; exact this)
            rw [eqB_pr]
            cases t.eqB x.1 y.1
            · simp
            · simp only [Bool.not_true, Bool.false_eq_true, if_false, Bool.true_and]
              exact hrec
        · cases h
      · cases h
    · cases h
theorem eq_items {d : Nat} {e : TypeId} {u : Ty} {n : Nat} (he : tyOf P n e = some u) (ih : ∀ {x y : u.T} {cx cy : List Value}, Enc w S u x cx → Enc w S u y cy → (Op.equalIn d e (mkVal u cx) (mkVal u cy)).run P w' = .ok (u.eqB x y) w') {xs ys : List Value} :
    ∀ {l m : List u.T} {i : Nat} {cx cy : List Value}, l.length = m.length → EncL (Enc w S u) l cx → EncL (Enc w S u) m cy → (∀ j v, cx[j]? = some v → xs[i * u.size + j]? = some v) → (∀ j v, cy[j]? = some v → ys[i * u.size + j]? = some v) →
      (Op.eqItems d e u.size xs.toArray ys.toArray (List.range' i l.length)).run P w' = .ok (@decide (l = m) (@instDecidableEqList _ u.decEq l m)) w'
  | [], [], i, cx, cy, _, _, _, _, _ => by simp [Op.eqItems]
  | x :: l, y :: m, i, cx, cy, hl, ⟨c1, c2, e1, h1, h2⟩, ⟨d1, d2, e2, h1', h2'⟩, hjx, hjy => by
    subst e1 e2
    have hl1 := Enc.length h1
    have hl2 := Enc.length h1'
    simp only [List.length_cons, List.range'_succ, Op.eqItems]
    have hp1 := run_part (w := w') he hl1 (off := i * u.size) (vs := xs) (fun j v hj => hjx j v (by rw [List.getElem?_append_left (List.getElem?_eq_some_iff.1 hj).1]; exact hj))
    have hp2 := run_part (w := w') he hl2 (off := i * u.size) (vs := ys) (fun j v hj => hjy j v (by rw [List.getElem?_append_left (List.getElem?_eq_some_iff.1 hj).1]; exact hj))
    simp only [Sem.run_bind, hp1, hp2, Result.andThen_ok, ih h1 h1']
    have hrec := eq_items he ih (l := l) (m := m) (i := i + 1) (by simpa using hl) h2 h2' (xs := xs) (ys := ys) (fun j v hj => by
      have := hjx (u.size + j) v (by rw [List.getElem?_append_right (by omega), hl1, Nat.add_sub_cancel_left]; exact hj)
      rw [Nat.add_mul, Nat.one_mul, Nat.add_assoc]; exact this) (fun j v hj => by
      have := hjy (u.size + j) v (by rw [List.getElem?_append_right (by omega), hl2, Nat.add_sub_cancel_left]; exact hj)
      rw [Nat.add_mul, Nat.one_mul, Nat.add_assoc]; exact this)
    cases hxy : u.eqB x y with
    | false =>
      have hne : ¬ x = y := fun e => by rw [(eqB_iff u x y).2 e] at hxy; cases hxy
      simp [hne]
    | true =>
      have heq := (eqB_iff u x y).1 hxy
      simp only [Bool.not_true, Bool.false_eq_true, if_false]
      rw [hrec]
      congr 1
      simp [heq]
  | [], _ :: _, _, _, _, h, _, _, _, _ => by simp at h
  | _ :: _, [], _, _, _, h, _, _, _, _ => by simp at h
theorem slice_eq {e t : TypeId} : ∀ (n : Nat), sliceOf P t = some e → eqOk P n t = false
  | 0, _ => rfl
  | n + 1, h => by
    unfold sliceOf at h
    simp only [eqOk]
    split at h
    · rename_i hu
      rw [hu]
    · cases h
theorem tree_eq {n : Nat} {t : TypeId} {l : List Field} (h : treeAt P t l = true) : (l.all fun f => f.name != "_" && eqOk P n f.type) = false := by
  unfold treeAt at h
  split at h
  · rename_i a b c
    simp only [Bool.and_eq_true] at h
    have h2 := h.1.2
    split at h2
    · rename_i e he
      rw [List.all_eq_false]
      exact ⟨b, by simp, by rw [slice_eq n he]; simp⟩
    · cases h2
  · cases h
theorem eq_run : ∀ (n : Nat) {t : TypeId} {u : Ty} {x y : u.T} {cx cy : List Value} (d : Nat), tyOf P n t = some u → eqOk P n t = true → Enc w S u x cx → Enc w S u y cy → (Op.equalIn (n + d) t (mkVal u cx) (mkVal u cy)).run P w' = .ok (u.eqB x y) w'
  | 0, t, u, x, y, cx, cy, d, h, _, _, _ => by simp [tyOf] at h
  | n + 1, t, u, x, y, cx, cy, d, h, hok, hx, hy => by
    rw [show n + 1 + d = (n + d) + 1 by omega]
    simp only [eqOk] at hok
    have h0 := h
    simp only [tyOf] at h
    split at h
    · cases h
    · rename_i inf hinf
      split at h
      · rename_i k hu
        split at h
        · injection h with h; subst h
          rw [hx.1, hy.1]
          show (Op.equalIn (n + d + 1) t (.int k x) (.int k y)).run P w' = _
          rw [run_equalIn_int w' (n + d) t k k x y hu]
          rfl
        · cases h
      · rename_i hu
        split at h
        · injection h with h; subst h
          unfold Enc at hx hy
          rw [hx, hy]
          show (Op.equalIn (n + d + 1) t (.bool x) (.bool y)).run P w' = _
          rw [run_equalIn_bool' w' (n + d) t x y hu]
          rfl
        · cases h
      · rename_i e hu
        rw [hu] at hok
        cases hok
      · rename_i fs hu
        rw [hu] at hok
        simp only [Bool.and_eq_true, Bool.not_eq_true'] at hok
        split at h
        · rename_i htr
          exact absurd hok.2 (by rw [tree_eq htr]; decide)
        split at h
        · rename_i l hl
          split at h
          · rename_i u' hu'
            split at h
            · rename_i hs
              injection h with h; subst h
              simp only [Bool.and_eq_true] at hs
              rw [mkVal_agg hs.1, mkVal_agg hs.1]
              have hfs : P.fieldsOf t = fs := by simp [Program.fieldsOf, hu]
              rw [run_equalIn_struct w' (n + d) t _ _ (by rw [hfs]; exact hu) hok.1, hfs]
              exact eq_fields (fun ht hk hx hy => eq_run n d ht hk hx hy) hl hu' hok.2 hx hy (fun j v hj => by rw [Nat.zero_add]; exact hj) (fun j v hj => by rw [Nat.zero_add]; exact hj)
            · cases h
          · cases h
        · cases h
      · rename_i m e hu
        rw [hu] at hok
        simp only at hok
        split at h
        · rename_i m u' ht
          split at h
          · injection h with h; subst h
            rw [mkVal_agg rfl, mkVal_agg rfl]
            obtain ⟨ie, hie, his⟩ := tyOf_info ht
            rw [run_equalIn_array (w := w') (n + d) _ _ hu hie]
            have hc : P.cellsOf e = u'.size := by simp [Program.cellsOf, hie, his]
            rw [hc, List.range_eq_range']
            have := eq_items (w' := w') (i := 0) (xs := cx) (ys := cy) (d := n + d) ht (fun hx hy => eq_run n d ht hok hx hy) (by rw [hx.1, hy.1]) hx.2 hy.2 (fun j v hj => by simpa using hj) (fun j v hj => by simpa using hj)
            rw [hx.1] at this
            exact this
          · cases h
        · cases h
      · rename_i k e hu
        rw [hu] at hok
        cases hok
      · cases h
end
def evalEq (P : Program) (st : St) (p : Path) (op : Op) : Option (Prop × AV) :=
  match op with
  | .binOp o t x y _ => match st.val p x, st.val p y with
    | some (.v (.agg cs)), some (.v (.agg ds)) => match tyOf P 8 t with
      | some u => match collV u (.agg cs), collV u (.agg ds) with
        | some x, some y => if eqOk P 8 t && !P.eqGuardType P.depth t && u.isPr then (match o with
          | .eql => some (True, pB (u.eqB x y))
          | .neq => some (True, pB (!u.eqB x y))
          | _ => none) else none
        | _, _ => none
      | none => none
    | _, _ => none
  | _ => none
section
variable {P : Program} {w0 w : World} {S0 : Base} {G : Ghost} {st : St} {a : Act} {p : Path}
theorem evalEq_sound {o : Oper} {ob : Prop} {z : AV} (h : evalEq P st p o.op = some (ob, z)) (hs : SR w0 S0 G st a w) (hp : Holds a p) :
    ∃ v, (∀ w' : World, (execOp a.eval o).run P w' = .ok (.value v) w') ∧ AVRep w G z v := by
  obtain ⟨dst, op, ty, pos, after, guard⟩ := o
  unfold evalEq at h
  simp only at h
  split at h
  · rename_i o t x y yt
    split at h
    · rename_i cs ds hx hy
      have hxv : V1Rep w G (.agg cs) (a.eval x) := hs.val_ hp hx
      have hyv : V1Rep w G (.agg ds) (a.eval y) := hs.val_ hp hy
      split at h
      · rename_i u ht
        split at h
        · rename_i x' y' hcx hcy
          split at h
          · rename_i hck
            simp only [Bool.and_eq_true, Bool.not_eq_true'] at hck
            obtain ⟨⟨hok, hg⟩, hpr⟩ := hck
            have ex := collV_rep hcx hxv
            have ey := collV_rep hcy hyv
            obtain ⟨vx, hvx, _⟩ := hxv
            obtain ⟨vy, hvy, _⟩ := hyv
            rw [hvx] at ex
            rw [hvy] at ey
            simp only [Value.cells] at ex ey
            have hrun : ∀ w' : World, (Op.equalIn 10000 t (.agg vx.toArray) (.agg vy.toArray)).run P w' = .ok (u.eqB x' y') w' := by
              intro w'
              have := eq_run (w' := w') 8 9992 ht hok ex ey
              rw [mkVal_agg hpr, mkVal_agg hpr] at this
              exact this
            have hgd : ∀ (op : BinOp) (w' : World), (eqGuard op t x y (.agg vx.toArray) (.agg vy.toArray)).run P w' = .ok () w' := fun op w' => run_eqGuard_agg w' op t x y _ _ hg
            split at h
            · injection h with h; injection h with h1 h2; subst h1 h2
              refine ⟨.bool (u.eqB x' y'), fun w' => ?_, mk_pB⟩
              simp only [execOp, hvx, hvy, Sem.run_bind, hgd, Result.andThen_ok, run_eql_struct, hrun, Sem.run_pure]
            · injection h with h; injection h with h1 h2; subst h1 h2
              refine ⟨.bool (!u.eqB x' y'), fun w' => ?_, mk_pB⟩
              simp only [execOp, hvx, hvy, Sem.run_bind, hgd, Result.andThen_ok, run_neq_struct, hrun, Sem.run_pure]
            · cases h
          · cases h
        · cases h
      · cases h
    · cases h
  · cases h
end
end Dec
