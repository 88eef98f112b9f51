/-
Maps: the look-up; what is stored.
-/
import Derived.Test.YtljlpmfmfcljaaaDecJ4
import Derived.MapKept
import Derived.Carry
set_option linter.unusedSimpArgs false
set_option linter.unusedVariables false
namespace Dec
open Go Go.RowKit
section
variable {P : Program} {w w' : World} {S : Nat → Prop}
theorem eqOk_flat : ∀ (n : Nat) {t : TypeId} {u : Ty}, tyOf P n t = some u → eqOk P n t = true → u.flat = true
  | 0, t, u, h, _ => by simp [tyOf] at h
  | n + 1, t, u, h, hok => by
    have fields : ∀ {fs : List Field} {off : Nat} {l : List Ty} {u : Ty}, fieldTys (tyOf P n) fs off = some l → nest l = some u → fs.all (fun f => f.name != "_" && eqOk P n f.type) = true → u.flat = true := by
      intro fs
      induction fs with
      | nil => intro off l u h hn _; simp only [fieldTys] at h; injection h with h; subst h; simp [nest] at hn
      | cons f fs ihf =>
        intro off l u h hn hall
        simp only [fieldTys] at h
        simp only [List.all_cons, Bool.and_eq_true] at hall
        split at h
        · rename_i t ht
          split at h
          · split at h
            · rename_i l' hl'
              injection h with h; subst h
              rcases nest_cons hn with ⟨_, rfl⟩ | ⟨u', hu', rfl⟩
              · exact eqOk_flat n ht hall.1.2
              · simp only [Ty.flat, Bool.and_eq_true]
                exact ⟨eqOk_flat n ht hall.1.2, ihf hl' hu' hall.2⟩
            · cases h
          · cases h
        · cases h
    simp only [eqOk] at hok
    simp only [tyOf] at h
    split at h
    · cases h
    · split at h
      · split at h
        · injection h with h; subst h; rfl
        · cases h
      · split at h
        · injection h with h; subst h; rfl
        · cases h
      · rename_i e hu; rw [hu] at hok; cases hok
      · rename_i fs hu
        rw [hu] at hok
        simp only [Bool.and_eq_true] at hok
        split at h
        · rename_i htr
          exact absurd hok.2 (by rw [tree_eq htr]; decide)
        split at h
        · rename_i l hl
          split at h
          · rename_i u' hu'
            split at h
            · injection h with h; subst h; exact fields hl hu' hok.2
            · cases h
          · cases h
        · cases h
      · rename_i m e hu
        rw [hu] at hok
        split at h
        · rename_i m u' ht
          split at h
          · injection h with h; subst h; simp only [Ty.flat]; exact eqOk_flat n ht hok
          · cases h
        · cases h
      · rename_i k e hu; rw [hu] at hok; cases hok
      · cases h
theorem check_run (em : Bool) : ∀ (n : Nat) {t : TypeId} {u : Ty} {x : u.T} {cx : List Value} (d : Nat), tyOf P n t = some u → eqOk P n t = true → Enc w S u x cx → (Instr.checkKey em (n + d) t (mkVal u cx)).run P w' = .ok () w'
  | 0, t, u, x, cx, d, h, _, _ => by simp [tyOf] at h
  | n + 1, t, u, x, cx, d, h, hok, hx => by
    rw [show n + 1 + d = (n + d) + 1 by omega]
    simp only [eqOk] at hok
    have h0 := h
    simp only [tyOf] at h
    split at h
    · cases h
    · rename_i inf hinf
      split at h
      · rename_i k hu
        split at h
        · injection h with h; subst h
          rw [hx.1]
          simp [Instr.checkKey, mkVal, Ty.isPr, run_underlying hu]
        · cases h
      · rename_i hu
        split at h
        · injection h with h; subst h
          unfold Enc at hx
          rw [hx]
          simp [Instr.checkKey, mkVal, Ty.isPr, run_underlying hu]
        · cases h
      · rename_i e hu; rw [hu] at hok; cases hok
      · rename_i fs hu
        rw [hu] at hok
        simp only [Bool.and_eq_true, Bool.not_eq_true'] at hok
        split at h
        · rename_i htr
          exact absurd hok.2 (by rw [tree_eq htr]; decide)
        split at h
        · rename_i l hl
          split at h
          · rename_i u' hu'
            split at h
            · rename_i hs
              injection h with h; subst h
              simp only [Bool.and_eq_true] at hs
              rw [mkVal_agg hs.1]
              have key : ∀ {fs : List Field} {off : Nat} {l : List Ty} {v : Ty} {y : v.T} {cy : List Value}, fieldTys (tyOf P n) fs off = some l → nest l = some v → fs.all (fun f => f.name != "_" && eqOk P n f.type) = true →
                  Enc w S v y cy → (∀ j z, cy[j]? = some z → cx[off + j]? = some z) →
                  (forIn (m := Sem) fs PUnit.unit fun f _ => do
                    if f.name ≠ "_" then do Instr.checkKey em (n + d) f.type (← part f.type cx.toArray f.offset); pure (ForInStep.yield PUnit.unit)
                    else pure (ForInStep.yield PUnit.unit)).run P w' = .ok PUnit.unit w' := by
                intro fs
                induction fs with
                | nil => intro off l v y cy h hn _ _ _; simp only [fieldTys] at h; injection h with h; subst h; simp [nest] at hn
                | cons f fs ihf =>
                  intro off l v y cy h hn hall hy hj
                  simp only [fieldTys] at h
                  simp only [List.all_cons, Bool.and_eq_true, bne_iff_ne, ne_eq] at hall
                  split at h
                  · rename_i t ht
                    split at h
                    · rename_i ho
                      have ho' : f.offset = off := by simpa using ho
                      split at h
                      · rename_i l' hl'
                        injection h with h; subst h
                        simp only [List.forIn_cons, Sem.run_bind]
                        rw [if_pos hall.1.1]
                        rcases nest_cons hn with ⟨rfl, rfl⟩ | ⟨v', hv', rfl⟩
                        · have hp1 := run_part (w := w') ht (Enc.length hy) (by rw [← ho'] at hj; exact hj)
                          simp only [Sem.run_bind, hp1, Result.andThen_ok, check_run em n d ht hall.1.2 hy, Sem.run_pure]
                          have : fs = [] := by
                            cases fs with
                            | nil => rfl
                            | cons g gs =>
                              simp only [fieldTys] at hl'
                              split at hl'
                              · split at hl'
                                · split at hl'
                                  · injection hl' with hl'; cases hl'
                                  · cases hl'
                                · cases hl'
                              · cases hl'
                          subst this
                          simp
                        · obtain ⟨c1, c2, rfl, h1, h2⟩ := hy
                          have hl1 := Enc.length h1
                          have hp1 := run_part (w := w') ht hl1 (off := f.offset) (vs := cx) (fun j z hz => by rw [ho']; exact hj j z (by rw [List.getElem?_append_left (List.getElem?_eq_some_iff.1 hz).1]; exact hz))
                          simp only [Sem.run_bind, hp1, Result.andThen_ok, check_run em n d ht hall.1.2 h1, Sem.run_pure]
                          exact ihf hl' hv' hall.2 h2 (fun j z hz => by
                            have := hj (t.size + j) z (by rw [List.getElem?_append_right (by omega), hl1, Nat.add_sub_cancel_left]; exact hz)
                            rw [Nat.add_assoc]; exact this)
                      · cases h
                    · cases h
                  · cases h
              have := key hl hu' hok.2 hx (fun j z hz => by rw [Nat.zero_add]; exact hz)
              rw [Instr.checkKey]
              simp only [Sem.run_bind, run_underlying hu, Result.andThen_ok, ← Array.forIn_toList]
              rw [this]
              rfl
            · cases h
          · cases h
        · cases h
      · rename_i m e hu
        rw [hu] at hok
        simp only at hok
        split at h
        · rename_i m u' ht
          split at h
          · injection h with h; subst h
            rw [mkVal_agg rfl]
            rw [Instr.checkKey]
            simp only [Sem.run_bind, run_underlying hu, Result.andThen_ok]
            simp only [Std.Legacy.Range.forIn_eq_forIn_range', Std.Legacy.Range.size, Nat.sub_zero, Nat.add_one_sub_one, Nat.div_one]
            have key : ∀ {l : List u'.T} {i : Nat} {cy : List Value}, EncL (Enc w S u') l cy → (∀ j z, cy[j]? = some z → cx[i * u'.size + j]? = some z) →
                (forIn (m := Sem) (List.range' i l.length) PUnit.unit fun i _ => do
                  let sz ← Go.sizeOf e
                  let x ← part e cx.toArray (i * sz)
                  Instr.checkKey em (n + d) e x
                  pure (ForInStep.yield PUnit.unit)).run P w' = .ok PUnit.unit w' := by
              intro l
              induction l with
              | nil => intro i cy _ _; simp
              | cons y l ihl =>
                rintro i cy ⟨c1, c2, rfl, h1, h2⟩ hj
                have hl1 := Enc.length h1
                have hp1 := run_part (w := w') ht hl1 (off := i * u'.size) (vs := cx) (fun j z hz => hj j z (by rw [List.getElem?_append_left (List.getElem?_eq_some_iff.1 hz).1]; exact hz))
                simp only [List.length_cons, List.range'_succ, List.forIn_cons, Sem.run_bind, tyOf_size ht, Result.andThen_ok, hp1, check_run em n d ht hok h1, Sem.run_pure]
                have := ihl (i := i + 1) h2 (fun j z hz => by
                  have := hj (u'.size + j) z (by rw [List.getElem?_append_right (by omega), hl1, Nat.add_sub_cancel_left]; exact hz)
                  rw [Nat.add_mul, Nat.one_mul, Nat.add_assoc]; exact this)
                simpa only [Sem.run_bind] using this
            have := key (i := 0) hx.2 (fun j z hz => by simpa using hz)
            rw [hx.1] at this
            rw [this]
            rfl
          · cases h
        · cases h
      · rename_i k e hu; rw [hu] at hok; cases hok
      · cases h
theorem All2.get2 {α β : Type} {R : α → β → Prop} : ∀ {l : List α} {m : List β} (i : Nat) (b : β), All2 R l m → m[i]? = some b → ∃ a, l[i]? = some a ∧ R a b
  | _ :: _, b :: _, 0, c, h, e => ⟨_, rfl, by simp at e; subst e; exact h.1⟩
  | _ :: _, _ :: _, i + 1, a, h, e => by simpa using All2.get2 i a h.2 (by simpa using e)
  | [], [], _, _, _, e => by simp at e
  | [], _ :: _, _, _, h, _ => h.elim
  | _ :: _, [], _, _, h, _ => h.elim
def Found {kT vT : Ty} (l : List (kT.T × vT.T)) (es : List MapEntry) (k : kT.T) (r : Option (Nat × Value)) : Prop :=
  match @midx _ _ kT.decEq l k with
  | none => r = none
  | some i => ∃ e x, es[i]? = some e ∧ l[i]? = some x ∧ x.1 = k ∧ r = some (i, e.val)
theorem asking_run {n : Nat} {kt : TypeId} {kT vT : Ty} {k : kT.T} {ck : List Value} {EV : vT.T → List Value → Prop} (hn : n ≤ 10000) (ht : tyOf P n kt = some kT) (hok : eqOk P n kt = true) (hk : Enc w S kT k ck) :
    ∀ {l : List (kT.T × vT.T)} {es : List MapEntry} (i0 : Nat), All2 (EntRep kT vT (Enc w S kT) EV) l es →
      ∃ r, (Instr.findAsking kt (mkVal kT ck) es i0).run P w' = .ok (r.map fun x => (x.1 + i0, x.2)) w' ∧ Found l es k r
  | [], [], i0, _ => ⟨none, rfl, rfl⟩
  | (k', v') :: l, e :: es, i0, ⟨⟨⟨c, hc, hke⟩, hv⟩, hr⟩ => by
    have heq := eq_run (w' := w') n (10000 - n) ht hok hk hc
    rw [show n + (10000 - n) = 10000 by omega] at heq
    have heq' : (Op.equal kt (mkVal kT ck) e.key).run P w' = .ok (kT.eqB k k') w' := by rw [hke]; exact heq
    simp only [Instr.findAsking, Sem.run_bind, heq', Result.andThen_ok]
    cases hb : kT.eqB k k' with
    | true =>
      have hkk := (eqB_iff kT k k').1 hb
      refine ⟨some (0, e.val), by simp, ?_⟩
      unfold Found
      have : @midx _ _ kT.decEq ((k', v') :: l) k = some 0 := by simp only [midx]; rw [if_pos hkk]
      rw [this]
      exact ⟨e, (k', v'), rfl, rfl, hkk.symm, rfl⟩
    | false =>
      have hkk : ¬ k = k' := fun e => by rw [(eqB_iff kT k k').2 e] at hb; cases hb
      obtain ⟨r, h1, h2⟩ := asking_run hn ht hok hk (l := l) (es := es) (i0 + 1) hr
      refine ⟨r.map fun x => (x.1 + 1, x.2), ?_, ?_⟩
      · simp only [Bool.false_eq_true, if_false, h1]
        cases r with
        | none => rfl
        | some x => simp only [Option.map_some]; congr 3; omega
      · unfold Found at h2 ⊢
        simp only [midx]
        rw [if_neg hkk]
        cases hm : @midx _ _ kT.decEq l k with
        | none => rw [hm] at h2; simp only at h2; subst h2; rfl
        | some i =>
          rw [hm] at h2
          obtain ⟨e', x, h3, h4, h5, rfl⟩ := h2
          exact ⟨e', x, by simpa using h3, by simpa using h4, h5, rfl⟩
  | [], _ :: _, _, h => h.elim
  | _ :: _, [], _, h => h.elim
theorem now_run {q : IntKind} {d : TypeDesc} {vT : Ty} {k : Int} {EV : vT.T → List Value → Prop} (hd : d = .int q) :
    ∀ {l : List ((Ty.int q).T × vT.T)} {es : List MapEntry} (i0 : Nat), All2 (EntRep (.int q) vT (Enc w S (.int q)) EV) l es →
      ∃ r, Instr.findNow d (.int q k) es i0 = some (r.map fun x => (x.1 + i0, x.2)) ∧ Found (kT := .int q) l es k r
  | [], [], i0, _ => ⟨none, rfl, rfl⟩
  | (k', v') :: l, e :: es, i0, ⟨⟨⟨c, hc, hke⟩, hv⟩, hr⟩ => by
    subst hd
    have hke' : e.key = .int q k' := by rw [hke, hc.1]; rfl
    simp only [Instr.findNow, hke', Instr.sameNow, if_true]
    by_cases hkk : k = k'
    · subst hkk
      refine ⟨some (0, e.val), by simp, ?_⟩
      unfold Found
      have : @midx _ _ (Ty.decEq (.int q)) ((k, v') :: l) k = some 0 := by simp [midx]
      rw [this]
      exact ⟨e, (k, v'), rfl, rfl, rfl, rfl⟩
    · have hb : (k == k') = false := by simpa using hkk
      obtain ⟨r, h1, h2⟩ := now_run (k := k) (d := .int q) rfl (l := l) (es := es) (i0 + 1) hr
      refine ⟨r.map fun x => (x.1 + 1, x.2), ?_, ?_⟩
      · rw [hb]
        simp only [h1]
        cases r with
        | none => rfl
        | some x => simp only [Option.map_some]; congr 3; omega
      · unfold Found at h2 ⊢
        simp only [midx]
        rw [if_neg hkk]
        cases hm : @midx _ _ (Ty.decEq (.int q)) l k with
        | none => rw [hm] at h2; simp only at h2; subst h2; rfl
        | some i =>
          rw [hm] at h2
          obtain ⟨e', x, h3, h4, h5, rfl⟩ := h2
          exact ⟨e', x, by simpa using h3, by simpa using h4, h5, rfl⟩
  | [], _ :: _, _, h => h.elim
  | _ :: _, [], _, h => h.elim
def keyOk (P : Program) (t : TypeId) : Bool := eqOk P 8 t && (match P.underlying t with | some .bool => false | _ => true)
theorem find_run_n {n : Nat} {kt : TypeId} {kT vT : Ty} {k : kT.T} {ck : List Value} {EV : vT.T → List Value → Prop} (hn : n + 1 ≤ 10000) (ht : tyOf P (n + 1) kt = some kT) (hok : eqOk P (n + 1) kt = true) (hnb : ¬ P.underlying kt = some .bool) (hk : Enc w S kT k ck)
    {l : List (kT.T × vT.T)} {es : List MapEntry} (hall : All2 (EntRep kT vT (Enc w S kT) EV) l es) : ∃ r, (Instr.findKey kt (mkVal kT ck) es).run P w' = .ok r w' ∧ Found l es k r := by
  have hask := asking_run (w' := w') hn ht hok hk 0 hall
  obtain ⟨ra, h1, h2⟩ := hask
  have hid : (ra.map fun x => (x.1 + 0, x.2)) = ra := by cases ra <;> rfl
  rw [hid] at h1
  have agg : ∀ {d : TypeDesc}, P.underlying kt = some d → (∀ v v', Instr.sameNow d v v' = none) → ∃ r, (Instr.findKey kt (mkVal kT ck) es).run P w' = .ok r w' ∧ Found l es k r := by
    intro d hu hno
    refine ⟨ra, ?_, h2⟩
    unfold Instr.findKey
    simp only [Sem.run_bind, run_underlying hu, Result.andThen_ok]
    cases es with
    | nil =>
      simp only [Instr.findNow, Sem.run_pure]
      simp only [Instr.findAsking, Sem.run_pure] at h1
      exact h1
    | cons e es =>
      simp only [Instr.findNow, hno]
      exact h1
  simp only [eqOk] at hok
  simp only [tyOf] at ht
  split at ht
  · cases ht
  · rename_i inf hinf
    split at ht
    · rename_i q hu
      split at ht
      · injection ht with ht; subst ht
        obtain ⟨r, h3, h4⟩ := now_run (k := k) (d := .int q) rfl 0 hall
        refine ⟨r, ?_, h4⟩
        have hv : mkVal (.int q) ck = .int q k := by rw [hk.1]; rfl
        unfold Instr.findKey
        simp only [Sem.run_bind, run_underlying hu, Result.andThen_ok, hv, h3, Sem.run_pure]
        cases r <;> rfl
      · cases ht
    · rename_i hu; exact absurd hu hnb
    · rename_i e hu; rw [hu] at hok; cases hok
    · rename_i fs hu; exact agg hu (fun v v' => by cases v <;> cases v' <;> rfl)
    · rename_i m e hu; exact agg hu (fun v v' => by cases v <;> cases v' <;> rfl)
    · rename_i k' e hu; rw [hu] at hok; cases hok
    · cases ht
theorem find_run {kt : TypeId} {kT vT : Ty} {k : kT.T} {ck : List Value} {EV : vT.T → List Value → Prop} (ht : tyOf P 8 kt = some kT) (hok : keyOk P kt = true) (hk : Enc w S kT k ck)
    {l : List (kT.T × vT.T)} {es : List MapEntry} (hall : All2 (EntRep kT vT (Enc w S kT) EV) l es) : ∃ r, (Instr.findKey kt (mkVal kT ck) es).run P w' = .ok r w' ∧ Found l es k r := by
  simp only [keyOk, Bool.and_eq_true] at hok
  refine find_run_n (n := 7) (by omega) ht hok.1 (fun hu => ?_) hk hall
  have := hok.2
  rw [hu] at this
  cases this
theorem mget_midx {α β : Type} [DecidableEq α] : ∀ (l : List (α × β)) (k : α), mget l k = match midx l k with | none => none | some i => (l[i]?).map (·.2)
  | [], _ => rfl
  | (a, b) :: r, k => by
    simp only [mget, midx]
    by_cases h : k = a
    · rw [if_pos h, if_pos h]; rfl
    · rw [if_neg h, if_neg h, mget_midx r k]
      cases midx r k <;> simp
theorem mset_midx {α β : Type} [DecidableEq α] : ∀ (l : List (α × β)) (k : α) (v : β), mset l k v = match midx l k with | none => l ++ [(k, v)] | some i => l.set i (k, v)
  | [], _, _ => rfl
  | (a, b) :: r, k, v => by
    simp only [mset, midx]
    by_cases h : k = a
    · rw [if_pos h, if_pos h]; rfl
    · rw [if_neg h, if_neg h, mset_midx r k v]
      cases midx r k <;> simp
end
end Dec
