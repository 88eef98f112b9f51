/-
Maps, fields of elements, arrays: what is read, what is written.
-/
import Derived.Test.YtljlpmfmfcljaaaDecJ5
set_option linter.unusedSimpArgs false
set_option linter.unusedVariables false
namespace Dec
open Go Go.RowKit Go.MapKept
def zOk (P : Program) (e : TypeId) (t : Ty) : Bool := elemOk P e t && (match P.info? e with
  | some i => match i.zero with
    | some (.agg _) => t.isPr
    | some _ => !t.isPr
    | none => false
  | none => false)
def dictOf (st : St) (p : Path) (k v : Ty) (x : AV) : Option (List (k.T × v.T)) :=
  match x with
  | .v (.c (.own r)) => match st.con p r with
    | some (.dict k' v' l) => match Ty.same k' k, Ty.same v' v with
      | some h, some g => some (h.down ▸ g.down ▸ l)
      | _, _ => none
    | _ => none
  | .v (.c (.p (.mp k' v') l)) => match Ty.same k' k, Ty.same v' v with
    | some h, some g => some (h.down ▸ g.down ▸ l)
    | _, _ => none
  | .v (.c .nilm) => some []
  | _ => none
def mapOf (P : Program) (t : TypeId) : Option (TypeId × TypeId) := match P.underlying t with | some (.map k e) => some (k, e) | _ => none
def keyOfV (P : Program) (kt : TypeId) (kT : Ty) (x : Option AV) : Option kT.T := match x with
  | some (.v y) => if keyOk P kt && kT.isPr == y.isAgg then collV kT y else none
  | _ => none
def evalLk (P : Program) (st : St) (p : Path) (op : Op) : Option (Prop × AV) :=
  match op with
  | .lookup t m k ok => match mapOf P t with
    | some (kt, et) => match tyOf P 8 kt, tyOf P 8 et with
      | some kT, some vT => match keyOfV P kt kT (st.val p k), st.val p m with
        | some key, some m => if zOk P et vT then (match dictOf st p kT vT m with
          | some l => some (True, if ok then .tup [toV1 vT ((@mget _ _ kT.decEq l key).getD vT.d), .c (.p .bool (@mget _ _ kT.decEq l key).isSome)] else .v (toV1 vT ((@mget _ _ kT.decEq l key).getD vT.d)))
          | none => none) else none
        | _, _ => none
      | _, _ => none
    | none => none
  | .call c => match c.callee with
    | .builtin .len => match c.args.toList, c.argTypes.toList with
      | [x], [t] => match mapOf P t, st.val p x with
        | some (kt, et), some m => match tyOf P 8 kt, tyOf P 8 et with
          | some kT, some vT => match dictOf st p kT vT m with
            | some l => some (InR (l.length : Int), pI .i64 (l.length : Int))
            | none => none
          | _, _ => none
        | _, _ => none
      | _, _ => none
    | _ => none
  | _ => none
def evalZ (P : Program) (st : St) (p : Path) (op : Op) : Option (Prop × AV) :=
  match evalY P st p op with
  | some r => some r
  | none => match evalEq P st p op with
    | some r => some r
    | none => evalLk P st p op
section
variable {P : Program} {w0 w : World} {S0 : Base} {G : Ghost} {st : St} {a : Act} {p : Path}
theorem zOk_spec {e : TypeId} {t : Ty} (h : zOk P e t = true) : ∃ c, (∀ w' : World, (zeroValue e).run P w' = .ok (mkVal t c) w') ∧ ∀ (w : World) (S : Nat → Prop), Enc w S t t.d c := by
  unfold zOk at h
  simp only [Bool.and_eq_true] at h
  obtain ⟨i, z, hi, his, hib, hz, hzs, hzd⟩ := elemOk_spec h.1
  have h2 := h.2
  simp only [hi, hz] at h2
  refine ⟨z.cells.toList, fun w' => ?_, hzd⟩
  have hv : mkVal t z.cells.toList = z := by
    unfold mkVal
    cases z <;> simp only at h2 <;> first | (rw [if_pos h2]; simp [Value.cells]; done) | (rw [if_neg (by simpa using h2)]; simp [Value.cells]; done)
  rw [hv]
  simp [zeroValue, typeInfo, hi, hz]
theorem dictOf_rep {D : List Nat} {X : Nat → Prop} {k v : Ty} {x : AV} {val : Value} {l : List (k.T × v.T)} (h : dictOf st p k v x = some l) (hs : SR w0 S0 G st a w) (hp : Holds a p) (hX : Shut D G X) (htag : tagOk D x = true) (hx : AVRep w G x val) :
    (val = .map none ∧ l = []) ∨ ∃ g es ck, val = .map (some g) ∧ w.heap[g]? = some (.map es ck) ∧ ¬ X g ∧ All2 (EntRep k v (Enc w G.S k) (Enc w G.S v)) l es.toList := by
  unfold dictOf at h
  split at h
  · rename_i r
    split at h
    · rename_i k' v' l' hcon
      split at h
      · rename_i hk hv _ _
        have e1 := hk.down
        have e2 := hv.down
        subst e1 e2
        injection h with h; subst h
        obtain ⟨g, es, ck, hr, hcol, hb, h2, _⟩ := hs.con_ hp hcon
        obtain ⟨rfl, _⟩ := hx
        exact .inr ⟨g, es, ck, hr, hb, hX.no hcol htag, h2⟩
      · cases h
    · cases h
  · rename_i k' v' l'
    split at h
    · rename_i hk hv _ _
      have e1 := hk.down
      have e2 := hv.down
      subst e1 e2
      injection h with h; subst h
      rcases hx with ⟨e, rfl⟩ | ⟨g, es, ck, e, hS, hb, h2⟩
      · injection e with e _
        exact .inl ⟨e, rfl⟩
      · injection e with e _
        refine .inr ⟨g, es, ck, e, hb, fun hxg => ?_, h2⟩
        obtain ⟨q, _, e⟩ := hX g hxg
        exact (hs.colr g q e).2.2 hS
    · cases h
  · injection h with h; subst h
    exact .inl ⟨hx, rfl⟩
  · cases h
theorem mapOf_under {t kt et : TypeId} (h : mapOf P t = some (kt, et)) : P.underlying t = some (.map kt et) := by
  unfold mapOf at h
  split at h
  · rename_i hu; injection h with h; injection h with h1 h2; subst h1 h2; exact hu
  · cases h
theorem keyOfV_rep {kt : TypeId} {kT : Ty} {x : Option AV} {key : kT.T} {v : Value} (h : keyOfV P kt kT x = some key) (hx : ∀ y, x = some y → AVRep w G y v) : keyOk P kt = true ∧ ∃ c, v = mkVal kT c ∧ Enc w G.S kT key c := by
  unfold keyOfV at h
  split at h
  · rename_i y
    split at h
    · rename_i hck
      simp only [Bool.and_eq_true, beq_iff_eq] at hck
      have hv : V1Rep w G y v := hx _ rfl
      have hcs : ∃ cs, y.cls = some cs := by
        unfold collV at h
        split at h
        · rename_i cs hcs; exact ⟨cs, hcs⟩
        · cases h
      obtain ⟨cs, hcs⟩ := hcs
      exact ⟨hck.1, _, mkVal_cells hv hcs hck.2, collV_rep h hv⟩
    · cases h
  · cases h
theorem run_lookup_ {t kt et : TypeId} {kT vT : Ty} {key : kT.T} {ck : List Value} {l : List (kT.T × vT.T)} {m : Value} {ok : Bool} {X : Nat → Prop} (hu : P.underlying t = some (.map kt et)) (ht : tyOf P 8 kt = some kT) (hok : keyOk P kt = true) (hz : zOk P et vT = true) (hk : Enc w G.S kT key ck)
    (hm : (m = .map none ∧ l = []) ∨ ∃ g es ck, m = .map (some g) ∧ w.heap[g]? = some (.map es ck) ∧ ¬ X g ∧ All2 (EntRep kT vT (Enc w G.S kT) (Enc w G.S vT)) l es.toList) :
    ∃ v, (∀ w' : World, Agree X w w' → (Instr.lookup t m (mkVal kT ck) ok).run P w' = .ok (if ok then .tuple #[v, .bool (@mget _ _ kT.decEq l key).isSome] else v) w') ∧ V1Rep w G (toV1 vT ((@mget _ _ kT.decEq l key).getD vT.d)) v := by
  obtain ⟨zc, hz1, hz2⟩ := zOk_spec hz
  have hok8 : eqOk P 8 kt = true := by simp only [keyOk, Bool.and_eq_true] at hok; exact hok.1
  have hchk : ∀ (em : Bool) (w' : World), (Instr.checkKey em 10000 kt (mkVal kT ck)).run P w' = .ok () w' := fun em w' => check_run em 8 9992 ht hok8 hk
  rcases hm with ⟨rfl, rfl⟩ | ⟨g, es, cl, rfl, hb, hng, hall⟩
  · refine ⟨mkVal vT zc, fun w' _ => ?_, toV1_rep (hz2 w G.S)⟩
    obtain ⟨r, h1, h2⟩ := find_run (P := P) (w' := w') (vT := vT) (EV := Enc w G.S vT) (l := []) (es := []) ht hok hk trivial
    have hr : r = none := h2
    subst hr
    unfold Instr.lookup
    simp only [Sem.run_bind, run_underlying hu, Result.andThen_ok, Sem.run_pure, Array.toList_empty, hchk, h1, hz1]
    cases ok <;> simp [mget]
  · obtain ⟨r0, hr0, hf0⟩ := find_run (P := P) (w' := w) ht hok hk hall
    have hrun : ∀ w' : World, Agree X w w' → (Instr.lookup t (.map (some g)) (mkVal kT ck) ok).run P w' = ((match r0 with | some (_, v) => (pure (v, true) : Sem (Value × Bool)) | none => do pure (← zeroValue et, false)).run P w').andThen fun x w'' => .ok (if ok then .tuple #[x.1, .bool x.2] else x.1) w'' := by
      intro w' hw'
      obtain ⟨r, h1, h2⟩ := find_run (P := P) (w' := w') ht hok hk hall
      have hrr : r = r0 := by
        unfold Found at h2 hf0
        cases hm : @midx _ _ kT.decEq l key with
        | none => rw [hm] at h2 hf0; simp only at h2 hf0; rw [h2, hf0]
        | some i =>
          rw [hm] at h2 hf0
          obtain ⟨e1, x1, a1, _, _, rfl⟩ := h2
          obtain ⟨e2, x2, a2, _, _, rfl⟩ := hf0
          rw [a1] at a2
          injection a2 with a2
          rw [a2]
      subst hrr
      unfold Instr.lookup
      simp only [Sem.run_bind, run_underlying hu, Result.andThen_ok, run_getObj_map (hw'.heap hng hb), Sem.run_pure, hchk, h1]
      cases r <;> simp [hz1]
    unfold Found at hf0
    cases hm : @midx _ _ kT.decEq l key with
    | none =>
      rw [hm] at hf0
      simp only at hf0
      subst hf0
      have hg : @mget _ _ kT.decEq l key = none := by rw [@mget_midx _ _ kT.decEq, hm]
      refine ⟨mkVal vT zc, fun w' hw' => ?_, by rw [hg]; exact toV1_rep (hz2 w G.S)⟩
      rw [hrun w' hw', hg]
      simp [hz1]
    | some i =>
      rw [hm] at hf0
      obtain ⟨e, x, h1, h2, h3, rfl⟩ := hf0
      have hg : @mget _ _ kT.decEq l key = some x.2 := by rw [@mget_midx _ _ kT.decEq, hm]; simp [h2]
      obtain ⟨e', h4, ⟨_, c, h5, h6⟩⟩ := hall.get i x h2
      rw [h1] at h4
      injection h4 with h4
      subst h4
      refine ⟨e.val, fun w' hw' => ?_, by rw [hg, h6]; exact toV1_rep h5⟩
      rw [hrun w' hw', hg]
      simp
theorem evalLk_sound {o : Oper} {ob : Prop} {z : AV} {D : List Nat} {X : Nat → Prop} (h : evalLk P st p o.op = some (ob, z)) (hob : ob) (hs : SR w0 S0 G st a w) (hp : Holds a p)
    (hX : Shut D G X) (hld : ldOk D st p o.op = true) :
    ∃ v, (∀ w' : World, (isLoad o.op = true → Agree X w w') → (execOp a.eval o).run P w' = .ok (.value v) w') ∧ AVRep w G z v := by
  obtain ⟨dst, op, ty, pos, after, guard⟩ := o
  unfold evalLk at h
  simp only at h hld
  split at h
  · rename_i t m k ok
    split at h
    · rename_i kt et hmo
      have hu := mapOf_under hmo
      split at h
      · rename_i kT vT hkT hvT
        split at h
        · rename_i key m' hkey hm'
          split at h
          · rename_i hz
            split at h
            · rename_i l hl
              injection h with h; injection h with h1 h2; subst h1 h2
              obtain ⟨hok, ck, hkv, hke⟩ := keyOfV_rep hkey (fun y hy => hs.val_ hp hy)
              have hd := dictOf_rep hl hs hp hX (by simpa [ldOk, hm'] using hld) (hs.val_ hp hm')
              obtain ⟨v, hrun, hv⟩ := run_lookup_ (ok := ok) hu hkT hok hz hke hd
              refine ⟨if ok then .tuple #[v, .bool (@mget _ _ kT.decEq l key).isSome] else v, fun w' hw' => ?_, ?_⟩
              · simp only [execOp, Sem.run_bind, hkv, hrun w' (hw' rfl), Result.andThen_ok, Sem.run_pure]
              · cases ok with
                | true => exact ⟨[v, .bool _], rfl, hv, rfl, trivial⟩
                | false => exact hv
            · cases h
          · cases h
        · cases h
      · cases h
    · cases h
  · rename_i c
    split at h
    · rename_i hcal
      split at h
      · rename_i x t ha ht
        split at h
        · rename_i kt et m hmo hm
          have hu := mapOf_under hmo
          split at h
          · rename_i kT vT hkT hvT
            split at h
            · rename_i l hl
              injection h with h; injection h with h1 h2; subst h1 h2
              have hd := dictOf_rep hl hs hp hX (by simpa [ldOk, ha, hm] using hld) (hs.val_ hp hm)
              have ha' : c.args = #[x] := by rw [← Array.toList_inj]; simpa using ha
              have ht' : c.argTypes = #[t] := by rw [← Array.toList_inj]; simpa using ht
              refine ⟨.int .i64 (l.length : Int), fun w' hw' => ?_, mk_pI (inR_i64 hob).1 (inR_i64 hob).2⟩
              rcases hd with ⟨hv, rfl⟩ | ⟨g, es, ck, hv, hb, hng, hall⟩
              · simp [execOp, resolve, invoke, builtin, hcal, ha', ht', hv, Builtin.len_, run_underlying hu, goInt]
              · have hl := hall.length
                have hb' := (hw' rfl).heap hng hb
                simp only [Array.length_toList] at hl
                simp [execOp, resolve, invoke, builtin, hcal, ha', ht', hv, Builtin.len_, run_underlying hu, goInt, run_getObj_map hb', hl]
            · cases h
          · cases h
        · cases h
      · cases h
    · cases h
  · cases h
theorem evalZ_sound {o : Oper} {ob : Prop} {z : AV} {D : List Nat} {X : Nat → Prop} (hcv : ∀ s d x, o.op = .convert s d x → ∃ u, P.underlying s = some u) (h : evalZ P st p o.op = some (ob, z)) (hob : ob) (hs : SR w0 S0 G st a w) (hp : Holds a p)
    (hX : Shut D G X) (hld : ldOk D st p o.op = true) :
    ∃ v, (∀ w' : World, (isLoad o.op = true → Agree X w w') → (execOp a.eval o).run P w' = .ok (.value v) w') ∧ AVRep w G z v := by
  unfold evalZ at h
  split at h
  · rename_i r hr
    injection h with h; subst h
    exact evalY_sound hcv hr hob hs hp hX hld
  · split at h
    · rename_i r hr
      injection h with h; subst h
      obtain ⟨v, h1, h2⟩ := evalEq_sound hr hs hp
      exact ⟨v, fun w' _ => h1 w', h2⟩
    · exact evalLk_sound h hob hs hp hX hld
end
end Dec
