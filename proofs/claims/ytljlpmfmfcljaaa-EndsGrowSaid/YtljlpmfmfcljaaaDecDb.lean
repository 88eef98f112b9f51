/-
Deep rows: what reads, writes and makes them.
-/
import Derived.Test.YtljlpmfmfcljaaaDecDa
set_option linter.unusedSimpArgs false
set_option linter.unusedVariables false
namespace Dec
open Go Go.RowKit
def focusOf : List (Nat × Nat × List Cl) → Nat → Option (Nat × List Cl)
  | [], _ => none
  | (q', i, cs) :: r, q => if q' == q then some (i, cs) else focusOf r q
theorem focusOf_mem : ∀ {fs : List (Nat × Nat × List Cl)} {q i : Nat} {cs : List Cl}, focusOf fs q = some (i, cs) → (q, i, cs) ∈ fs
  | [], _, _, _, h => by simp [focusOf] at h
  | (q', i', cs') :: r, q, i, cs, h => by
    simp only [focusOf] at h
    split at h
    · rename_i e
      injection h with h; injection h with e1 e2; subst e1 e2
      have : q' = q := by simpa using e
      subst this
      exact List.mem_cons_self
    · exact List.mem_cons_of_mem _ (focusOf_mem h)
def isPlain : Ty → Bool
  | .int _ => true
  | .bool => true
  | _ => false
def loadPlain (P : Program) (st : St) (p : Path) (t : TypeId) (r i sz off : Nat) : Option (Prop × AV) :=
  match st.con p r, tyOf P 8 t with
  | some (.deep _ _ u l []), some v => if isPlain v && sz == u.size then (match subAt v u (l.getD i u.d) off with
    | some y => some (True, .v (toV1 v y))
    | none => none) else none
  | _, _ => none
def evalD (P : Program) (st : St) (p : Path) (op : Op) : Option (Prop × AV) :=
  match op with
  | .indexAddr t x i => match elemOf P t, st.val p x, st.val p i with
    | some e, some (.v (.c (.own r))), some (.v (.c (.p (.int _) i))) => match tyOf P 8 e, st.con p r with
      | some u, some (.deep _ _ v l _) => if v.size == u.size then some (inIdx i l.length, .v (.c (.el r i.toNat u.size))) else none
      | _, _ => none
    | _, _, _ => none
  | .fieldAddr s x f => match fieldsOf P s, st.val p x with
    | some fs, some (.v (.c (.ep r q off))) => match fs[f]? with
      | none => none
      | some fd => match P.info? fd.type with
        | none => none
        | some i => if i.size == 0 then none else some (True, .v (.c (.ep r q (off + fd.offset))))
    | _, _ => none
  | .load t x => match st.val p x with
    | some (.v (.c (.ep r q off))) => match st.con p r, aggSize P t with
      | some (.deep _ _ _ _ fs), some (b, n) => match focusOf fs q with
        | some (_, cs) => if b then (if decide (off + n ≤ cs.length) then some (True, .v (.agg ((cs.drop off).take n))) else none) else (match cs[off]? with
          | some c => some (True, .v (.c c))
          | none => none)
        | none => none
      | _, _ => none
    | some (.v (.c (.el r i sz))) => loadPlain P st p t r i sz 0
    | some (.v (.c (.elf r i sz off))) => loadPlain P st p t r i sz off
    | _ => none
  | .call c => match c.callee with
    | .builtin .len => match c.args.toList, c.argTypes.toList with
      | [x], [t] => match st.val p x with
        | some (.v (.c (.own r))) => match st.con p r with
          | some (.deep _ _ _ l _) => if isSlT P t then some (True, pI .i64 (l.length : Int)) else none
          | _ => none
        | _ => none
      | _, _ => none
    | _ => none
  | _ => none
def setFocus (fs : List (Nat × Nat × List Cl)) (q : Nat) (cs : List Cl) : List (Nat × Nat × List Cl) := fs.map fun f => if f.1 == q then (f.1, f.2.1, cs) else f
def evalU3 (P : Program) (st : St) (op : Op) : Option (Prop × Nat × Con) :=
  match op with
  | .store t x y => match st.val [] x, st.val [] y with
    | some (.v (.c (.ep r q off))), some (.v z) => match st.con [] r, z.cls, aggSize P t with
      | some (.deep e E u l fs), some xs, some (_, n) => match focusOf fs q with
        | some (i, cs) => if xs.length == n && decide (off + n ≤ cs.length) && xs.all (fun x => !x.isAny) then some (True, r, .deep e E u l (setFocus fs q (cs.take off ++ xs ++ cs.drop (off + n)))) else none
        | none => none
      | _, _, _ => none
    | _, _ => none
  | _ => none
section
variable {P : Program} {w0 w : World} {S0 : Base} {G : Ghost} {st : St} {a : Act} {p : Path}
theorem subHere_plain {v u : Ty} {x : u.T} {y : v.T} (h : subHere v u x = some y) : u = v := by
  unfold subHere at h
  split at h
  · rename_i hh _; exact hh.down
  · cases h
theorem subAt_denc {S : Nat → Prop} {E : TypeId} {v : Ty} {y : v.T} (hpl : isPlain v = true) : ∀ {u : Ty} {x : u.T} {off : Nat} {cs : List Value} {B : List Nat}, subAt v u x off = some y → DEnc w S E u x cs B → ∃ c, Enc w S v y c ∧ ∀ j e, c[j]? = some e → cs[off + j]? = some e
  | .pr a b, x, off, cs, B, h, ⟨c1, c2, B1, B2, e, _, h1, h2⟩ => by
    simp only [subAt] at h
    split at h
    · rename_i y' hy
      split at hy
      · have := subHere_plain hy
        rw [← this] at hpl
        cases hpl
      · cases hy
    · split at h
      · rename_i hlt
        obtain ⟨c, hc, hj⟩ := subAt_denc hpl h h1
        refine ⟨c, hc, fun j z hz => ?_⟩
        rw [e, List.getElem?_append_left (List.getElem?_eq_some_iff.1 (hj j z hz)).1]
        exact hj j z hz
      · rename_i hge
        obtain ⟨c, hc, hj⟩ := subAt_denc hpl h h2
        refine ⟨c, hc, fun j z hz => ?_⟩
        have hl := DEnc.length h1
        rw [e, List.getElem?_append_right (by omega), hl, show off + j - a.size = off - a.size + j by omega]
        exact hj j z hz
  | .int k, x, off, cs, B, h, hx => by
    exact subAt_enc h hx.1
  | .bool, x, off, cs, B, h, hx => by
    exact subAt_enc h hx.1
  | .ar _ _, x, off, cs, B, h, hx => by
    exact subAt_enc h hx.1
  | .tr, x, off, cs, B, h, hx => by
    exact subAt_enc h hx.1
  | .sl u, x, off, cs, B, h, hx => by
    simp only [subAt] at h
    split at h
    · have := subHere_plain h
      rw [← this] at hpl
      cases hpl
    · cases h
  | .mp k u, x, off, cs, B, h, hx => by
    simp only [subAt] at h
    split at h
    · have := subHere_plain h
      rw [← this] at hpl
      cases hpl
    · cases h
theorem loadPlain_sound {D : List Nat} {X : Nat → Prop} {t : TypeId} {r i sz off : Nat} {ob : Prop} {z : AV} {vx : Value} (h : loadPlain P st p t r i sz off = some (ob, z)) (hs : SR w0 S0 G st a w) (hp : Holds a p) (hX : Shut D G X) (htag : (!D.contains r) = true)
    (hx : ∃ g n c, G.rho r = .slice (some ⟨g, 0, none⟩) n c ∧ i < n ∧ vx = .pointer (some ⟨g, i * sz + off, none⟩)) :
    ∃ v, (∀ w' : World, Agree X w w' → (Instr.loadAt t vx).run P w' = .ok v w') ∧ AVRep w G z v := by
  unfold loadPlain at h
  split at h
  · rename_i e' E u l v hcon ht
    split at h
    · rename_i hck
      simp only [Bool.and_eq_true, beq_iff_eq] at hck
      obtain ⟨hpl, hsz⟩ := hck
      subst hsz
      split at h
      · rename_i y hsub
        injection h with h; injection h with h1 h2; subst h1 h2
        obtain ⟨g, n, c, hr, hin, rfl⟩ := hx
        obtain ⟨xss, Bs, ho, hml, hcl, hrow, _, hBs, _⟩ := hs.con_ hp hcon
        rw [hr] at ho hcl
        rcases ho.2 with ⟨e0, _⟩ | ⟨g', cap, cur, e0, hb0, hb, hnc, hcm, hcs, htk⟩
        · cases e0
        · injection e0 with e0 e1 e2
          injection e0 with e0; injection e0 with e0 _
          subst e0 e1 e2
          obtain ⟨cs, B, hc1, hB1, hd⟩ := hrow.el i _ (getD_some (d := u.d) hin) (by simp)
          obtain ⟨c1, hc2, hj1⟩ := subAt_denc hpl hsub hd
          refine ⟨_, fun w' hw' => ?_, toV1_rep hc2⟩
          have := run_loadVar_ty (w := w') ht (b := g) (off := i * u.size + off) (Enc.length hc2) (fun j z hz => by
            rw [cells_cell (hw'.heap (hX.no (hcl g rfl) htag) hb)]
            have h3 := dflat_get hrow.width hc1 _ z (hj1 j z hz)
            rw [← htk, List.getElem?_take] at h3
            split at h3
            · rw [Nat.add_assoc]; simpa using h3
            · cases h3)
          simpa [Instr.loadAt, Instr.sureAddr] using this
      · cases h
    · cases h
  · cases h
theorem deep_focus {r q i : Nat} {e E : TypeId} {u : Ty} {l : List u.T} {fs : List (Nat × Nat × List Cl)} {cs : List Cl} {off : Nat} {vx : Value} (hc : ConRep w G r (.deep e E u l fs)) (hf : focusOf fs q = some (i, cs)) (hx : ClRep w G (.ep r q off) vx) :
    ∃ g cap cur fz xs, (G.rho r) = .slice (some ⟨g, 0, none⟩) l.length cap ∧ G.col g = some r ∧ w.heap[g]? = some (.cells cur e fz) ∧ vx = .pointer (some ⟨g, i * u.size + off, none⟩) ∧ All2 (ClRep w G) cs xs ∧ xs.length = u.size ∧ (∀ j v, xs[j]? = some v → cur[i * u.size + j]? = some v) ∧ i < l.length := by
  obtain ⟨xss, Bs, ho, hml, hcl, hrow, hnd, hBs, hfs⟩ := hc
  obtain ⟨g, xs, hg, hq, hx1, hall⟩ := hfs _ (focusOf_mem hf)
  dsimp only at hq hx1 hall
  obtain ⟨g2, o, hq2, rfl⟩ := hx
  rw [hq] at hq2
  injection hq2 with hq2; injection hq2 with hq2; injection hq2 with e1 e2 _; subst e1 e2
  rcases ho.2 with ⟨e0, _⟩ | ⟨g', cap, cur, e0, hb0, hb, hnc, hcm, hcs, htk⟩
  · rw [e0] at hg; simp [Value.ownBlock] at hg
  · rw [e0] at hg hcl
    simp only [Value.ownBlock, Option.some.injEq] at hg
    subst hg
    have hw := hrow.width xs (List.mem_of_getElem? hx1)
    have hi : i < l.length := by rw [← hrow.len]; exact (List.getElem?_eq_some_iff.1 hx1).1
    refine ⟨g', cap, cur, _, xs, e0, hcl g' rfl, hb, rfl, hall, hw, fun j v hj => ?_, hi⟩
    have h3 := dflat_get hrow.width hx1 j v hj
    rw [← htk, List.getElem?_take] at h3
    split at h3
    · simpa using h3
    · cases h3
theorem evalD_sound {o : Oper} {ob : Prop} {z : AV} {D : List Nat} {X : Nat → Prop} (h : evalD P st p o.op = some (ob, z)) (hob : ob) (hs : SR w0 S0 G st a w) (hp : Holds a p)
    (hX : Shut D G X) (hld : ldOk D st p o.op = true) :
    ∃ v, (∀ w' : World, (isLoad o.op = true → Agree X w w') → (execOp a.eval o).run P w' = .ok (.value v) w') ∧ AVRep w G z v := by
  have lift : ∀ {s : Sem Value} {q : World → Prop}, (∃ v, (∀ w' : World, s.run P w' = .ok v w') ∧ AVRep w G z v) → ∃ v, (∀ w' : World, q w' → (do pure (Next.value (← s)) : Sem Next).run P w' = .ok (.value v) w') ∧ AVRep w G z v := by
    rintro s q ⟨v, h1, h2⟩
    exact ⟨v, fun w' _ => by simp [h1], h2⟩
  have liftL : ∀ {s : Sem Value}, (∃ v, (∀ w' : World, Agree X w w' → s.run P w' = .ok v w') ∧ AVRep w G z v) → ∃ v, (∀ w' : World, (true = true → Agree X w w') → (do pure (Next.value (← s)) : Sem Next).run P w' = .ok (.value v) w') ∧ AVRep w G z v := by
    rintro s ⟨v, h1, h2⟩
    exact ⟨v, fun w' hw' => by simp [h1 w' (hw' rfl)], h2⟩
  obtain ⟨dst, op, ty, pos, after, guard⟩ := o
  unfold evalD at h
  simp only at h
  split at h
  · rename_i t x i
    split at h
    · rename_i e r k i' he hx hi
      change Int at i'
      have hxr := hs.val_ hp hx
      have hir := hs.val_ hp hi
      obtain ⟨hiv, _, _⟩ := rep_pI (k := k) (n := i') hir
      split at h
      · rename_i u e2 E2 v l fs ht hcon
        split at h
        · rename_i hsz
          injection h with h; injection h with h1 h2; subst h1 h2
          obtain ⟨i0, i1⟩ : (0 : Int) ≤ i' ∧ i' < _ := hob
          obtain ⟨xss, Bs, ho, hml, _⟩ := hs.con_ hp hcon
          obtain ⟨ad, c, hv, hc, hm, hg⟩ := owns_form ho
          obtain ⟨hxv, _⟩ := hxr
          refine lift ?_
          rcases hg with rfl | ⟨g, rfl⟩
          · omega
          · rw [hxv, hv, hiv]
            refine ⟨_, fun w' => run_indexAt_in (elemOf_under he) ht i0 i1, g, l.length, c, hv, by omega, by rw [addr_add, Nat.zero_add]⟩
        · cases h
      · cases h
    · cases h
  · rename_i s x f
    split at h
    · rename_i fs r q off hfs hx
      have hxr := hs.val_ hp hx
      split at h
      · cases h
      · rename_i fd hfd
        split at h
        · cases h
        · rename_i i hi
          split at h
          · cases h
          · rename_i h0
            injection h with h; injection h with h1 h2; subst h1 h2
            obtain ⟨g, o, hq, hv⟩ := hxr
            have hu : P.underlying s = some (.struct fs) := by
              unfold fieldsOf at hfs
              split at hfs
              · rename_i hu; injection hfs with hfs; subst hfs; exact hu
              · cases hfs
            refine lift ⟨_, fun w' => ?_, g, o, hq, rfl⟩
            rw [hv]
            have := run_fieldAt_ (P := P) (w := w') hu hfd hi (by simpa using h0) ⟨g, o + off, none⟩
            rw [this, addr_add, Nat.add_assoc]
    · cases h
  · rename_i t x
    have hld' := hld
    unfold ldOk at hld'
    simp only at hld'
    split at h
    · rename_i r q off hx
      simp only [hx, tagOk] at hld'
      have hxr := hs.val_ hp hx
      split at h
      · rename_i e E u l fs b n hcon hag
        split at h
        · rename_i i cs hf
          obtain ⟨g, cap, cur, fz, xs, hr, hcol, hb, hv, hall, hxl, hcur, hi⟩ := deep_focus (hs.con_ hp hcon) hf hxr
          refine liftL ?_
          rw [hv]
          split at h
          · rename_i hbt
            subst hbt
            split at h
            · rename_i hle
              have hle' : off + n ≤ cs.length := by simpa using hle
              injection h with h; injection h with h1 h2; subst h1 h2
              have hlen := hall.length
              have hrun : ∀ w', Agree X w w' → _ := fun w' hw' => run_loadCells_list (P := P) w' ⟨g, i * u.size + off, none⟩ ((xs.drop off).take n) (fun j v hj => by
                rw [addr_add, cells_cell (hw'.heap (hX.no hcol hld') hb)]
                rw [List.getElem?_take] at hj
                split at hj
                · rw [List.getElem?_drop] at hj
                  have := hcur _ v hj
                  rw [Nat.add_assoc]; exact this
                · cases hj)
              have hl : ((xs.drop off).take n).length = n := by simp; omega
              rw [hl] at hrun
              refine ⟨.agg ((xs.drop off).take n).toArray, fun w' hw' => ?_, _, rfl, (hall.drop off).take n⟩
              simp [Instr.loadAt, Instr.sureAddr, loadVar, (aggSize_spec hag w').1, (aggSize_spec hag w').2, hrun w' hw']
            · cases h
          · rename_i hbf
            have hbf' : b = false := by simpa using hbf
            subst hbf'
            split at h
            · rename_i c hc
              injection h with h; injection h with h1 h2; subst h1 h2
              obtain ⟨v, hv1, hcv⟩ := hall.get off c hc
              refine ⟨v, fun w' hw' => ?_, hcv⟩
              have : w'.cell? ⟨g, i * u.size + off, none⟩ = some v := by rw [cells_cell (hw'.heap (hX.no hcol hld') hb)]; exact hcur off v hv1
              simp [Instr.loadAt, Instr.sureAddr, loadVar, (aggSize_spec hag w').1, this]
            · cases h
        · cases h
      · cases h
    · rename_i r i sz hx
      simp only [hx, tagOk] at hld'
      obtain ⟨g, n, c, h1, h3, h2⟩ := hs.val_ hp hx
      exact liftL (loadPlain_sound h hs hp hX hld' ⟨g, n, c, h1, h3, by rw [h2, Nat.add_zero]⟩)
    · rename_i r i sz off hx
      simp only [hx, tagOk] at hld'
      obtain ⟨g, n, c, h1, h3, h2⟩ := hs.val_ hp hx
      exact liftL (loadPlain_sound h hs hp hX hld' ⟨g, n, c, h1, h3, h2⟩)
    · cases h
  · rename_i c
    split at h
    · rename_i hcal
      split at h
      · rename_i x t ha ht
        split at h
        · rename_i r hx
          split at h
          · rename_i e E u l fs hcon
            split at h
            · rename_i hsl
              injection h with h; injection h with h1 h2; subst h1 h2
              obtain ⟨e2, hu⟩ : ∃ e, P.underlying t = some (.slice e) := by
                unfold isSlT at hsl
                split at hsl
                · rename_i hu; exact ⟨_, hu⟩
                · cases hsl
              have ha' : c.args = #[x] := by rw [← Array.toList_inj]; simpa using ha
              have ht' : c.argTypes = #[t] := by rw [← Array.toList_inj]; simpa using ht
              obtain ⟨xss, Bs, ho, hml, _⟩ := hs.con_ hp hcon
              obtain ⟨ad, cc, hv, hc, hm, hg⟩ := owns_form ho
              obtain ⟨hxv, _⟩ := hs.val_ hp hx
              refine ⟨.int .i64 (l.length : Int), fun w' _ => ?_, mk_pI (by rw [kmin64]; omega) (by rw [kmax64]; simp only [maxLen] at hml; omega)⟩
              simp [execOp, resolve, invoke, builtin, hcal, ha', ht', Builtin.len_, run_underlying hu, goInt, hxv, hv]
            · cases h
          · cases h
        · cases h
      · cases h
    · cases h
  · cases h
theorem setFocus_idx (fs : List (Nat × Nat × List Cl)) (q : Nat) (cs : List Cl) : ((setFocus fs q cs).map fun f => f.2.1) = fs.map fun f => f.2.1 := by
  unfold setFocus
  rw [List.map_map]
  apply List.map_congr_left
  intro f _
  simp only [Function.comp]
  split <;> rfl
theorem evalU3_sound {o : Oper} {r : Nat} {ob : Prop} {c : Con} (h : evalU3 P st o.op = some (ob, r, c)) (hob : ob) (hs : SR w0 S0 G st a w) :
    ∃ w', (execOp a.eval o).run P w = .ok .skip w' ∧ Mv [r] G w G w' ∧ SR w0 S0 G (st.upd r c) a w' := by
  obtain ⟨dst, op, ty, pos, after, guard⟩ := o
  unfold evalU3 at h
  simp only at h
  split at h
  · rename_i t x y
    split at h
    · rename_i r' q off z hx hy
      have hxr := hs.val_ holds_nil hx
      have hyr : V1Rep w G z (a.eval y) := hs.val_ holds_nil hy
      split at h
      · rename_i e E u l fs xs b n hcon hcls hag
        split at h
        · rename_i i cs hf
          split at h
          · rename_i hck
            simp only [Bool.and_eq_true, beq_iff_eq, decide_eq_true_eq, List.all_eq_true, Bool.not_eq_true'] at hck
            obtain ⟨⟨hl, hle⟩, hany⟩ := hck
            injection h with h; injection h with e1 h; injection h with e2 e3; subst e1 e2 e3
            obtain ⟨xss, Bs, ho, hml, hcl, hrow, hnd, hBs, hfs⟩ := hs.con_ holds_nil hcon
            obtain ⟨g, vs, hg, hq, hx1, hall⟩ := hfs _ (focusOf_mem hf)
            dsimp only at hq hx1 hall
            obtain ⟨g2, o2, hq2, hv⟩ := hxr
            rw [hq] at hq2
            injection hq2 with hq2; injection hq2 with hq2; injection hq2 with e1 e2 _; subst e1 e2
            have hyc := hyr.cells hcls
            have hlen := hyc.length
            have hlen2 := hall.length
            have hwid := hrow.width vs (List.mem_of_getElem? hx1)
            have hix : i < xss.length := (List.getElem?_eq_some_iff.1 hx1).1
            have hi : i < l.length := by rw [← hrow.len]; exact hix
            have h1 : ∀ v ∈ (a.eval y).cells.toList, v.oneCell' = true := fun v hv => by
              obtain ⟨x, hx, hxv⟩ := hyc.mem_right hv
              exact hxv.oneCell (hany x hx)
            rcases ho.2 with ⟨e0, _⟩ | ⟨g', cap, cur, e0, hb0, hb, hnc, hcm, hcs, htk⟩
            · rw [e0] at hg; simp [Value.ownBlock] at hg
            rw [e0] at hg
            simp only [Value.ownBlock, Option.some.injEq] at hg
            subst hg
            have hcol := hcl g' (by rw [e0]; rfl)
            have hyn : (a.eval y).cells.toList.length = n := by omega
            have hfit : i * u.size + u.size ≤ l.length * u.size := by rw [← Nat.succ_mul]; exact Nat.mul_le_mul_right _ hi
            have hcapfit : l.length * u.size ≤ cap * u.size := Nat.mul_le_mul_right _ hnc
            have hst := run_storeCells_at P g' (i * u.size + off) e (a.eval y).cells.toList 0 cur w hb (by rw [hcs]; omega) h1
            simp only [Nat.add_zero] at hst
            have hS : ∀ x, G.S x → G.S x ∧ (w.setRow g' (cur.toList.take (i * u.size + off) ++ (a.eval y).cells.toList ++ cur.toList.drop (i * u.size + off + (a.eval y).cells.toList.length)).toArray).heap[x]? = w.heap[x]? :=
              fun x hx => ⟨hx, setRow_other w g' x _ (fun e => by subst e; exact (hs.colr _ _ hcol).2.2 hx)⟩
            have hnew : (vs.take off ++ (a.eval y).cells.toList ++ vs.drop (off + n)).length = u.size := by rw [List.length_append, List.length_append, List.length_take, List.length_drop, hyn]; omega
            refine ⟨w.setRow g' (cur.toList.take (i * u.size + off) ++ (a.eval y).cells.toList ++ cur.toList.drop (i * u.size + off + (a.eval y).cells.toList.length)).toArray, ?_, mv_row hcol _, hs.upd hcol ⟨xss.set i (vs.take off ++ (a.eval y).cells.toList ++ vs.drop (off + n)), Bs, ?_, hml, hcl, ⟨by rw [List.length_set]; exact hrow.len, hrow.blen, ?_, ?_, by rw [setFocus_idx]; exact hrow.foc, hrow.nodup⟩, by rw [setFocus_idx]; exact hnd, fun b hb => ?_, fun f hf' => ?_⟩⟩
            · simp only [execOp, Instr.storeAt, hv, Instr.sureAddr, Sem.run_bind, Sem.run_pure, Result.andThen_ok, storeVar, aggSize_size hag]
              rw [if_neg (by simp at hyn ⊢; omega)]
              rw [hst]
              rfl
            · rw [e0]
              have hset := dflat_set (i := i) hrow.width hnew hix
              refine ⟨?_, .inr ⟨g', cap, _, rfl, hb0, setRow_heap w g' cur _ e _ hb, hnc, hcm, ?_, ?_⟩⟩
              · rw [dflat_length (n := u.size), List.length_set, hrow.len]
                intro c hc
                rcases List.mem_or_eq_of_mem_set hc with hc | rfl
                · exact hrow.width c hc
                · exact hnew
              · simp only [List.size_toArray, List.length_append, List.length_take, List.length_drop, hyn]
                simp only [Array.length_toList, hcs]
                omega
              · have hcurl : cur.toList.length = cap * u.size := by rw [Array.length_toList, hcs]
                have hsp := take_splice cur.toList (a.eval y).cells.toList (i * u.size + off) (l.length * u.size) (by omega) (by omega)
                rw [hsp, htk, hset]
                have hxl : xss.flatten.length = l.length * u.size := by rw [dflat_length hrow.width, hrow.len]
                have hvs : vs = (xss.flatten.drop (i * u.size)).take u.size := by
                  apply List.ext_getElem?
                  intro j
                  by_cases hj : j < u.size
                  · rw [List.getElem?_take, if_pos hj, List.getElem?_drop]
                    have := dflat_get hrow.width hx1 j vs[j] (List.getElem?_eq_getElem (by omega))
                    rw [this, List.getElem?_eq_getElem]
                  · rw [List.getElem?_eq_none (by omega), List.getElem?_eq_none (by simp; omega)]
                have e1 : vs.take off = (xss.flatten.drop (i * u.size)).take off := by rw [hvs, List.take_take, Nat.min_eq_left (by omega)]
                have e2 : vs.drop (off + n) = ((xss.flatten.drop (i * u.size + off + n)).take (u.size - (off + n))) := by rw [hvs, List.drop_take, List.drop_drop, Nat.add_assoc]
                have e3 : xss.flatten.take (i * u.size + off) = xss.flatten.take (i * u.size) ++ (xss.flatten.drop (i * u.size)).take off := by rw [List.take_add]
                have e4 : xss.flatten.drop (i * u.size + off + n) = (xss.flatten.drop (i * u.size + off + n)).take (u.size - (off + n)) ++ xss.flatten.drop (i * u.size + u.size) := by
                  conv => lhs; rw [← List.take_append_drop (u.size - (off + n)) (xss.flatten.drop (i * u.size + off + n)), List.drop_drop]
                  congr 2; omega
                rw [hyn, e3, e1, e2]
                simp only [List.append_assoc]
                congr 3
            · intro c hc
              rcases List.mem_or_eq_of_mem_set hc with hc | rfl
              · exact hrow.width c hc
              · exact hnew
            · intro j x hx hF
              rw [setFocus_idx] at hF
              obtain ⟨cs', B, k1, k2, k3⟩ := hrow.el j x hx hF
              have hji : i ≠ j := fun e => hF (by subst e; exact List.mem_map.2 ⟨_, focusOf_mem hf, rfl⟩)
              refine ⟨cs', B, by rw [List.getElem?_set_ne hji]; exact k1, k2, k3.keep hS fun b hb => setRow_other w g' b _ fun e => ?_⟩
              have hb1 := hBs b (List.mem_flatten.2 ⟨B, List.mem_of_getElem? k2, hb⟩)
              rw [e0] at hb1
              exact hb1.2.1 (by rw [e]; rfl)
            · have := hBs b hb
              exact ⟨this.1, this.2.1, by simp [World.setRow]; exact this.2.2⟩
            · unfold setFocus at hf'
              obtain ⟨f0, hf0, rfl⟩ := List.mem_map.1 hf'
              obtain ⟨g3, cs3, k1, k2, k3, k4⟩ := hfs f0 hf0
              have hk4 : All2 (ClRep (w.setRow g' (cur.toList.take (i * u.size + off) ++ (a.eval y).cells.toList ++ cur.toList.drop (i * u.size + off + (a.eval y).cells.toList.length)).toArray) G) f0.2.2 cs3 := All2.imp (fun x _ v hv => ClRep.keep (w := w) (G := G) hS (fun _ _ => rfl) hv) k4
              by_cases hq0 : f0.1 = q
              · have e5 : (f0.1 == q) = true := by simpa using hq0
                simp only [e5, if_true]
                -- the focus itself
                have hidx : f0.2.1 = i := by
                  rw [hq0, hq] at k2
                  rw [e0] at k1
                  simp only [Value.ownBlock, Option.some.injEq] at k1
                  subst k1
                  injection k2 with k2; injection k2 with k2; injection k2 with _ k2 _
                  exact (Nat.eq_of_mul_eq_mul_right u.size_pos k2).symm
                refine ⟨g3, vs.take off ++ (a.eval y).cells.toList ++ vs.drop (off + n), k1, k2, by rw [hidx, List.getElem?_set_self hix], ?_⟩
                refine All2.imp (fun x _ v hv => ClRep.keep (w := w) (G := G) hS (fun _ _ => rfl) hv) ?_
                exact ((hall.take off).append hyc).append (hall.drop (off + n))
              · have e5 : (f0.1 == q) = false := by simpa using hq0
                simp only [e5, Bool.false_eq_true, if_false]
                have hidx : i ≠ f0.2.1 := by
                  intro e6
                  have h7 := focusOf_mem hf
                  -- two foci of one place
                  have h8 := hnd
                  obtain ⟨j1, hj1, ej1⟩ := List.mem_iff_getElem.1 h7
                  obtain ⟨j2, hj2, ej2⟩ := List.mem_iff_getElem.1 hf0
                  have h9 := List.pairwise_iff_getElem.1 h8
                  rcases Nat.lt_trichotomy j1 j2 with hlt | heq | hgt
                  · have := h9 j1 j2 (by simpa using hj1) (by simpa using hj2) hlt
                    simp only [List.getElem_map, ej1, ej2] at this
                    exact this e6
                  · subst heq
                    rw [ej1] at ej2
                    exact hq0 (by rw [← ej2])
                  · have := h9 j2 j1 (by simpa using hj2) (by simpa using hj1) hgt
                    simp only [List.getElem_map, ej1, ej2] at this
                    exact this e6.symm
                exact ⟨g3, cs3, k1, k2, by rw [List.getElem?_set_ne hidx]; exact k3, hk4⟩
          · cases h
        · cases h
      · cases h
    · cases h
  · cases h
end
def evalZD (P : Program) (st : St) (p : Path) (op : Op) : Option (Prop × AV) :=
  match evalZ P st p op with
  | some r => some r
  | none => evalD P st p op
theorem evalZD_sound {P : Program} {w0 w : World} {S0 : Base} {G : Ghost} {st : St} {a : Act} {p : Path} {o : Oper} {ob : Prop} {z : AV} {D : List Nat} {X : Nat → Prop} (hcv : ∀ s d x, o.op = .convert s d x → ∃ u, P.underlying s = some u) (h : evalZD P st p o.op = some (ob, z)) (hob : ob) (hs : SR w0 S0 G st a w) (hp : Holds a p)
    (hX : Shut D G X) (hld : ldOk D st p o.op = true) :
    ∃ v, (∀ w' : World, (isLoad o.op = true → Agree X w w') → (execOp a.eval o).run P w' = .ok (.value v) w') ∧ AVRep w G z v := by
  unfold evalZD at h
  split at h
  · rename_i r hr
    injection h with h; subst h
    exact evalZ_sound hcv hr hob hs hp hX hld
  · exact evalD_sound h hob hs hp hX hld
def evalUD (P : Program) (st : St) (op : Op) : Option (Prop × Nat × Con) :=
  match evalU2 P st op with
  | some r => some r
  | none => evalU3 P st op
theorem evalUD_sound {P : Program} {w0 w : World} {S0 : Base} {G : Ghost} {st : St} {a : Act} {o : Oper} {r : Nat} {ob : Prop} {c : Con} (h : evalUD P st o.op = some (ob, r, c)) (hob : ob) (hs : SR w0 S0 G st a w) :
    ∃ w', (execOp a.eval o).run P w = .ok .skip w' ∧ Mv [r] G w G w' ∧ SR w0 S0 G (st.upd r c) a w' := by
  unfold evalUD at h
  split at h
  · rename_i x hx
    injection h with h; subst h
    exact evalU2_sound hx hob hs
  · exact evalU3_sound h hob hs
end Dec
