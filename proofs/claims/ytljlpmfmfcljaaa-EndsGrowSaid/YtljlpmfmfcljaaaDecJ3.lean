/-
More operations that only compute or read: arrays, fields of own elements, functions with what they have of variables.
-/
import Derived.Test.YtljlpmfmfcljaaaDecJ2
set_option linter.unusedSimpArgs false
set_option linter.unusedVariables false
namespace Dec
open Go Go.RowKit
def subHere (v u : Ty) (x : u.T) : Option v.T := match Ty.same u v with
  | some h => some (h.down ▸ x)
  | none => none
def subAt (v : Ty) : (u : Ty) → u.T → Nat → Option v.T
  | .pr a b, x, off => match (if off = 0 then subHere v (.pr a b) x else none) with
    | some y => some y
    | none => if off < a.size then subAt v a x.1 off else subAt v b x.2 (off - a.size)
  | u, x, off => if off = 0 then subHere v u x else none
def setAt (v : Ty) (y : v.T) : (u : Ty) → u.T → Nat → Option u.T
  | .pr a b, x, off => match (if off = 0 then subHere (.pr a b) v y else none) with
    | some z => some z
    | none => if off < a.size then (match setAt v y a x.1 off with | some z => some (z, x.2) | none => none) else (match setAt v y b x.2 (off - a.size) with | some z => some (x.1, z) | none => none)
  | u, x, off => if off = 0 then subHere u v y else none
def arrayOf (P : Program) (t : TypeId) : Option (Nat × TypeId) := match P.underlying t with | some (.array n e) => some (n, e) | _ => none
def capOf (x : Option AV) : Option Cap := match x with
  | some (.v (.c (.ptr r off))) => some (.pt r off)
  | some (.v (.c (.ad t y))) => some (.ad ⟨t, y⟩)
  | _ => none
def isNilPtr : Operand → Bool
  | .const (.pointer none) => true
  | _ => false
def capsOf (st : St) (p : Path) : List Operand → Option (List Cap)
  | [] => some []
  | x :: r => match (if isNilPtr x then some Cap.no else capOf (st.val p x)), capsOf st p r with
    | some c, some l => some (c :: l)
    | _, _ => none
def allAd : List Cap → Option (List Dat)
  | [] => some []
  | .ad d :: r => match allAd r with | some l => some (d :: l) | none => none
  | _ => none
def evalX2 (P : Program) (st : St) (p : Path) (op : Op) : Option (Prop × AV) :=
  match op with
  | .indexAddr t x i => match arrayOf P t, st.val p x, st.val p i with
    | some (n, e), some x, some (.v (.c (.p (.int _) i))) => match x with
      | .v (.c (.ptr r 0)) => match st.con p r, tyOf P 8 e with
        | some (.vec m u l), some u' => if m == n && u'.size == u.size then some (inIdx i n, .v (.c (.elv r i.toNat u.size 0 n))) else none
        | _, _ => none
      | .v (.c (.ad (.ar m u) l)) => match tyOf P 8 e with
        | some u' => if m + 1 == n && u'.size == u.size then some (inIdx i n, .v (.c (.ad u (l.getD i.toNat u.d)))) else none
        | none => none
      | _ => none
    | _, _, _ => none
  | .fieldAddr s x f => match fieldsOf P s, st.val p x with
    | some fs, some x => match fs[f]? with
      | none => none
      | some fd => match P.info? fd.type with
        | none => none
        | some i => if i.size == 0 then none else match x with
          | .v (.c (.el r i sz)) => some (True, .v (.c (.elf r i sz fd.offset)))
          | .v (.c (.elf r i sz off)) => some (True, .v (.c (.elf r i sz (off + fd.offset))))
          | .v (.c (.elv r i sz off n)) => some (True, .v (.c (.elv r i sz (off + fd.offset) n)))
          | _ => none
    | _, _ => none
  | .load t x => match st.val p x, tyOf P 8 t with
    | some (.v (.c (.ptr r 0))), some (.ar m u') => match st.con p r with
      | some (.vec n u l) => match Ty.same u' u with
        | some _ => if n == m + 1 then some (True, .v (toV1 (.ar m u) l)) else none
        | none => none
      | _ => none
    | some (.v (.c (.elf r i sz off))), some v => match st.con p r with
      | some (.arr _ u l) => match subAt v u (l.getD i u.d) off with
        | some y => if sz == u.size then some (True, .v (toV1 v y)) else none
        | none => none
      | _ => none
    | some (.v (.c (.elv r i sz off n))), some v => match st.con p r with
      | some (.vec m u l) => match subAt v u (l.getD i u.d) off with
        | some y => if m == n && sz == u.size then some (True, .v (toV1 v y)) else none
        | none => none
      | _ => none
    | _, _ => none
  | .index t x i => match arrayOf P t, st.val p x, st.val p i with
    | some (n, e), some (.v (.agg cs)), some (.v (.c (.p (.int _) i))) => match n, tyOf P 8 e with
      | m + 1, some u => match collV (.ar m u) (.agg cs) with
        | some l => some (inIdx i (m + 1), .v (toV1 u (l.getD i.toNat u.d)))
        | none => none
      | _, _ => none
    | _, _, _ => none
  | .makeFunc (.func f) first caps => if first.isEmpty then (match capsOf st p caps.toList with
    | some cs => match allAd cs with
      | some ds => some (True, .v (.c (.fn f ds)))
      | none => some (True, .v (.c (.cl f cs)))
    | none => none) else none
  | .slice t x lo hi none => match elemOf P t with
    | none => none
    | some e => match tyOf P 8 e, st.val p x, bnd (lo.map (st.val p)), bnd (hi.map (st.val p)) with
      | some _, some (.v (.c .nils)), some lo, some hi => some (slOb 0 lo hi, .v (.c .nils))
      | _, _, _, _ => none
  | .call c => match c.callee with
    | .builtin .cap => match c.args.toList, c.argTypes.toList with
      | [x], [t] => match st.val p x with
        | some (.v (.c .nils)) => if isSlT P t then some (True, pI .i64 0) else none
        | _ => none
      | _, _ => none
    | _ => none
  | _ => none
section
variable {P : Program} {w0 w : World} {S0 : Base} {G : Ghost} {st : St} {a : Act} {p : Path}
theorem subHere_enc {S : Nat → Prop} {v u : Ty} {x : u.T} {y : v.T} {cs : List Value} (h : subHere v u x = some y) (hx : Enc w S u x cs) : Enc w S v y cs := by
  unfold subHere at h
  split at h
  · rename_i hh _
    have := hh.down
    subst this
    injection h with h; subst h
    exact hx
  · cases h
theorem subHere_size {v u : Ty} {x : u.T} {y : v.T} (h : subHere v u x = some y) : u.size = v.size := by
  unfold subHere at h
  split at h
  · rename_i hh _; rw [hh.down]
  · cases h
theorem subAt_enc {S : Nat → Prop} {v : Ty} {y : v.T} : ∀ {u : Ty} {x : u.T} {off : Nat} {cs : List Value}, subAt v u x off = some y → Enc w S u x cs → ∃ c, Enc w S v y c ∧ ∀ j e, c[j]? = some e → cs[off + j]? = some e
  | .pr a b, x, off, cs, h, hx => by
    simp only [subAt] at h
    split at h
    · rename_i z hz
      injection h with h; subst h
      split at hz
      · rename_i h0
        subst h0
        exact ⟨cs, subHere_enc hz hx, fun j e hj => by rw [Nat.zero_add]; exact hj⟩
      · cases hz
    · obtain ⟨c1, c2, rfl, h1, h2⟩ := hx
      split at h
      · obtain ⟨c, hc, hj⟩ := subAt_enc h h1
        exact ⟨c, hc, fun j e he => by
          have := hj j e he
          rw [List.getElem?_append_left (List.getElem?_eq_some_iff.1 this).1]
          exact this⟩
      · rename_i hlt
        obtain ⟨c, hc, hj⟩ := subAt_enc h h2
        refine ⟨c, hc, fun j e he => ?_⟩
        have := hj j e he
        have hl := Enc.length h1
        rw [List.getElem?_append_right (by omega), hl, show off + j - a.size = off - a.size + j by omega]
        exact this
  | .int k, x, off, cs, h, hx => by
    simp only [subAt] at h
    split at h
    · rename_i h0; subst h0; exact ⟨cs, subHere_enc h hx, fun j e hj => by rw [Nat.zero_add]; exact hj⟩
    · cases h
  | .bool, x, off, cs, h, hx => by
    simp only [subAt] at h
    split at h
    · rename_i h0; subst h0; exact ⟨cs, subHere_enc h hx, fun j e hj => by rw [Nat.zero_add]; exact hj⟩
    · cases h
  | .sl t, x, off, cs, h, hx => by
    simp only [subAt] at h
    split at h
    · rename_i h0; subst h0; exact ⟨cs, subHere_enc h hx, fun j e hj => by rw [Nat.zero_add]; exact hj⟩
    · cases h
  | .ar n t, x, off, cs, h, hx => by
    simp only [subAt] at h
    split at h
    · rename_i h0; subst h0; exact ⟨cs, subHere_enc h hx, fun j e hj => by rw [Nat.zero_add]; exact hj⟩
    · cases h
  | .tr, x, off, cs, h, hx => by
    simp only [subAt] at h
    split at h
    · rename_i h0; subst h0; exact ⟨cs, subHere_enc h hx, fun j e hj => by rw [Nat.zero_add]; exact hj⟩
    · cases h
  | .mp k t, x, off, cs, h, hx => by
    simp only [subAt] at h
    split at h
    · rename_i h0; subst h0; exact ⟨cs, subHere_enc h hx, fun j e hj => by rw [Nat.zero_add]; exact hj⟩
    · cases h
theorem setHere_enc {S : Nat → Prop} {u v : Ty} {x : u.T} {y : v.T} {z : u.T} {cs c : List Value} (h : subHere u v y = some z) (hx : Enc w S u x cs) (hy : Enc w S v y c) : Enc w S u z (cs.take 0 ++ c ++ cs.drop (0 + c.length)) ∧ 0 + c.length ≤ cs.length := by
  have hs := subHere_size h
  have h1 := Enc.length hx
  have h2 := Enc.length hy
  rw [List.take_zero, List.nil_append, List.drop_of_length_le (by omega), List.append_nil]
  exact ⟨subHere_enc h hy, by omega⟩
theorem setAt_enc {S : Nat → Prop} {v : Ty} {y : v.T} {c : List Value} (hy : Enc w S v y c) : ∀ {u : Ty} {x z : u.T} {off : Nat} {cs : List Value}, setAt v y u x off = some z → Enc w S u x cs →
    Enc w S u z (cs.take off ++ c ++ cs.drop (off + c.length)) ∧ off + c.length ≤ cs.length
  | .pr a b, x, z, off, cs, h, hx => by
    simp only [setAt] at h
    split at h
    · rename_i z' hz
      injection h with h; subst h
      split at hz
      · rename_i h0
        subst h0
        exact setHere_enc hz hx hy
      · cases hz
    · obtain ⟨c1, c2, rfl, h1, h2⟩ := hx
      have hl := Enc.length h1
      split at h
      · split at h
        · rename_i z1 hz1
          injection h with h; subst h
          obtain ⟨k1, k2⟩ := setAt_enc hy hz1 h1
          refine ⟨⟨_, c2, ?_, k1, h2⟩, by rw [List.length_append]; omega⟩
          rw [List.take_append_of_le_length (by omega), List.drop_append_of_le_length (by omega)]
          simp [List.append_assoc]
        · cases h
      · rename_i hlt
        split at h
        · rename_i z1 hz1
          injection h with h; subst h
          obtain ⟨k1, k2⟩ := setAt_enc hy hz1 h2
          refine ⟨⟨c1, _, ?_, h1, k1⟩, by rw [List.length_append]; omega⟩
          rw [List.take_append, List.take_of_length_le (by omega), List.drop_append, List.drop_of_length_le (by omega), hl]
          simp only [List.nil_append, List.append_assoc]
          rw [show off + c.length - a.size = off - a.size + c.length by omega]
        · cases h
  | .int k, x, z, off, cs, h, hx => by
    simp only [setAt] at h
    split at h
    · rename_i h0; subst h0; exact setHere_enc h hx hy
    · cases h
  | .bool, x, z, off, cs, h, hx => by
    simp only [setAt] at h
    split at h
    · rename_i h0; subst h0; exact setHere_enc h hx hy
    · cases h
  | .sl t, x, z, off, cs, h, hx => by
    simp only [setAt] at h
    split at h
    · rename_i h0; subst h0; exact setHere_enc h hx hy
    · cases h
  | .ar n t, x, z, off, cs, h, hx => by
    simp only [setAt] at h
    split at h
    · rename_i h0; subst h0; exact setHere_enc h hx hy
    · cases h
  | .tr, x, z, off, cs, h, hx => by
    simp only [setAt] at h
    split at h
    · rename_i h0; subst h0; exact setHere_enc h hx hy
    · cases h
  | .mp k t, x, z, off, cs, h, hx => by
    simp only [setAt] at h
    split at h
    · rename_i h0; subst h0; exact setHere_enc h hx hy
    · cases h
theorem run_part {e : TypeId} {u : Ty} {n : Nat} (ht : tyOf P n e = some u) {vs c : List Value} {off : Nat} (hc : c.length = u.size) (hj : ∀ j v, c[j]? = some v → vs[off + j]? = some v) (w : World) : (part e vs.toArray off).run P w = .ok (mkVal u c) w := by
  unfold part mkVal
  simp only [Sem.run_bind, tyOf_agg ht, Result.andThen_ok]
  cases hu : u.isPr with
  | true =>
    simp only [if_true, Sem.run_bind, tyOf_size ht, Result.andThen_ok, Sem.run_pure]
    congr 2
    apply Array.ext'
    apply List.ext_getElem?
    intro j
    have hl : ∀ j, j < c.length → vs[off + j]? = c[j]? := fun j h => by rw [List.getElem?_eq_getElem h]; exact hj j _ (List.getElem?_eq_getElem h)
    simp only [Array.toList_extract, List.extract_eq_take_drop, List.getElem?_take, List.getElem?_drop]
    by_cases hjl : j < c.length
    · rw [if_pos (by omega)]; exact hl j hjl
    · rw [if_neg (by omega), List.getElem?_eq_none (by omega)]
  | false =>
    cases c with
    | nil => have := u.size_pos; simp at hc; omega
    | cons v r =>
      have := hj 0 v rfl
      simp only [Nat.add_zero] at this
      simp [this]
theorem arrayOf_under {t : TypeId} {n : Nat} {e : TypeId} (h : arrayOf P t = some (n, e)) : P.underlying t = some (.array n e) := by
  unfold arrayOf at h
  split at h
  · rename_i hu; injection h with h; injection h with h1 h2; subst h1 h2; exact hu
  · cases h
theorem capsOf_rep (hs : SR w0 S0 G st a w) (hp : Holds a p) : ∀ {xs : List Operand} {cs : List Cap}, capsOf st p xs = some cs → All2 (CapRep w G) cs (xs.map a.eval)
  | [], cs, h => by simp only [capsOf] at h; injection h with h; subst h; trivial
  | x :: r, cs, h => by
    simp only [capsOf] at h
    split at h
    · rename_i c l h1 h2
      injection h with h; subst h
      refine ⟨?_, capsOf_rep hs hp h2⟩
      split at h1
      · rename_i hn
        injection h1 with h1; subst h1
        unfold isNilPtr at hn
        split at hn
        · rfl
        · cases hn
      · unfold capOf at h1
        split at h1
        · rename_i r off hv
          injection h1 with h1; subst h1
          exact hs.val_ hp hv
        · rename_i t y hv
          injection h1 with h1; subst h1
          exact hs.val_ hp hv
        · cases h1
    · cases h
theorem allAd_rep : ∀ {cs : List Cap} {ds : List Dat} {vs : List Value}, allAd cs = some ds → All2 (CapRep w G) cs vs → All2 (fun (d : Dat) u => AdRep w G.S d.1 d.2 u) ds vs
  | [], ds, vs, h, h2 => by
    simp only [allAd] at h; injection h with h; subst h
    cases vs with
    | nil => trivial
    | cons => exact h2.elim
  | .ad d :: r, ds, vs, h, h2 => by
    simp only [allAd] at h
    split at h
    · rename_i l hl
      injection h with h; subst h
      cases vs with
      | nil => exact h2.elim
      | cons v vs => exact ⟨h2.1, allAd_rep hl h2.2⟩
    · cases h
  | .pt _ _ :: _, _, _, h, _ => by simp [allAd] at h
  | .no :: _, _, _, h, _ => by simp [allAd] at h
theorem row_slot {D : List Nat} {X : Nat → Prop} {r g n c i : Nat} {u v : Ty} {e' : TypeId} {l : List u.T} {y : v.T} {off : Nat} {t : TypeId} (hs : SR w0 S0 G st a w) (hp : Holds a p) (hX : Shut D G X) (hcon : st.con p r = some (.arr e' u l)) (hr : G.rho r = .slice (some ⟨g, 0, none⟩) n c) (hin : i < n)
    (hsub : subAt v u (l.getD i u.d) off = some y) (htag : (!D.contains r) = true) (ht : tyOf P 8 t = some v) :
    ∃ vv, (∀ w' : World, Agree X w w' → (Instr.loadAt t (.pointer (some ⟨g, i * u.size + off, none⟩))).run P w' = .ok vv w') ∧ V1Rep w G (toV1 v y) vv := by
  obtain ⟨xs, hxl, ho, hml, hcl⟩ := hs.con_ hp hcon
  rw [hr] at ho hcl
  rcases ho.2 with ⟨e0, _⟩ | ⟨g', cap, cur, e0, hb0, hb, hnc, hcm, hcs, htk⟩
  · cases e0
  · injection e0 with e0 e1 e2
    injection e0 with e0; injection e0 with e0 _
    subst e0 e1 e2
    obtain ⟨cs, hcs', hcj⟩ := EncL.get (fun _ _ hh => Enc.length hh) i _ hxl (getD_some (d := u.d) hin)
    obtain ⟨c1, hc1, hj1⟩ := subAt_enc hsub hcs'
    refine ⟨_, fun w' hw' => ?_, toV1_rep hc1⟩
    have := run_loadVar_ty (w := w') ht (b := g) (off := i * u.size + off) (Enc.length hc1) (fun j z hz => by
      rw [cells_cell (hw'.heap (hX.no (hcl g rfl) htag) hb)]
      have h3 := hcj _ z (hj1 j z hz)
      rw [← htk, List.getElem?_take] at h3
      split at h3
      · rw [Nat.add_assoc]; simpa using h3
      · cases h3)
    simpa [Instr.loadAt, Instr.sureAddr] using this
theorem vec_slot {D : List Nat} {X : Nat → Prop} {r g n i : Nat} {u v : Ty} {l : List u.T} {y : v.T} {off : Nat} {t : TypeId} (hs : SR w0 S0 G st a w) (hp : Holds a p) (hX : Shut D G X) (hcon : st.con p r = some (.vec n u l)) (hr : G.rho r = .pointer (some ⟨g, 0, none⟩)) (hin : i < n)
    (hsub : subAt v u (l.getD i u.d) off = some y) (htag : (!D.contains r) = true) (ht : tyOf P 8 t = some v) :
    ∃ vv, (∀ w' : World, Agree X w w' → (Instr.loadAt t (.pointer (some ⟨g, i * u.size + off, none⟩))).run P w' = .ok vv w') ∧ V1Rep w G (toV1 v y) vv := by
  obtain ⟨b, vs, e, hr', hcol, hb, hxl, hn⟩ := hs.con_ hp hcon
  rw [hr] at hr'
  injection hr' with hr'; injection hr' with hr'; injection hr' with hr' _; subst hr'
  obtain ⟨cs, hcs', hcj⟩ := EncL.get (fun _ _ hh => Enc.length hh) i _ hxl (getD_some (d := u.d) (by omega))
  obtain ⟨c1, hc1, hj1⟩ := subAt_enc hsub hcs'
  refine ⟨_, fun w' hw' => ?_, toV1_rep hc1⟩
  have := run_loadVar_ty (w := w') ht (b := g) (off := i * u.size + off) (Enc.length hc1) (fun j z hz => by
    rw [cells_cell (hw'.heap (hX.no hcol htag) hb)]
    have h3 := hcj _ z (hj1 j z hz)
    rw [Nat.add_assoc]
    simpa using h3)
  simpa [Instr.loadAt, Instr.sureAddr] using this
theorem vec_whole {D : List Nat} {X : Nat → Prop} {r g m : Nat} {u : Ty} {l : List u.T} {t : TypeId} (hs : SR w0 S0 G st a w) (hp : Holds a p) (hX : Shut D G X) (hcon : st.con p r = some (.vec (m + 1) u l)) (hr : G.rho r = .pointer (some ⟨g, 0, none⟩))
    (htag : (!D.contains r) = true) (ht : tyOf P 8 t = some (.ar m u)) :
    ∃ vv, (∀ w' : World, Agree X w w' → (Instr.loadAt t (.pointer (some ⟨g, 0, none⟩))).run P w' = .ok vv w') ∧ V1Rep w G (toV1 (.ar m u) l) vv := by
  obtain ⟨b, vs, e, hr', hcol, hb, hxl, hn⟩ := hs.con_ hp hcon
  rw [hr] at hr'
  injection hr' with hr'; injection hr' with hr'; injection hr' with hr' _; subst hr'
  have henc : Enc w G.S (.ar m u) l vs.toList := ⟨hn, hxl⟩
  refine ⟨_, fun w' hw' => ?_, toV1_rep henc⟩
  have := run_loadVar_ty (w := w') ht (b := g) (off := 0) (Enc.length henc) (fun j z hz => by
    rw [cells_cell (hw'.heap (hX.no hcol htag) hb)]
    simpa using hz)
  simpa [Instr.loadAt, Instr.sureAddr] using this
theorem evalX2_sound {o : Oper} {ob : Prop} {z : AV} {D : List Nat} {X : Nat → Prop} (h : evalX2 P st p o.op = some (ob, z)) (hob : ob) (hs : SR w0 S0 G st a w) (hp : Holds a p)
    (hX : Shut D G X) (hld : ldOk D st p o.op = true) :
    ∃ v, (∀ w' : World, (isLoad o.op = true → Agree X w w') → (execOp a.eval o).run P w' = .ok (.value v) w') ∧ AVRep w G z v := by
  have lift : ∀ {s : Sem Value} {q : World → Prop}, (∃ v, (∀ w' : World, s.run P w' = .ok v w') ∧ AVRep w G z v) → ∃ v, (∀ w' : World, q w' → (do pure (Next.value (← s)) : Sem Next).run P w' = .ok (.value v) w') ∧ AVRep w G z v := by
    rintro s q ⟨v, h1, h2⟩
    exact ⟨v, fun w' _ => by simp [h1], h2⟩
  have liftL : ∀ {s : Sem Value}, (∃ v, (∀ w' : World, Agree X w w' → s.run P w' = .ok v w') ∧ AVRep w G z v) → ∃ v, (∀ w' : World, (true = true → Agree X w w') → (do pure (Next.value (← s)) : Sem Next).run P w' = .ok (.value v) w') ∧ AVRep w G z v := by
    rintro s ⟨v, h1, h2⟩
    exact ⟨v, fun w' hw' => by simp [h1 w' (hw' rfl)], h2⟩
  obtain ⟨dst, op, ty, pos, after, guard⟩ := o
  unfold evalX2 at h
  simp only at h hld
  split at h
  · rename_i t x i
    split at h
    · rename_i n e x' k i' harr hx hi
      change Int at i'
      have hu := arrayOf_under harr
      obtain ⟨ei, _, _⟩ := rep_pI (k := k) (n := i') (hs.val_ hp hi)
      have hxv := hs.val_ hp hx
      have run_ia : ∀ {u' : Ty} {ad : Addr} (w' : World), tyOf P 8 e = some u' → inIdx i' n → (Instr.indexAt t (.pointer (some ad)) (.int k i')).run P w' = .ok (.pointer (some (ad.add (i'.toNat * u'.size)))) w' := by
        intro u' ad w' ht hin
        obtain ⟨i0, i1⟩ := hin
        unfold Instr.indexAt
        simp only [Sem.run_bind, run_underlying hu, Result.andThen_ok, asIntOf, Sem.run_pure, Sem.run_ite, tyOf_size ht, Instr.sureAddr]
        rw [if_pos ⟨i0, i1⟩]
      split at h
      · rename_i r
        split at h
        · rename_i m u l u' hcon ht
          split at h
          · rename_i hck
            simp only [Bool.and_eq_true, beq_iff_eq] at hck
            injection h with h; injection h with h1 h2; subst h1 h2
            obtain ⟨g, hg, hv⟩ := hxv
            refine lift ⟨_, fun w' => ?_, g, hg, ?_, rfl⟩
            · rw [ei, hv]
              rw [run_ia w' ht hob, hck.2, addr_add]
              simp
            · obtain ⟨i0, i1⟩ := hob
              omega
          · cases h
        · cases h
      · rename_i m u l
        split at h
        · rename_i u' ht
          split at h
          · rename_i hck
            simp only [Bool.and_eq_true, beq_iff_eq] at hck
            injection h with h; injection h with h1 h2; subst h1 h2
            obtain ⟨b, off, cells, e', fz, cs, hv, hS, hb, hxx, hj⟩ := hxv
            have hin : i'.toNat < l.length := by
              obtain ⟨i0, i1⟩ := hob
              have := hxx.1
              omega
            obtain ⟨c1, hc1, hj1⟩ := EncL.get (fun _ _ hh => Enc.length hh) i'.toNat _ hxx.2 (getD_some (d := u.d) hin)
            refine lift ⟨_, fun w' => ?_, b, off + i'.toNat * u.size, cells, e', fz, c1, rfl, hS, hb, hc1, fun j z hz => ?_⟩
            · rw [ei, hv]
              rw [run_ia w' ht hob, hck.2, addr_add]
            · rw [Nat.add_assoc]; exact hj _ _ (hj1 j z hz)
          · cases h
        · cases h
      · cases h
    · cases h
  · rename_i s x f
    split at h
    · rename_i fs x' hfs hx
      have hu := fieldsOf_under hfs
      have hxv := hs.val_ hp hx
      split at h
      · cases h
      · rename_i fd hfd
        split at h
        · cases h
        · rename_i i hi
          split at h
          · cases h
          · rename_i h0
            have h0' : ¬ i.size = 0 := by simpa using h0
            split at h
            · rename_i r i sz
              injection h with h; injection h with h1 h2; subst h1 h2
              obtain ⟨g, n, c, hr, hin, hv⟩ := hxv
              exact lift ⟨_, fun w' => by rw [hv]; exact run_fieldAt_ hu hfd hi h0' _, g, n, c, hr, hin, by rw [addr_add]⟩
            · rename_i r i sz off
              injection h with h; injection h with h1 h2; subst h1 h2
              obtain ⟨g, n, c, hr, hin, hv⟩ := hxv
              exact lift ⟨_, fun w' => by rw [hv]; exact run_fieldAt_ hu hfd hi h0' _, g, n, c, hr, hin, by rw [addr_add, Nat.add_assoc]⟩
            · rename_i r i sz off n
              injection h with h; injection h with h1 h2; subst h1 h2
              obtain ⟨g, hr, hin, hv⟩ := hxv
              exact lift ⟨_, fun w' => by rw [hv]; exact run_fieldAt_ hu hfd hi h0' _, g, hr, hin, by rw [addr_add, Nat.add_assoc]⟩
            · cases h
    · cases h
  · rename_i t x
    split at h
    · rename_i r m u' hx ht
      have hxv := hs.val_ hp hx
      have htag : (!D.contains r) = true := by simpa [ldOk, hx, tagOk] using hld
      split at h
      · rename_i n u l hcon
        split at h
        · rename_i hh _
          have := hh.down
          subst this
          split at h
          · rename_i hn
            have hn' : n = m + 1 := by simpa using hn
            subst hn'
            injection h with h; injection h with h1 h2; subst h1 h2
            obtain ⟨g, hr, hv⟩ := hxv
            simp only [execOp]
            rw [hv]
            exact liftL (vec_whole hs hp hX hcon hr htag ht)
          · cases h
        · cases h
      · cases h
    · rename_i r i sz off v hx ht
      have hxv := hs.val_ hp hx
      have htag : (!D.contains r) = true := by simpa [ldOk, hx, tagOk] using hld
      split at h
      · rename_i e' u l hcon
        split at h
        · rename_i y hy
          split at h
          · rename_i hsz
            have hsz' : sz = u.size := by simpa using hsz
            subst hsz'
            injection h with h; injection h with h1 h2; subst h1 h2
            obtain ⟨g, n, c, hr, hin, hv⟩ := hxv
            simp only [execOp]
            rw [hv]
            exact liftL (row_slot hs hp hX hcon hr hin hy htag ht)
          · cases h
        · cases h
      · cases h
    · rename_i r i sz off n v hx ht
      have hxv := hs.val_ hp hx
      have htag : (!D.contains r) = true := by simpa [ldOk, hx, tagOk] using hld
      split at h
      · rename_i m u l hcon
        split at h
        · rename_i y hy
          split at h
          · rename_i hck
            simp only [Bool.and_eq_true, beq_iff_eq] at hck
            obtain ⟨rfl, rfl⟩ := hck
            injection h with h; injection h with h1 h2; subst h1 h2
            obtain ⟨g, hr, hin, hv⟩ := hxv
            simp only [execOp]
            rw [hv]
            exact liftL (vec_slot hs hp hX hcon hr hin hy htag ht)
          · cases h
        · cases h
      · cases h
    · cases h
  · rename_i t x i
    split at h
    · rename_i n e cs k i' harr hx hi
      change Int at i'
      have hu := arrayOf_under harr
      obtain ⟨ei, _, _⟩ := rep_pI (k := k) (n := i') (hs.val_ hp hi)
      have hxv : V1Rep w G (.agg cs) (a.eval x) := hs.val_ hp hx
      split at h
      · rename_i m u ht
        split at h
        · rename_i l hl
          injection h with h; injection h with h1 h2; subst h1 h2
          have henc := collV_rep hl hxv
          obtain ⟨i0, i1⟩ := hob
          have hin : i'.toNat < l.length := by have := henc.1; omega
          obtain ⟨c1, hc1, hj1⟩ := EncL.get (fun _ _ hh => Enc.length hh) i'.toNat _ henc.2 (getD_some (d := u.d) hin)
          obtain ⟨vs, hv, _⟩ := hxv
          refine lift ⟨_, fun w' => ?_, toV1_rep hc1⟩
          unfold Instr.index
          rw [ei, hv]
          simp only [Sem.run_bind, run_underlying hu, Result.andThen_ok, asIntOf, Sem.run_pure, Sem.run_ite, tyOf_size ht]
          rw [if_pos ⟨i0, i1⟩]
          refine run_part ht (Enc.length hc1) (fun j z hz => ?_) _
          have := hj1 j z hz
          rw [hv] at this
          simpa [Value.cells] using this
        · cases h
      · cases h
    · cases h
  · rename_i f first caps
    split at h
    · rename_i hf
      have hf' : first = #[] := by simpa using hf
      subst hf'
      split at h
      · rename_i cs hcs
        have hr := capsOf_rep hs hp hcs
        split at h
        · rename_i ds hds
          injection h with h; injection h with h1 h2; subst h1 h2
          refine lift ⟨_, fun w' => rfl, caps.toList.map a.eval, ?_, allAd_rep hds hr⟩
          congr 1 <;> (rw [← Array.toList_inj]; simp)
        · injection h with h; injection h with h1 h2; subst h1 h2
          refine lift ⟨_, fun w' => rfl, caps.toList.map a.eval, ?_, hr⟩
          congr 1 <;> (rw [← Array.toList_inj]; simp)
      · cases h
    · cases h
  · rename_i t x lo hi
    split at h
    · cases h
    · rename_i e he
      have hu := elemOf_under he
      split at h
      · rename_i u lo' hi' ht hx hlo hhi
        injection h with h; injection h with h1 h2; subst h1 h2
        obtain ⟨k, hk⟩ := bnd_rep hlo hs hp
        obtain ⟨k', hk'⟩ := bnd_rep hhi hs hp
        have hxv : a.eval x = .slice none 0 0 := hs.val_ hp hx
        have hn := slOb_nat hob
        refine lift ⟨.slice none 0 0, fun w' => ?_, rfl⟩
        have hr := run_sliceAt_ob (P := P) (w := w') hu ht (ad := none) (k := k) (k' := k') hob (Nat.le_refl 0)
        rw [hk, hk', hxv]
        have h1 : lo0 lo' = 0 := by omega
        have h2 : hi0 0 hi' = 0 := by omega
        simp only [h1, h2] at hr
        simpa using hr
      · cases h
  · rename_i c
    split at h
    · rename_i hcal
      split at h
      · rename_i x t ha ht
        split at h
        · rename_i hx
          split at h
          · rename_i hsl
            injection h with h; injection h with h1 h2; subst h1 h2
            obtain ⟨e, hu⟩ : ∃ e, P.underlying t = some (.slice e) := by
              unfold isSlT at hsl
              split at hsl
              · rename_i hu; exact ⟨_, hu⟩
              · cases hsl
            have hxv : a.eval x = .slice none 0 0 := hs.val_ hp hx
            have ha' : c.args = #[x] := by rw [← Array.toList_inj]; simpa using ha
            have ht' : c.argTypes = #[t] := by rw [← Array.toList_inj]; simpa using ht
            refine ⟨.int .i64 0, fun w' _ => ?_, mk_pI (by decide) (by decide)⟩
            simp [execOp, resolve, invoke, builtin, hcal, ha', ht', hxv, Builtin.cap_, run_underlying hu, goInt]
          · cases h
        · cases h
      · cases h
    · cases h
  · cases h
end
def evalY (P : Program) (st : St) (p : Path) (op : Op) : Option (Prop × AV) :=
  match evalX P st p op with
  | some r => some r
  | none => evalX2 P st p op
theorem evalY_sound {P : Program} {w0 w : World} {S0 : Base} {G : Ghost} {st : St} {a : Act} {p : Path} {o : Oper} {ob : Prop} {z : AV} {D : List Nat} {X : Nat → Prop} (hcv : ∀ s d x, o.op = .convert s d x → ∃ u, P.underlying s = some u) (h : evalY P st p o.op = some (ob, z)) (hob : ob) (hs : SR w0 S0 G st a w) (hp : Holds a p)
    (hX : Shut D G X) (hld : ldOk D st p o.op = true) :
    ∃ v, (∀ w' : World, (isLoad o.op = true → Agree X w w') → (execOp a.eval o).run P w' = .ok (.value v) w') ∧ AVRep w G z v := by
  unfold evalY at h
  split at h
  · rename_i r hr
    injection h with h; subst h
    exact evalX_sound hcv hr hob hs hp hX hld
  · exact evalX2_sound h hob hs hp hX hld
end Dec
