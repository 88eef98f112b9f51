/-
Stores into fields of own elements, own arrays, own maps; a slice made by append of zeros.
-/
import Derived.Test.YtljlpmfmfcljaaaDecJ6
set_option linter.unusedSimpArgs false
set_option linter.unusedVariables false
namespace Dec
open Go Go.RowKit Go.MapKept
def evalU2 (P : Program) (st : St) (op : Op) : Option (Prop × Nat × Con) :=
  match op with
  | .store t x y => match st.val [] x, st.val [] y, tyOf P 8 t with
    | some (.v (.c (.ptr r 0))), some (.v z), some (.ar m u') => match st.con [] r, collV (.ar m u') z with
      | some (.vec n u _), some l => match Ty.same u u' with
        | some _ => if n == m + 1 then some (True, r, .vec n u' l) else none
        | none => none
      | _, _ => none
    | some (.v (.c (.elf r i sz off))), some (.v z), some v => match st.con [] r, collV v z with
      | some (.arr e u l), some y => match setAt v y u (l.getD i u.d) off with
        | some y' => if sz == u.size then some (True, r, .arr e u (l.set i y')) else none
        | none => none
      | _, _ => none
    | some (.v (.c (.elv r i sz off n))), some (.v z), some v => match st.con [] r, collV v z with
      | some (.vec m u l), some y => match setAt v y u (l.getD i u.d) off with
        | some y' => if m == n && sz == u.size then some (True, r, .vec m u (l.set i y')) else none
        | none => none
      | _, _ => none
    | _, _, _ => none
  | .mapUpdate t m k x | .insert t m k x => match mapOf P t, st.val [] m, st.val [] x with
    | some (kt, et), some (.v (.c (.own r))), some (.v z) => match st.con [] r with
      | some (.dict kT vT l) => match keyOfV P kt kT (st.val [] k), collV vT z, tyOf P 8 kt with
        | some key, some y, some kT' => match Ty.same kT' kT with
          | some _ => if vT.isPr == z.isAgg then some (True, r, .dict kT vT (@mset _ _ kT.decEq l key y)) else none
          | none => none
        | _, _, _ => none
      | _ => none
    | _, _, _ => none
  | .entryStore t m s x => match st.val [] m, st.val [] s, st.val [] x with
    | some (.v (.c (.own r))), some (.v (.c (.p (.int _) i))), some (.v z) => match st.con [] r with
      | some (.dict kT vT l) => match collV vT z with
        | some y => if vT.isPr == z.isAgg then some (inIdx i l.length, r, .dict kT vT (mputAt l i.toNat y)) else none
        | none => none
      | _ => none
    | _, _, _ => none
  | _ => none
def evalM (P : Program) (st : St) (op : Op) : Option (Prop × Nat × Con × AV) :=
  match op with
  | .mapEntry t m k => match mapOf P t, st.val [] m with
    | some (kt, et), some (.v (.c (.own r))) => match st.con [] r with
      | some (.dict kT vT l) => match keyOfV P kt kT (st.val [] k), tyOf P 8 kt with
        | some key, some kT' => match Ty.same kT' kT with
          | some _ => if zOk P et vT then some (InR (l.length : Int), r, .dict kT vT (@mtouch _ _ kT.decEq l key vT.d), .tup [toV1 vT ((@mget _ _ kT.decEq l key).getD vT.d), .c (.p (.int .i64) (@mplace _ _ kT.decEq l key))]) else none
          | none => none
        | _, _ => none
      | _ => none
    | _, _ => none
  | _ => none
def evalN2 (P : Program) (st : St) (p : Path) (op : Op) : Option (Prop × Con) :=
  match op with
  | .call c => match c.callee with
    | .builtin .append => match c.args.toList, c.argTypes.toList with
      | [x, y], [t, t'] => match elemOf P t, P.underlying t' with
        | some e, some (.int _) => match tyOf P 8 e, st.val p x, st.val p y with
          | some u, some (.v (.c .nils)), some (.v (.c (.p (.int .i64) n))) => if elemOk P e u then some (0 < n ∧ n ≤ 1099511627776, .arr e u (List.replicate n.toNat u.d)) else none
          | _, _, _ => none
        | _, _ => none
      | _, _ => none
    | _ => none
  | _ => none
section
variable {P : Program} {w0 w : World} {S0 : Base} {G : Ghost} {st : St} {a : Act} {p : Path}
theorem SR.updW (h : SR w0 S0 G st a w) {r b : Nat} {c : Con} {w' : World} (hb : G.col b = some r) (hdr : w.drawn ≤ w'.drawn) (hos : w'.os = w.os) (htp : w'.tape = w.tape) (hout : w'.output = w.output) (hsz : w'.heap.size = w.heap.size)
    (hoth : ∀ k, k ≠ b → w'.heap[k]? = w.heap[k]?) (hc : ConRep w' G r c) : SR w0 S0 G (st.upd r c) a w' := by
  have hne : ∀ x, G.S x → x ≠ b := fun x hx e => by subst e; exact (h.colr _ _ hb).2.2 hx
  have hS : ∀ x, G.S x → G.S x ∧ w'.heap[x]? = w.heap[x]? := fun x hx => ⟨hx, hoth x (hne x hx)⟩
  refine ⟨?_, ?_, ?_, h.df.keep hS rfl, h.size, ?_, ?_⟩
  · refine h.below.trans ⟨hdr, hos, htp, hout, by rw [hsz]; exact Nat.le_refl _, fun k hk hF => hoth k fun e => ?_⟩
    subst e
    rcases (h.colr _ _ hb).1 with h1 | h1
    · exact hF h1
    · omega
  · rw [hsz]; exact h.sub
  · rw [hsz]; exact h.colr
  · intro e he
    obtain ⟨h1, h2, h3⟩ := h.sl e he
    exact ⟨h1, fun hh => AVRep.keep (w := w) (G := G) hS (fun _ _ => rfl) (h2 hh), h3⟩
  · intro e he hh
    simp only [St.upd, List.mem_map] at he
    obtain ⟨e', he', rfl⟩ := he
    by_cases hr : e'.1 = r
    · simp only [hr, beq_self_eq_true, if_true] at hh ⊢
      exact hc
    · have hr' : (e'.1 == r) = false := by simpa using hr
      simp only [hr', Bool.false_eq_true, if_false] at hh ⊢
      exact ConRep.keep (w := w) (G := G) hS rfl (fun _ _ => rfl) (fun x hx => ⟨hx, hoth x (fun e => by subst e; rw [hb] at hx; injection hx with hx; exact hr hx.symm)⟩) (h.hp e' he' hh)
theorem splice_at {α : Type} (xs c : List α) (I off sz : Nat) (h : off + c.length ≤ sz) (hI : I + sz ≤ xs.length) :
    xs.take I ++ (((xs.drop I).take sz).take off ++ c ++ ((xs.drop I).take sz).drop (off + c.length)) ++ xs.drop (I + sz) = xs.take (I + off) ++ c ++ xs.drop (I + off + c.length) := by
  rw [List.take_take, Nat.min_eq_left (by omega), List.take_add, List.drop_take, List.drop_drop]
  have e1 : xs.drop (I + off + c.length) = (xs.drop (I + (off + c.length))).take (sz - (off + c.length)) ++ xs.drop (I + sz) := by
    have := (List.take_append_drop (sz - (off + c.length)) (xs.drop (I + (off + c.length)))).symm
    rw [List.drop_drop, show I + (off + c.length) + (sz - (off + c.length)) = I + sz by omega] at this
    rw [show I + off + c.length = I + (off + c.length) by omega]
    exact this
  rw [e1]
  simp [List.append_assoc]
theorem EncL.at_ {α : Type} {E : α → List Value → Prop} {n : Nat} (H : ∀ x c, E x c → c.length = n) {l : List α} {xs : List Value} (i : Nat) (x : α) (h : EncL E l xs) (hx : l[i]? = some x) : E x ((xs.drop (i * n)).take n) ∧ i * n + n ≤ xs.length := by
  have hd := EncL.drop H i h
  have hl : i < l.length := (List.getElem?_eq_some_iff.1 hx).1
  rw [List.drop_eq_getElem_cons hl] at hd
  obtain ⟨c, r, e, h1, _⟩ := hd
  rw [(List.getElem?_eq_some_iff.1 hx).2] at h1
  have hc := H _ _ h1
  have hxs := EncL.length H h
  refine ⟨?_, ?_⟩
  · rw [e, ← hc, List.take_left]; exact h1
  · rw [hxs, ← Nat.succ_mul]; exact Nat.mul_le_mul_right _ hl
theorem enc_set_part {S : Nat → Prop} {u v : Ty} {l : List u.T} {xs c : List Value} {i off : Nat} {y : v.T} {y' : u.T} (hx : EncL (Enc w S u) l xs) (hi : i < l.length) (hy : Enc w S v y c) (hset : setAt v y u (l.getD i u.d) off = some y') :
    EncL (Enc w S u) (l.set i y') (xs.take (i * u.size + off) ++ c ++ xs.drop (i * u.size + off + c.length)) ∧ off + c.length ≤ u.size ∧ i * u.size + u.size ≤ xs.length := by
  obtain ⟨h1, h2⟩ := EncL.at_ (fun _ _ hh => Enc.length hh) i _ hx (getD_some (d := u.d) hi)
  obtain ⟨k1, k2⟩ := setAt_enc hy hset h1
  have hsz := Enc.length h1
  have hlen : (((xs.drop (i * u.size)).take u.size).take off ++ c ++ ((xs.drop (i * u.size)).take u.size).drop (off + c.length)).length = u.size := Enc.length k1
  have := EncL.set (fun _ _ hh => Enc.length hh) i y' _ hx k1 hi
  rw [hlen, splice_at xs c (i * u.size) off u.size (by omega) h2] at this
  exact ⟨this, by omega, h2⟩
theorem run_storeAt_ {t : TypeId} {v : Ty} {n : Nat} (ht : tyOf P n t = some v) {g off : Nat} {vs : Array Value} {e : TypeId} {x : Value} (hb : w.heap[g]? = some (.cells vs e (0, 0))) (hl : x.cells.toList.length = v.size) (hfit : off + v.size ≤ vs.size) (h1 : ∀ z ∈ x.cells.toList, z.oneCell' = true) :
    (Instr.storeAt t (.pointer (some ⟨g, off, none⟩)) x).run P w = .ok () (w.setRow g (vs.toList.take off ++ x.cells.toList ++ vs.toList.drop (off + x.cells.toList.length)).toArray) := by
  have hst := run_storeCells_at P g off e x.cells.toList 0 vs w hb (by omega) h1
  simp only [Nat.add_zero] at hst
  simp only [Instr.storeAt, Instr.sureAddr, Sem.run_bind, Sem.run_pure, Result.andThen_ok, storeVar, tyOf_size ht]
  rw [if_neg (by simp at hl ⊢; omega)]
  rw [hst]
theorem keep_row {g : Nat} {vs : Array Value} (hs : SR w0 S0 G st a w) {r : Nat} (hcol : G.col g = some r) : ∀ b, G.S b → G.S b ∧ (w.setRow g vs).heap[b]? = w.heap[b]? :=
  fun b hb => ⟨hb, setRow_other w g b _ (fun e => by subst e; exact (hs.colr _ _ hcol).2.2 hb)⟩
theorem ents_keep {k v : Ty} {S S' : Nat → Prop} {w w' : World} (H : ∀ b, S b → S' b ∧ w'.heap[b]? = w.heap[b]?) {l : List (k.T × v.T)} {es : List MapEntry} (h : All2 (EntRep k v (Enc w S k) (Enc w S v)) l es) : All2 (EntRep k v (Enc w' S' k) (Enc w' S' v)) l es :=
  All2.imp (fun _ _ _ ⟨⟨c1, a1, a2⟩, c2, b1, b2⟩ => ⟨⟨c1, Enc.keep H a1, a2⟩, c2, Enc.keep H b1, b2⟩) h
theorem All2.set {α β : Type} {R : α → β → Prop} : ∀ {l : List α} {m : List β} (i : Nat) (x : α) (y : β), All2 R l m → R x y → All2 R (l.set i x) (m.set i y)
  | [], [], _, _, _, _, _ => trivial
  | _ :: _, _ :: _, 0, _, _, h, hr => ⟨hr, h.2⟩
  | _ :: _, _ :: _, i + 1, x, y, h, hr => ⟨h.1, All2.set i x y h.2 hr⟩
  | [], _ :: _, _, _, _, h, _ => h.elim
  | _ :: _, [], _, _, _, h, _ => h.elim
def setMap (w : World) (g : Nat) (o : Obj) : World := { w with heap := w.heap.setIfInBounds g o }
theorem setMap_same {w : World} {g : Nat} {o : Obj} (h : g < w.heap.size) : (setMap w g o).heap[g]? = some o := by simp [setMap, h]
theorem setMap_other {w : World} {g : Nat} {o : Obj} {k : Nat} (h : k ≠ g) : (setMap w g o).heap[k]? = w.heap[k]? := by
  simp only [setMap, Array.getElem?_setIfInBounds]
  rw [if_neg (fun e => h e.symm)]
theorem modify_list (es : Array MapEntry) (i : Nat) (f : MapEntry → MapEntry) {e : MapEntry} (h : es.toList[i]? = some e) : (es.modify i f).toList = es.toList.set i (f e) := by
  rw [Array.toList_modify]
  have hi := (List.getElem?_eq_some_iff.1 h).1
  apply List.ext_getElem?
  intro j
  rw [List.getElem?_modify, List.getElem?_set]
  by_cases hj : i = j
  · subst hj
    simp only [if_true, if_pos hi, h, Option.map_some]
    rfl
  · simp [hj]
theorem run_mapUpdate_ {t kt et : TypeId} {kT vT : Ty} {key : kT.T} {ck cy : List Value} {y : vT.T} {l : List (kT.T × vT.T)} {g : Nat} {es : Array MapEntry} (hu : P.underlying t = some (.map kt et)) (ht : tyOf P 8 kt = some kT) (hok : keyOk P kt = true) (hk : Enc w G.S kT key ck) (hy : Enc w G.S vT y cy)
    (hb : w.heap[g]? = some (.map es es.size)) (hall : All2 (EntRep kT vT (Enc w G.S kT) (Enc w G.S vT)) l es.toList) (hborn : ∀ (i : Nat) (e : MapEntry), es[i]? = some e → e.born = i) :
    ∃ es', (Instr.mapUpdate t (.map (some g)) (mkVal kT ck) (mkVal vT cy)).run P w = .ok () (setMap w g (.map es' es'.size)) ∧ All2 (EntRep kT vT (Enc w G.S kT) (Enc w G.S vT)) (@mset _ _ kT.decEq l key y) es'.toList ∧ ∀ (i : Nat) (e : MapEntry), es'[i]? = some e → e.born = i := by
  have hok8 : eqOk P 8 kt = true := by simp only [keyOk, Bool.and_eq_true] at hok; exact hok.1
  have hchk : (Instr.checkKey false 10000 kt (mkVal kT ck)).run P w = .ok () w := check_run false 8 9992 ht hok8 hk
  have hflat : kT.flat = true := eqOk_flat 8 ht hok8
  obtain ⟨r, h1, h2⟩ := find_run (P := P) (w' := w) ht hok hk hall
  unfold Found at h2
  cases hm : @midx _ _ kT.decEq l key with
  | none =>
    rw [hm] at h2
    simp only at h2
    subst h2
    refine ⟨es.push { key := mkVal kT ck, val := mkVal vT cy, born := es.size }, ?_, ?_, ?_⟩
    · unfold Instr.mapUpdate
      simp only [Sem.run_bind, run_underlying hu, Result.andThen_ok, run_getObj_map hb, hchk, h1, run_setObj_map _ hb, Array.size_push]
      rfl
    · rw [@mset_midx _ _ kT.decEq, hm]
      simp only [Array.toList_push]
      exact hall.append ⟨⟨⟨ck, hk, rfl⟩, cy, hy, rfl⟩, trivial⟩
    · intro i e he
      rw [Array.getElem?_push] at he
      split at he
      · rename_i hi; injection he with he; subst he; exact hi.symm
      · exact hborn i e he
  | some i =>
    rw [hm] at h2
    obtain ⟨e, x, h3, h4, h5, rfl⟩ := h2
    obtain ⟨e', h6, ⟨⟨c, hc1, hc2⟩, _⟩⟩ := hall.get i x h4
    rw [h3] at h6
    injection h6 with h6
    subst h6
    have hcc : c = ck := flat_cells hflat hc1 (by rw [h5]; exact hk)
    have hkey : e.key = mkVal kT ck := by rw [hc2, hcc]
    have h3' : es[i]? = some e := by simpa using h3
    have hsame : Instr.sameBits 10000 e.key (mkVal kT ck) = true := by rw [hkey]; exact same_val hflat hk
    refine ⟨es.modify i fun e => { e with key := mkVal kT ck, val := mkVal vT cy }, ?_, ?_, ?_⟩
    · unfold Instr.mapUpdate
      simp only [Sem.run_bind, run_underlying hu, Result.andThen_ok, run_getObj_map hb, hchk, h1, h3', Option.map_some, Option.getD_some, Instr.keyThatStays, hsame, if_true, Sem.run_pure, run_setObj_map _ hb, Array.size_modify]
      rfl
    · rw [@mset_midx _ _ kT.decEq, hm, modify_list es i _ h3]
      exact hall.set i _ _ ⟨⟨ck, hk, rfl⟩, cy, hy, rfl⟩
    · intro j e2 he2
      rw [Array.getElem?_modify] at he2
      split at he2
      · rename_i hij
        subst hij
        rw [h3'] at he2
        simp only [Option.map_some, Option.some.injEq] at he2
        rw [← he2]
        exact hborn i e h3'
      · exact hborn j e2 he2
theorem mv_map {r g : Nat} (hb : G.col g = some r) (o : Obj) : Mv [r] G w G (setMap w g o) := by
  refine ⟨by simp [setMap], fun k hk hx => setMap_other (fun e => hx ?_), fun _ _ h => .inr (.inl h)⟩
  subst e
  exact ⟨r, by simp, hb⟩
theorem evalU2_sound {o : Oper} {r : Nat} {ob : Prop} {c : Con} (h : evalU2 P st o.op = some (ob, r, c)) (hob : ob) (hs : SR w0 S0 G st a w) :
    ∃ w', (execOp a.eval o).run P w = .ok .skip w' ∧ Mv [r] G w G w' ∧ SR w0 S0 G (st.upd r c) a w' := by
  have upd : ∀ {t : TypeId} {m x k : Operand} {kt et : TypeId} {r' : Nat} {z : V1}, mapOf P t = some (kt, et) → st.val [] m = some (.v (.c (.own r'))) → st.val [] x = some (.v z) →
      (match st.con [] r' with
      | some (.dict kT vT l) => match keyOfV P kt kT (st.val [] k), collV vT z, tyOf P 8 kt with
        | some key, some y, some kT' => match Ty.same kT' kT with
          | some _ => if vT.isPr == z.isAgg then some (True, r', Con.dict kT vT (@mset _ _ kT.decEq l key y)) else none
          | none => none
        | _, _, _ => none
      | _ => none) = some (ob, r, c) →
      ∃ w', (Instr.mapUpdate t (a.eval m) (a.eval k) (a.eval x)).run P w = .ok () w' ∧ Mv [r] G w G w' ∧ SR w0 S0 G (st.upd r c) a w' := by
    intro t m x k kt et r' z hmo hm hx h
    have hu := mapOf_under hmo
    have hxv : V1Rep w G z (a.eval x) := hs.val_ holds_nil hx
    obtain ⟨hmv, _⟩ := hs.val_ holds_nil hm
    split at h
    · rename_i kT vT l hcon
      split at h
      · rename_i key y kT' hkey hy hkT
        split at h
        · rename_i hh _
          have := hh.down
          subst this
          split at h
          · rename_i hag
            injection h with h; injection h with h1 h; injection h with h2 h3; subst h1 h2 h3
            obtain ⟨hok, ck, hkv, hke⟩ := keyOfV_rep hkey (fun y hy => hs.val_ holds_nil hy)
            obtain ⟨g, es, clk, hr, hcol, hb, hall, rfl, hborn⟩ := hs.con_ holds_nil hcon
            have hye := collV_rep hy hxv
            have hcs : ∃ cs, z.cls = some cs := by
              unfold collV at hy
              split at hy
              · rename_i cs hcs; exact ⟨cs, hcs⟩
              · cases hy
            obtain ⟨cs, hcs⟩ := hcs
            have hyv := mkVal_cells hxv hcs (by simpa using hag)
            obtain ⟨es', hrun, hall', hborn'⟩ := run_mapUpdate_ hu hkT hok hke hye hb hall hborn
            have hg : g < w.heap.size := (hs.colr _ _ hcol).2.1
            refine ⟨setMap w g (.map es' es'.size), ?_, mv_map hcol _, hs.updW hcol (Nat.le_refl _) rfl rfl rfl (by simp [setMap]) (fun k hk => setMap_other hk) ?_⟩
            · rw [hmv, hr, hkv, hyv]; exact hrun
            · exact ⟨g, es', es'.size, hr, hcol, setMap_same hg, ents_keep (fun b hS => ⟨hS, setMap_other (fun e => by subst e; exact (hs.colr _ _ hcol).2.2 hS)⟩) hall', rfl, hborn'⟩
          · cases h
        · cases h
      · cases h
    · cases h
  obtain ⟨dst, op, ty, pos, after, guard⟩ := o
  unfold evalU2 at h
  simp only at h
  split at h
  · rename_i t x y
    split at h
    · rename_i r' z m u' hx hy ht
      have hyv : V1Rep w G z (a.eval y) := hs.val_ holds_nil hy
      split at h
      · rename_i n u l0 l hcon hl
        split at h
        · rename_i hh _
          have := hh.down
          subst this
          split at h
          · rename_i hn
            have hn' : n = m + 1 := by simpa using hn
            subst hn'
            injection h with h; injection h with h1 h; injection h with h2 h3; subst h1 h2 h3
            obtain ⟨b1, hr1, hv1⟩ := hs.val_ holds_nil hx
            obtain ⟨b2, vs, e, hr2, hcol, hb, hxl, hln⟩ := hs.con_ holds_nil hcon
            rw [hr1] at hr2
            injection hr2 with hr2; injection hr2 with hr2; injection hr2 with hr2 _; subst hr2
            have henc := collV_rep hl hyv
            have hcl := Enc.length henc
            have hsz : vs.size = (m + 1) * u.size := by rw [← Array.length_toList, EncL.length (fun _ _ hh => Enc.length hh) hxl, hln]
            have hrun := run_storeAt_ (P := P) (off := 0) ht hb hcl (by rw [hsz, Nat.zero_add]; exact Nat.le_refl _) (Enc.one henc)
            refine ⟨w.setRow b1 (vs.toList.take 0 ++ (a.eval y).cells.toList ++ vs.toList.drop (0 + (a.eval y).cells.toList.length)).toArray, ?_, mv_row hcol _, hs.upd hcol ⟨b1, _, e, hr1, hcol, setRow_heap w b1 vs _ e _ hb, ?_, henc.1⟩⟩
            · simp only [execOp, hv1, Sem.run_bind, hrun, Result.andThen_ok, Sem.run_pure]
            · have hall : vs.toList.take 0 ++ (a.eval y).cells.toList ++ vs.toList.drop (0 + (a.eval y).cells.toList.length) = (a.eval y).cells.toList := by
                rw [List.take_zero, List.nil_append, List.drop_of_length_le (by rw [hcl, Array.length_toList, hsz]; show (m + 1) * u.size ≤ 0 + (m + 1) * u.size; omega), List.append_nil]
              refine EncL.imp (fun _ _ hh => Enc.keep (keep_row hs hcol) hh) ?_
              rw [hall]
              exact henc.2
          · cases h
        · cases h
      · cases h
    · rename_i r' i sz off z v hx hy ht
      have hyv : V1Rep w G z (a.eval y) := hs.val_ holds_nil hy
      split at h
      · rename_i e u l y' hcon hl
        split at h
        · rename_i y2 hset
          split at h
          · rename_i hsz
            have hsz' : sz = u.size := by simpa using hsz
            subst hsz'
            injection h with h; injection h with h1 h; injection h with h2 h3; subst h1 h2 h3
            obtain ⟨g, m, c, hr1, him, hv1⟩ := hs.val_ holds_nil hx
            obtain ⟨xs, hxl, ho, hml, hg⟩ := hs.con_ holds_nil hcon
            have henc := collV_rep hl hyv
            rw [hr1] at ho hg
            have hcol := hg g rfl
            rcases ho.2 with ⟨e0, _⟩ | ⟨g', cap, cur, e0, hb0, hb, hnc, hcm, hcs, htk⟩
            · cases e0
            · injection e0 with e0 e1 e2
              injection e0 with e0; injection e0 with e0 _
              subst e0 e1 e2
              obtain ⟨hset', hfit1, hfit2⟩ := enc_set_part hxl him henc hset
              have hcl := Enc.length henc
              have hxs : xs.length = l.length * u.size := ho.1
              have hcapfit : l.length * u.size ≤ c * u.size := Nat.mul_le_mul_right _ hnc
              have hrun := run_storeAt_ (P := P) (off := i * u.size + off) ht hb hcl (by rw [hcs]; omega) (Enc.one henc)
              refine ⟨w.setRow g (cur.toList.take (i * u.size + off) ++ (a.eval y).cells.toList ++ cur.toList.drop (i * u.size + off + (a.eval y).cells.toList.length)).toArray, ?_, mv_row hcol _, hs.upd hcol ⟨_, EncL.imp (fun _ _ hh => Enc.keep (keep_row hs hcol) hh) hset', ?_, by simpa using hml, by rw [hr1]; exact hg⟩⟩
              · simp only [execOp, hv1, Sem.run_bind, hrun, Result.andThen_ok, Sem.run_pure]
              · rw [hr1]
                refine ⟨by rw [EncL.length (fun _ _ hh => Enc.length hh) hset'], .inr ⟨g, c, _, by simp, hb0, setRow_heap w g cur _ e _ hb, by simpa using hnc, hcm, ?_, ?_⟩⟩
                · simp only [List.size_toArray, List.length_append, List.length_take, List.length_drop, Array.length_toList, hcl, hcs]
                  omega
                · simp only [List.length_set]
                  have hcurl : cur.toList.length = c * u.size := by rw [Array.length_toList, hcs]
                  rw [← htk]
                  have hsp := take_splice cur.toList (a.eval y).cells.toList (i * u.size + off) (l.length * u.size) (by rw [hcl]; omega) (by rw [hcurl]; exact hcapfit)
                  exact hsp
          · cases h
        · cases h
      · cases h
    · rename_i r' i sz off n z v hx hy ht
      have hyv : V1Rep w G z (a.eval y) := hs.val_ holds_nil hy
      split at h
      · rename_i m u l y' hcon hl
        split at h
        · rename_i y2 hset
          split at h
          · rename_i hck
            simp only [Bool.and_eq_true, beq_iff_eq] at hck
            obtain ⟨rfl, rfl⟩ := hck
            injection h with h; injection h with h1 h; injection h with h2 h3; subst h1 h2 h3
            obtain ⟨g, hr1, him, hv1⟩ := hs.val_ holds_nil hx
            obtain ⟨b2, vs, e, hr2, hcol, hb, hxl, hln⟩ := hs.con_ holds_nil hcon
            rw [hr1] at hr2
            injection hr2 with hr2; injection hr2 with hr2; injection hr2 with hr2 _; subst hr2
            have henc := collV_rep hl hyv
            obtain ⟨hset', hfit1, hfit2⟩ := enc_set_part hxl (by omega) henc hset
            have hcl := Enc.length henc
            simp only [Array.length_toList] at hfit2
            have hrun := run_storeAt_ (P := P) (off := i * u.size + off) ht hb hcl (by omega) (Enc.one henc)
            refine ⟨w.setRow g (vs.toList.take (i * u.size + off) ++ (a.eval y).cells.toList ++ vs.toList.drop (i * u.size + off + (a.eval y).cells.toList.length)).toArray, ?_, mv_row hcol _, hs.upd hcol ⟨g, _, e, hr1, hcol, setRow_heap w g vs _ e _ hb, ?_, by simpa using hln⟩⟩
            · simp only [execOp, hv1, Sem.run_bind, hrun, Result.andThen_ok, Sem.run_pure]
            · exact EncL.imp (fun _ _ hh => Enc.keep (keep_row hs hcol) hh) hset'
          · cases h
        · cases h
      · cases h
    · cases h
  · rename_i t m k x
    split at h
    · rename_i kt et r' z hmo hm hx
      obtain ⟨w', h1, hmv, h2⟩ := upd (k := k) hmo hm hx h
      exact ⟨w', by simp only [execOp, Sem.run_bind, h1, Result.andThen_ok, Sem.run_pure], hmv, h2⟩
    · cases h
  · rename_i t m k x
    split at h
    · rename_i kt et r' z hmo hm hx
      obtain ⟨w', h1, hmv, h2⟩ := upd (k := k) hmo hm hx h
      exact ⟨w', by simp only [execOp, Sem.run_bind, h1, Result.andThen_ok, Sem.run_pure], hmv, h2⟩
    · cases h
  · rename_i t m s x
    split at h
    · rename_i r' k i z hm hsv hx
      change Int at i
      have hxv : V1Rep w G z (a.eval x) := hs.val_ holds_nil hx
      obtain ⟨hmv, _⟩ := hs.val_ holds_nil hm
      obtain ⟨hsv', _, _⟩ := rep_pI (k := k) (n := i) (hs.val_ holds_nil hsv)
      split at h
      · rename_i kT vT l hcon
        split at h
        · rename_i y hy
          split at h
          · rename_i hag
            injection h with h; injection h with h1 h; injection h with h2 h3; subst h1 h2 h3
            obtain ⟨g, es, clk, hr, hcol, hb, hall, rfl, hborn⟩ := hs.con_ holds_nil hcon
            have hye := collV_rep hy hxv
            have hcs : ∃ cs, z.cls = some cs := by
              unfold collV at hy
              split at hy
              · rename_i cs hcs; exact ⟨cs, hcs⟩
              · cases hy
            obtain ⟨cs, hcs⟩ := hcs
            have hyv := mkVal_cells hxv hcs (by simpa using hag)
            have hg : g < w.heap.size := (hs.colr _ _ hcol).2.1
            obtain ⟨i0, i1⟩ := hob
            have hll := hall.length
            simp only [Array.length_toList] at hll
            have hin : i.toNat < es.size := by omega
            have hfind : es.findIdx? (fun e => (e.born : Int) == i) = some i.toNat := by
              rw [Array.findIdx?_eq_some_iff_getElem]
              refine ⟨hin, ?_, fun j hj => ?_⟩
              · have := hborn i.toNat es[i.toNat] (Array.getElem?_eq_getElem hin)
                simp only [beq_iff_eq, this]
                omega
              · have := hborn j es[j] (Array.getElem?_eq_getElem (by omega))
                simp only [beq_iff_eq, this]
                omega
            have he : es.toList[i.toNat]? = some es[i.toNat] := by simp [hin]
            obtain ⟨x0, hx0, hx1⟩ := hall.get2 i.toNat _ he
            refine ⟨setMap w g (.map (es.modify i.toNat fun e => { e with val := mkVal vT (a.eval x).cells.toList }) es.size), ?_, mv_map hcol _, hs.updW hcol (Nat.le_refl _) rfl rfl rfl (by simp [setMap]) (fun k hk => setMap_other hk) ?_⟩
            · simp only [execOp, hmv, hr, hsv', Instr.entryStore, asInt, asIntOf, Sem.run_bind, run_getObj_map hb, Result.andThen_ok, Sem.run_pure, hfind, run_setObj_map _ hb]
              rw [← hyv]
              rfl
            · refine ⟨g, _, _, hr, hcol, setMap_same hg, ents_keep (w := w) (S := G.S) (fun b hS => ⟨hS, setMap_other (fun e => by subst e; exact (hs.colr _ _ hcol).2.2 hS)⟩) ?_, by simp, ?_⟩
              · rw [modify_list es _ _ he]
                have : mputAt l i.toNat y = l.set i.toNat (x0.1, y) := by
                  unfold mputAt
                  apply List.ext_getElem?
                  intro j
                  rw [List.getElem?_modify, List.getElem?_set]
                  by_cases hj : i.toNat = j
                  · subst hj
                    simp only [if_true, hx0]
                    rw [if_pos (by omega)]
                    rfl
                  · simp [hj]
                rw [this]
                exact hall.set _ _ _ ⟨hx1.1, _, hye, rfl⟩
              · intro j e2 he2
                rw [Array.getElem?_modify] at he2
                split at he2
                · rename_i hij
                  subst hij
                  rw [Array.getElem?_eq_getElem hin] at he2
                  simp only [Option.map_some, Option.some.injEq] at he2
                  rw [← he2]
                  exact hborn i.toNat es[i.toNat] (Array.getElem?_eq_getElem hin)
                · exact hborn j e2 he2
          · cases h
        · cases h
      · cases h
    · cases h
  · cases h
theorem evalM_sound {o : Oper} {r d : Nat} {ob : Prop} {c : Con} {z : AV} (h : evalM P st o.op = some (ob, r, c, z)) (hob : ob) (hs : SR w0 S0 G st a w) (hd : d < st.n) :
    ∃ v w', (execOp a.eval o).run P w = .ok (.value v) w' ∧ Mv [r] G w G w' ∧ SR w0 S0 G ((st.upd r c).put d [] z) (a.put (some d) v) w' := by
  obtain ⟨dst, op, ty, pos, after, guard⟩ := o
  unfold evalM at h
  simp only at h
  split at h
  · rename_i t m k
    split at h
    · rename_i kt et r' hmo hm
      have hu := mapOf_under hmo
      obtain ⟨hmv, _⟩ := hs.val_ holds_nil hm
      split at h
      · rename_i kT vT l hcon
        split at h
        · rename_i key kT' hkey hkT
          split at h
          · rename_i hh _
            have := hh.down
            subst this
            split at h
            · rename_i hz
              injection h with h; injection h with h1 h; injection h with h2 h3; injection h3 with h3 h4; subst h1 h2 h3 h4
              obtain ⟨hok, ck, hkv, hke⟩ := keyOfV_rep hkey (fun y hy => hs.val_ holds_nil hy)
              obtain ⟨g, es, clk, hr, hcol, hb, hall, rfl, hborn⟩ := hs.con_ holds_nil hcon
              obtain ⟨zc, hz1, hz2⟩ := zOk_spec hz
              have hg : g < w.heap.size := (hs.colr _ _ hcol).2.1
              have hok8 : eqOk P 8 kt = true := by simp only [keyOk, Bool.and_eq_true] at hok; exact hok.1
              have hchk : (Instr.checkKey false 10000 kt (mkVal kT' ck)).run P w = .ok () w := check_run false 8 9992 hkT hok8 hke
              have hflat : kT'.flat = true := eqOk_flat 8 hkT hok8
              have hll := hall.length
              simp only [Array.length_toList] at hll
              have hne : ∀ b, G.S b → b ≠ g := fun b hS e => by subst e; exact (hs.colr _ _ hcol).2.2 hS
              have hnum : ∀ n : Nat, n ≤ l.length → AVRep w G (pI .i64 (n : Int)) (.int .i64 (n : Int)) := by
                intro n hn
                have := inR_i64 hob
                refine mk_pI ?_ ?_
                · have := kmin64; omega
                · omega
              obtain ⟨rr, h1, h2⟩ := find_run (P := P) (w' := w) hkT hok hke hall
              unfold Found at h2
              cases hmi : @midx _ _ kT'.decEq l key with
              | none =>
                rw [hmi] at h2
                simp only at h2
                subst h2
                have hget : @mget _ _ kT'.decEq l key = none := by rw [@mget_midx _ _ kT'.decEq, hmi]
                have htouch : @mtouch _ _ kT'.decEq l key vT.d = l ++ [(key, vT.d)] := by unfold mtouch; rw [hget]; rfl
                have hplace : @mplace _ _ kT'.decEq l key = (es.size : Int) := by unfold mplace; rw [hmi]; simp [hll]
                refine ⟨.tuple #[mkVal vT zc, .int .i64 (es.size : Int)], setMap w g (.map (es.push { key := mkVal kT' ck, val := mkVal vT zc, born := es.size }) (es.size + 1)), ?_, mv_map hcol _, ?_⟩
                · simp only [execOp, hmv, hr, hkv, Instr.mapEntry, Sem.run_bind, run_underlying hu, Result.andThen_ok, run_getObj_map hb, hchk, h1, hz1, run_setObj_map _ hb, Sem.run_pure]
                  rfl
                · have h5 := hs.updW (c := .dict kT' vT (@mtouch _ _ kT'.decEq l key vT.d)) (w' := setMap w g (.map (es.push { key := mkVal kT' ck, val := mkVal vT zc, born := es.size }) (es.size + 1))) hcol (Nat.le_refl _) rfl rfl rfl (by simp [setMap]) (fun k hk => setMap_other hk)
                    ⟨g, _, _, hr, hcol, setMap_same hg, by
                      rw [htouch, Array.toList_push]
                      exact ents_keep (fun b hS => ⟨hS, setMap_other (hne b hS)⟩) (hall.append ⟨⟨⟨ck, hke, rfl⟩, zc, hz2 w G.S, rfl⟩, trivial⟩), by simp, fun i e he => by
                      rw [Array.getElem?_push] at he
                      split at he
                      · rename_i hi; injection he with he; subst he; exact hi.symm
                      · exact hborn i e he⟩
                  refine h5.put hd rfl (fun _ => ?_) (fun hn => absurd holds_nil hn)
                  refine ⟨_, rfl, ?_, ?_, trivial⟩
                  · rw [hget]; exact toV1_rep (hz2 _ _)
                  · have := hnum es.size (by omega)
                    rw [hplace]
                    exact this
              | some i =>
                rw [hmi] at h2
                obtain ⟨e, x, h3, h4, h5, rfl⟩ := h2
                obtain ⟨e', h6, ⟨⟨c, hc1, hc2⟩, ⟨cv, hcv1, hcv2⟩⟩⟩ := hall.get i x h4
                rw [h3] at h6
                injection h6 with h6
                subst h6
                have hcc : c = ck := flat_cells hflat hc1 (by rw [h5]; exact hke)
                have hkeyv : e.key = mkVal kT' ck := by rw [hc2, hcc]
                have h3' : es[i]? = some e := by simpa using h3
                have hsame : Instr.sameBits 10000 e.key (mkVal kT' ck) = true := by rw [hkeyv]; exact same_val hflat hke
                have hget : @mget _ _ kT'.decEq l key = some x.2 := by rw [@mget_midx _ _ kT'.decEq, hmi]; simp [h4]
                have htouch : @mtouch _ _ kT'.decEq l key vT.d = l := by unfold mtouch; rw [hget]; rfl
                have hplace : @mplace _ _ kT'.decEq l key = (i : Int) := by unfold mplace; rw [hmi]; rfl
                have hbi := hborn i e h3'
                have hil : i < l.length := (List.getElem?_eq_some_iff.1 h4).1
                refine ⟨.tuple #[e.val, .int .i64 (i : Int)], setMap w g (.map (es.modify i fun e => { e with key := mkVal kT' ck }) es.size), ?_, mv_map hcol _, ?_⟩
                · simp only [execOp, hmv, hr, hkv, Instr.mapEntry, Sem.run_bind, run_underlying hu, Result.andThen_ok, run_getObj_map hb, hchk, h1, h3', Option.map_some, Option.getD_some, Instr.keyThatStays, hsame, if_true, run_setObj_map _ hb, Sem.run_pure, goInt, hbi]
                  rfl
                · have h5 := hs.updW (c := .dict kT' vT (@mtouch _ _ kT'.decEq l key vT.d)) (w' := setMap w g (.map (es.modify i fun e => { e with key := mkVal kT' ck }) es.size)) hcol (Nat.le_refl _) rfl rfl rfl (by simp [setMap]) (fun k hk => setMap_other hk)
                    ⟨g, _, _, hr, hcol, setMap_same hg, by
                      rw [htouch, modify_list es i _ h3]
                      have hl : l = l.set i x := by
                        apply List.ext_getElem?
                        intro j
                        rw [List.getElem?_set]
                        by_cases hij : i = j
                        · subst hij; rw [if_pos rfl, if_pos hil, h4]
                        · rw [if_neg hij]
                      rw [hl]
                      refine ents_keep (fun b hS => ⟨hS, setMap_other (hne b hS)⟩) (hall.set i _ _ ⟨⟨ck, by rw [← hcc]; exact hc1, rfl⟩, cv, hcv1, hcv2⟩), by simp, fun j e2 he2 => by
                      rw [Array.getElem?_modify] at he2
                      split at he2
                      · rename_i hij
                        subst hij
                        rw [h3'] at he2
                        simp only [Option.map_some, Option.some.injEq] at he2
                        rw [← he2]
                        exact hbi
                      · exact hborn j e2 he2⟩
                  refine h5.put hd rfl (fun _ => ?_) (fun hn => absurd holds_nil hn)
                  refine ⟨_, rfl, ?_, ?_, trivial⟩
                  · rw [hget, hcv2]
                    exact V1Rep.keep (w := w) (G := G) (fun b hS => ⟨hS, setMap_other (hne b hS)⟩) (fun _ _ => rfl) (toV1_rep hcv1)
                  · have := hnum i (by omega)
                    rw [hplace]
                    exact this
            · cases h
          · cases h
        · cases h
      · cases h
    · cases h
  · cases h
theorem run_append_zeros (t t' ty e : TypeId) (q : IntKind) (i : TypeInfo) (z : Value) (ht : P.underlying t = some (.slice e)) (ht' : P.underlying t' = some (.int q)) (hi : P.info? e = some i) (hz : i.zero = some z)
    (n : Nat) (h0 : 0 < n) (h63 : n ≤ 1099511627776) (hb : i.bytes ≤ 128) (hsz : i.size = z.cells.size) (hpos : 0 < z.cells.size) (w : World) :
    (Builtin.append_ #[t, t'] ty #[.slice none 0 0, .int .i64 (n : Int)]).run P w =
      .ok (.slice (some ⟨w.heap.size, 0, none⟩) n (grownCap w n 0 e)) (w.drew.alloc (.cells (Builtin.zeroCells z.cells n ++ Builtin.zeroCells z.cells (grownCap w n 0 e - n)) e)) := by
  have hn : n ≠ 0 := by omega
  have hnz : n * i.size ≠ 0 := by rw [hsz]; exact Nat.mul_ne_zero hn (by omega)
  have h63' : ¬ (9223372036854775807 < (n : Int)) := by omega
  have hbn : n * i.bytes ≤ 281474976710656 := by
    have h2 : n * i.bytes ≤ 1099511627776 * 128 := Nat.mul_le_mul h63 hb
    omega
  have h48' : ¬ (281474976710656 < Builtin.nextslicecap n 0 * i.bytes) := by rw [nextslicecap_zero h0]; omega
  have hw : IntKind.i64.wrap (n : Int) = (n : Int) := wrap_in (by rw [kmin64]; omega) (by rw [kmax64]; omega)
  have hneg : ¬ ((n : Int) < 0) := by omega
  have hbi : ¬ (281474976710656 < (n : Int) * (i.bytes : Int)) := by
    have : ((n * i.bytes : Nat) : Int) ≤ 281474976710656 := by omega
    rw [Int.natCast_mul] at this
    omega
  simp [Builtin.append_, run_underlying ht, run_underlying ht', Go.sizeOf, typeInfo, zeroValue, hi, hz, asInt, asIntOf, hw, hneg, hbi, hn, hnz, h63', h48', Question.forced, run_firstCells_none, newRow, grownCap]
theorem zeroCells_flat (z : Array Value) (hz : 0 < z.size) (n : Nat) : (Builtin.zeroCells z n).toList = (List.replicate n z.toList).flatten := by
  have := madeCells_flat z hz n
  unfold madeCells at this
  unfold Builtin.zeroCells
  exact this
theorem evalN2_sound {o : Oper} {d : Nat} {ob : Prop} {c : Con} (h : evalN2 P st [] o.op = some (ob, c)) (hob : ob) (hs : SR w0 S0 G st a w) (hd : d < st.n) :
    ∃ v w' G', (execOp a.eval o).run P w = .ok (.value v) w' ∧ Mv [] G w G' w' ∧ SR w0 S0 G' (st.appended d none c) (a.put (some d) v) w' := by
  obtain ⟨dst, op, ty, pos, after, guard⟩ := o
  unfold evalN2 at h
  simp only at h
  split at h
  · rename_i cl
    split at h
    · rename_i hcal
      split at h
      · rename_i x y t t' hargs hats
        split at h
        · rename_i e q he hq
          have hu := elemOf_under he
          split at h
          · rename_i u n ht hx hy
            change Int at n
            split at h
            · rename_i hok
              injection h with h; injection h with e1 e2; subst e1 e2
              obtain ⟨i, z, hi, his, hib, hz, hzs, hzd⟩ := elemOk_spec hok
              have hxv : a.eval x = .slice none 0 0 := hs.val_ holds_nil hx
              obtain ⟨hyv, _, _⟩ := rep_pI (k := .i64) (n := n) (hs.val_ holds_nil hy)
              obtain ⟨n0, n1⟩ : 0 < n ∧ n ≤ 1099511627776 := hob
              have hrun := run_append_zeros (P := P) t t' ty e q i z hu hq hi hz n.toNat (by omega) (by omega) hib (by rw [his, hzs]) (by rw [hzs]; exact u.size_pos) w
              have hxl := EncL.replicate (hzd w G.S) n.toNat
              rw [← zeroCells_flat z.cells (by rw [hzs]; exact u.size_pos)] at hxl
              have hge := grownCap_ge w n.toNat 0 e
              have hcm : grownCap w n.toNat 0 e ≤ maxLen := grownCap_le_maxLen w n.toNat 0 e (by simp only [maxLen]; omega)
              have hlen : (Builtin.zeroCells z.cells n.toNat).size = n.toNat * u.size := by rw [size_zeroCells, hzs]
              have hown : (w.drew.alloc (.cells (Builtin.zeroCells z.cells n.toNat ++ Builtin.zeroCells z.cells (grownCap w n.toNat 0 e - n.toNat)) e)).ownsRow 0 e u.size (.slice (some ⟨w.heap.size, 0, none⟩) n.toNat (grownCap w n.toNat 0 e)) n.toNat (Builtin.zeroCells z.cells n.toNat).toList := by
                refine ⟨by rw [Array.length_toList, hlen], .inr ⟨w.heap.size, _, _, rfl, Nat.zero_le _, heap_alloc_new w.drew _, hge, hcm, ?_, ?_⟩⟩
                · simp only [Array.size_append, size_zeroCells, hzs, ← Nat.add_mul]
                  congr 1
                  omega
                · rw [Array.toList_append, ← hlen, ← Array.length_toList]
                  exact List.take_left
              have hgrow : w.grownBy (w.drew.alloc (.cells (Builtin.zeroCells z.cells n.toNat ++ Builtin.zeroCells z.cells (grownCap w n.toNat 0 e - n.toNat)) e)) none := ⟨rfl, rfl, rfl, by simp, fun k hk _ => heap_push_old w.drew _ hk⟩
              obtain ⟨G', hmv, hG⟩ := hs.appended (k := none) (v := .slice none 0 0) (e := e) hd hxl (by rw [List.length_replicate]; exact hown) (by simp only [List.length_replicate, maxLen]; omega) hgrow (Nat.le_succ _) (fun g hg => by cases hg)
                (fun g hg => by simp only [Value.ownBlock, Option.some.injEq] at hg; exact .inr ⟨hg.symm, by simp⟩)
              refine ⟨_, _, G', ?_, hmv, hG⟩
              have ha' : cl.args = #[x, y] := by rw [← Array.toList_inj]; simpa using hargs
              have ht' : cl.argTypes = #[t, t'] := by rw [← Array.toList_inj]; simpa using hats
              have hnn : (n.toNat : Int) = n := by omega
              rw [hnn] at hrun
              simp only [execOp, resolve, hcal, ha', ht', invoke, builtin, Sem.run_bind, Sem.run_pure, Result.andThen_ok, List.map_toArray, List.map_cons, List.map_nil, hxv, hyv]
              rw [hrun]
              rfl
            · cases h
          · cases h
        · cases h
      · cases h
    · cases h
  · cases h
end
end Dec
