/-
Blocks that are made: variables, structs, slices.
-/
import Derived.Test.YtljlpmfmfcljaaaDecG
set_option linter.unusedSimpArgs false
set_option linter.unusedVariables false
namespace Dec
open Go Go.RowKit
theorem foldl_set (off : Nat) : ∀ (vs : List Value) (j : Nat) (cells : Array Value), off + j + vs.length ≤ cells.size →
    (vs.zipIdx j).foldl (fun (cs : Array Value) (x : Value × Nat) => cs.setIfInBounds (off + x.2) x.1) cells = (cells.toList.take (off + j) ++ vs ++ cells.toList.drop (off + j + vs.length)).toArray
  | [], j, cells, _ => by simp
  | v :: r, j, cells, h => by
    simp only [List.length_cons] at h
    rw [List.zipIdx_cons, List.foldl_cons, foldl_set off r (j + 1) _ (by simp; omega)]
    apply Array.ext'
    simp only [Array.toList_setIfInBounds, List.append_assoc, List.length_cons]
    have h1 : (cells.toList.set (off + j) v).take (off + (j + 1)) = cells.toList.take (off + j) ++ [v] := by
      rw [show off + (j + 1) = (off + j) + 1 by omega, List.take_succ_eq_append_getElem (by simp; omega), List.take_set, List.set_eq_of_length_le (by simp; omega)]
      simp
    have h2 : (cells.toList.set (off + j) v).drop (off + (j + 1) + r.length) = cells.toList.drop (off + j + (r.length + 1)) := by
      rw [List.drop_set, if_pos (by omega)]
      congr 1
      omega
    rw [h1, h2]
    simp
theorem fill_one (off : Nat) (v : Value) (cells : Array Value) (h : off + v.cells.size ≤ cells.size) :
    v.cells.zipIdx.foldl (fun (cs : Array Value) (x : Value × Nat) => match x with | (c, j) => cs.setIfInBounds (off + j) c) cells = (cells.toList.take off ++ v.cells.toList ++ cells.toList.drop (off + v.cells.size)).toArray := by
  have := foldl_set off v.cells.toList 0 cells (by simpa using h)
  simp only [Nat.add_zero, Array.length_toList] at this
  rw [← this, ← Array.foldl_toList, Array.toList_zipIdx]
theorem fill_row (size : Nat) : ∀ (parts : List (Nat × Value)) (k : Nat) (done rest : List Value), (∀ i x, parts[i]? = some x → x.1 = k + i ∧ x.2.cells.size = size) → done.length = k * size → rest.length = parts.length * size →
    Instr.fill (fun i => some (i * size, size)) (done ++ rest).toArray parts = some (done ++ (parts.map (fun x => x.2.cells.toList)).flatten).toArray
  | [], k, done, rest, _, _, hr => by
    have : rest = [] := List.eq_nil_of_length_eq_zero (by simpa using hr)
    simp [Instr.fill, this]
  | (i, v) :: parts, k, done, rest, hp, hd, hr => by
    obtain ⟨hi, hs⟩ := hp 0 (i, v) rfl
    simp only [Nat.add_zero] at hi hs
    subst hi
    simp only [List.length_cons, Nat.add_mul, Nat.one_mul] at hr
    have hc : ¬ (v.cells.size ≠ size ∨ (done ++ rest).toArray.size < i * size + v.cells.size) := by
      simp [hs]; omega
    unfold Instr.fill
    simp only [hs]
    have h3 : ¬ ((decide (size ≠ size) || decide (i * size + size > (done ++ rest).toArray.size)) = true) := by simp; omega
    rw [if_neg h3]
    have hf := fill_one (i * size) v (done ++ rest).toArray (by simp; omega)
    rw [hf]
    have e1 : (done ++ rest).take (i * size) = done := by rw [← hd]; exact List.take_left
    have e2 : (done ++ rest).drop (i * size + v.cells.size) = rest.drop size := by
      rw [hs, List.drop_append, List.drop_of_length_le (by omega), List.nil_append, hd, Nat.add_sub_cancel_left]
    simp only [e1, e2]
    have ih := fill_row size parts (i + 1) (done ++ v.cells.toList) (rest.drop size) (fun j x hx => by
      have := hp (j + 1) x (by simpa using hx)
      exact ⟨by omega, this.2⟩) (by simp [hd, hs, Nat.add_mul]) (by simp; omega)
    rw [ih]
    simp
/-! ### plain words -/
def collParts (st : St) (p : Path) (t : Ty) : Nat → List (Nat × Operand) → Option (List t.T)
  | _, [] => some []
  | k, (i, x) :: r => if i == k then (match st.val p x with
    | some (.v y) => match collV t y with
      | some z => match collParts st p t (k + 1) r with
        | some l => some (z :: l)
        | none => none
      | none => none
    | _ => none) else none
def evalN (P : Program) (st : St) (p : Path) (op : Op) : Option (Prop × Con × Bool) :=
  match op with
  | .alloc e => match P.info? e with
    | some i => match i.zero with
      | some z => match tyOf P 8 e with
        | some (.ar n u) => match zeroIs (.ar n u) z.cells.toList with
          | some [] => some (True, .vec (n + 1) u (List.replicate (n + 1) u.d), true)
          | _ => none
        | _ => match cstCls z.cells.toList with
          | some cs => some (True, .box cs, true)
          | none => none
      | none => none
    | none => none
  | .box t x => match st.val p x with
    | some (.v y) => match tyOf P 8 t with
      | some (.ar n u) => match collV (.ar n u) y with
        | some l => some (True, .vec (n + 1) u l, true)
        | none => none
      | _ => match y.cls with
        | some cs => some (True, .box cs, true)
        | none => none
    | _ => none
  | .makeMap t none => match P.underlying t with
    | some (.map k e) => match tyOf P 8 k, tyOf P 8 e with
      | some u, some v => some (True, .dict u v [], false)
      | _, _ => none
    | _ => none
  | .buildSlice t n parts => match elemOf P t with
    | none => none
    | some e => match tyOf P 8 e with
      | none => none
      | some u => if elemOk P e u && parts.size == n && decide (n * u.size ≤ 16777216) then (match collParts st p u 0 parts.toList with
        | some l => some (True, .arr e u l, false)
        | none => none) else none
  | .makeSlice t (.tmp i) (.tmp j) => if i == j then (match elemOf P t with
    | none => none
    | some e => match tyOf P 8 e, st.get p i with
      | some u, some (.v (.c (.p (.int _) n))) => if elemOk P e u then some (room n, .arr e u (List.replicate n.toNat u.d), false) else none
      | _, _ => none) else none
  | _ => none
section
variable {P : Program} {w0 w : World} {S0 : Base} {G : Ghost} {st : St} {a : Act} {p : Path}
def St.made (st : St) (d : Nat) (p : Path) (c : Con) (ptr : Bool) : St := ((st.purge d).own d p c).put d p (.v (.c (if ptr then .ptr d 0 else .own d)))
theorem SR.made_off (h : SR w0 S0 G st a w) {d : Nat} {c : Con} {b : Bool} (hd : d < st.n) (hp : onPath d p = false) (hn : ¬ Holds a p) : SR w0 S0 G (st.made d p c b) (a.put (some d) undef) w :=
  ((h.purge d).own (fun hh => absurd hh hn)).put hd hp (fun hh => absurd hh hn) (fun _ => rfl)
def Con.clean (d : Nat) (c : Con) : Bool := !c.has d
theorem agree_alloc (X : Nat → Prop) (w : World) (o : Obj) : Agree X w (w.alloc o) := fun b hb _ => heap_push_old w o hb
def Xof (T : List Nat) (G : Ghost) : Nat → Prop := fun b => ∃ q, q ∈ T ∧ G.col b = some q
def Mv (T : List Nat) (G : Ghost) (w : World) (G' : Ghost) (w' : World) : Prop :=
  w.heap.size ≤ w'.heap.size ∧ Agree (Xof T G) w w' ∧ ∀ b q, G'.col b = some q → w.heap.size ≤ b ∨ G.col b = some q ∨ ∃ q', q' ∈ T ∧ G.col b = some q'
theorem mv_refl (T : List Nat) (G : Ghost) (w : World) : Mv T G w G w := ⟨Nat.le_refl _, Agree.refl _ _, fun _ _ h => .inr (.inl h)⟩
theorem mv_new (T : List Nat) (G : Ghost) (w : World) (d : Nat) (v : Value) (o : Obj) : Mv T G w (G.new d w.heap.size v) (w.alloc o) := by
  refine ⟨by rw [World.size_alloc]; omega, agree_alloc _ _ _, fun b q h => ?_⟩
  simp only [Ghost.new] at h
  split at h
  · rename_i e; subst e; exact .inl (Nat.le_refl _)
  · exact .inr (.inl h)
theorem SR.made_box (h : SR w0 S0 G st a w) {d : Nat} {cs : List Cl} {vs : Array Value} {e : TypeId} (hd : d < st.n) (hp : onPath d p = false) (hh : Holds a p) (hc : (Con.box cs).clean d = true) (hr : All2 (ClRep w G) cs vs.toList) :
    ∃ G', Mv [] G w G' (w.alloc (.cells vs e)) ∧ SR w0 S0 G' (st.made d p (.box cs) true) (a.put (some d) (.pointer (some ⟨w.heap.size, 0, none⟩))) (w.alloc (.cells vs e)) := by
  have h1 := h.alloc d (.cells vs e) (.pointer (some ⟨w.heap.size, 0, none⟩))
  refine ⟨_, mv_new _ _ _ _ _ _, (h1.own (r := d) (p := p) (c := .box cs) fun _ => ?_).put hd hp (fun _ => ?_) (fun hn => absurd hh hn)⟩
  · refine ⟨w.heap.size, vs, e, by simp [Ghost.new], by simp [Ghost.new], heap_push_new w _, All2.imp (fun x hx v hv => ?_) hr⟩
    refine ClRep.keep (w := w) (G := G) (fun b hb => ⟨hb, heap_push_old w _ (h.sub b hb).1⟩) (fun r hr => ?_) hv
    simp only [Ghost.new]
    rw [if_neg]
    rintro rfl
    simp only [Con.clean, Con.has, Bool.not_eq_true', List.any_eq_false] at hc
    exact hc x hx hr
  · exact ⟨w.heap.size, by simp [Ghost.new], rfl⟩
theorem SR.made_vec (h : SR w0 S0 G st a w) {d n : Nat} {t : Ty} {l : List t.T} {vs : Array Value} {e : TypeId} (hd : d < st.n) (hp : onPath d p = false) (hh : Holds a p) (hn : l.length = n) (hx : EncL (Enc w G.S t) l vs.toList) :
    ∃ G', Mv [] G w G' (w.alloc (.cells vs e)) ∧ SR w0 S0 G' (st.made d p (.vec n t l) true) (a.put (some d) (.pointer (some ⟨w.heap.size, 0, none⟩))) (w.alloc (.cells vs e)) := by
  have h1 := h.alloc d (.cells vs e) (.pointer (some ⟨w.heap.size, 0, none⟩))
  refine ⟨_, mv_new _ _ _ _ _ _, (h1.own (r := d) (p := p) (c := .vec n t l) fun _ => ?_).put hd hp (fun _ => ?_) (fun hn => absurd hh hn)⟩
  · exact ⟨w.heap.size, vs, e, by simp [Ghost.new], by simp [Ghost.new], heap_push_new w _, EncL.imp (fun _ _ hh => Enc.keep (fun b hb => ⟨hb, heap_push_old w _ (h.sub b hb).1⟩) hh) hx, hn⟩
  · exact ⟨w.heap.size, by simp [Ghost.new], rfl⟩
theorem SR.made_map (h : SR w0 S0 G st a w) {d : Nat} {k v : Ty} (hd : d < st.n) (hp : onPath d p = false) (hh : Holds a p) :
    ∃ G', Mv [] G w G' (w.alloc (.map #[] 0)) ∧ SR w0 S0 G' (st.made d p (.dict k v []) false) (a.put (some d) (.map (some w.heap.size))) (w.alloc (.map #[] 0)) := by
  have h1 := h.alloc d (.map #[] 0) (.map (some w.heap.size))
  refine ⟨_, mv_new _ _ _ _ _ _, (h1.own (r := d) (p := p) (c := .dict k v []) fun _ => ?_).put hd hp (fun _ => ?_) (fun hn => absurd hh hn)⟩
  · exact ⟨w.heap.size, #[], 0, by simp [Ghost.new], by simp [Ghost.new], heap_push_new w _, trivial, rfl, fun i e he => by simp at he⟩
  · exact ⟨by simp [Ghost.new], .inr ⟨_, rfl⟩⟩
theorem SR.made_arr (h : SR w0 S0 G st a w) {d : Nat} {e : TypeId} {t : Ty} {l : List t.T} {xs : List Value} {vs : Array Value} (hd : d < st.n) (hp : onPath d p = false) (hh : Holds a p)
    (hx : EncL (Enc w G.S t) l xs) (hv : vs.toList = xs) (hm : l.length ≤ maxLen) :
    ∃ G', Mv [] G w G' (w.alloc (.cells vs e)) ∧ SR w0 S0 G' (st.made d p (.arr e t l) false) (a.put (some d) (.slice (some ⟨w.heap.size, 0, none⟩) l.length l.length)) (w.alloc (.cells vs e)) := by
  have h1 := h.alloc d (.cells vs e) (.slice (some ⟨w.heap.size, 0, none⟩) l.length l.length)
  have hlen : vs.size = l.length * t.size := by rw [← Array.length_toList, hv]; exact EncL.length (fun _ _ hh => Enc.length hh) hx
  refine ⟨_, mv_new _ _ _ _ _ _, (h1.own (r := d) (p := p) (c := .arr e t l) fun _ => ?_).put hd hp (fun _ => ?_) (fun hn => absurd hh hn)⟩
  · refine ⟨xs, EncL.imp (fun _ _ hh => Enc.keep (fun b hb => ⟨hb, heap_push_old w _ (h.sub b hb).1⟩) hh) hx, ?_, hm, fun g hg => ?_⟩
    · have := World.ownsRow_lit (base := 0) (e := e) (size := t.size) w vs l.length (Nat.zero_le _) hm hlen
      rw [hv] at this
      simpa [Ghost.new] using this
    · simp only [Ghost.new, ↓reduceIte, Value.ownBlock, Option.some.injEq] at hg ⊢
      rw [if_pos hg.symm]
  · exact ⟨by simp [Ghost.new], .inl ⟨_, _, _, rfl⟩⟩
theorem collParts_spec (hs : SR w0 S0 G st a w) (hh : Holds a p) {t : Ty} : ∀ {k : Nat} {l : List (Nat × Operand)} {xs : List t.T}, collParts st p t k l = some xs →
    xs.length = l.length ∧ (∀ i x, (l.map fun x => (x.1, a.eval x.2))[i]? = some x → x.1 = k + i ∧ x.2.cells.size = t.size) ∧ EncL (Enc w G.S t) xs ((l.map fun x => (x.1, a.eval x.2)).map fun x => x.2.cells.toList).flatten
  | k, [], xs, h => by
    simp only [collParts] at h
    injection h with h; subst h
    simp [EncL]
  | k, (j, x) :: r, xs, h => by
    simp only [collParts] at h
    split at h
    · rename_i hj
      split at h
      · rename_i y hy
        split at h
        · rename_i z hz
          split at h
          · rename_i l hl
            injection h with h; subst h
            obtain ⟨h1, h2, h3⟩ := collParts_spec hs hh hl
            have hz' := collV_rep hz (hs.val_ hh hy)
            refine ⟨by simp [h1], fun i v hv => ?_, ?_⟩
            · cases i with
              | zero =>
                simp at hv
                subst hv
                exact ⟨by simpa using hj, by rw [← Array.length_toList]; exact Enc.length hz'⟩
              | succ i =>
                have := h2 i v (by simpa using hv)
                exact ⟨by omega, this.2⟩
            · simp only [List.map_cons, List.flatten_cons]
              exact ⟨_, _, rfl, hz', h3⟩
          · cases h
        · cases h
      · cases h
    · cases h
theorem evalN_sound {o : Oper} {d : Nat} {ob : Prop} {c : Con} {b : Bool} (h : evalN P st p o.op = some (ob, c, b)) (hob : ob) (hs : SR w0 S0 G st a w) (hh : Holds a p) (hd : d < st.n) (hp : onPath d p = false) (hc : c.clean d = true) :
    ∃ v w' G', (execOp a.eval o).run P w = .ok (.value v) w' ∧ Mv [] G w G' w' ∧ SR w0 S0 G' (st.made d p c b) (a.put (some d) v) w' := by
  obtain ⟨dst, op, ty, pos, after, guard⟩ := o
  unfold evalN at h
  simp only at h
  split at h
  · rename_i e
    split at h
    · rename_i i hi
      split at h
      · rename_i z hz
        split at h
        · rename_i n u ht
          split at h
          · rename_i hzz
            injection h with h; injection h with e1 h; injection h with e2 e3; subst e1 e2 e3
            obtain ⟨cc, hc1, hc2⟩ := zeroIs_rep (w := w) (S := G.S) hzz
            rw [List.append_nil] at hc1
            obtain ⟨G', hmv, h1⟩ := hs.made_vec (e := e) (vs := z.cells) (n := n + 1) (l := List.replicate (n + 1) u.d) hd hp hh (by simp) (by rw [hc1]; exact hc2.2)
            refine ⟨_, _, G', ?_, hmv, h1⟩
            simp [execOp, Instr.alloc, zeroValue, typeInfo, hi, hz, newVar, newRow]
          · cases h
        · split at h
          · rename_i cs hcs
            injection h with h; injection h with e1 h; injection h with e2 e3; subst e1 e2 e3
            obtain ⟨G', hmv, h1⟩ := hs.made_box (e := e) (vs := z.cells) hd hp hh hc (cstCls_rep hcs)
            refine ⟨_, _, G', ?_, hmv, h1⟩
            simp [execOp, Instr.alloc, zeroValue, typeInfo, hi, hz, newVar, newRow]
          · cases h
      · cases h
    · cases h
  · rename_i e x
    split at h
    · rename_i y hy
      have hr : V1Rep w G y (a.eval x) := hs.val_ hh hy
      split at h
      · rename_i n u ht
        split at h
        · rename_i l hl
          injection h with h; injection h with e1 h; injection h with e2 e3; subst e1 e2 e3
          have hv := collV_rep hl hr
          obtain ⟨G', hmv, h1⟩ := hs.made_vec (e := e) (vs := (a.eval x).cells) hd hp hh hv.1 hv.2
          refine ⟨_, _, G', ?_, hmv, h1⟩
          simp [execOp, Instr.box, newVar, newRow]
        · cases h
      · split at h
        · rename_i cs hcs
          injection h with h; injection h with e1 h; injection h with e2 e3; subst e1 e2 e3
          obtain ⟨G', hmv, h1⟩ := hs.made_box (e := e) hd hp hh hc (hr.cells hcs)
          refine ⟨_, _, G', ?_, hmv, h1⟩
          simp [execOp, Instr.box, newVar, newRow]
        · cases h
    · cases h
  · split at h
    · split at h
      · injection h with h; injection h with e1 h; injection h with e2 e3; subst e1 e2 e3
        obtain ⟨G', hmv, h1⟩ := hs.made_map (p := p) hd hp hh
        refine ⟨_, _, G', ?_, hmv, h1⟩
        rfl
      · cases h
    · cases h
  · rename_i t n parts
    split at h
    · cases h
    · rename_i e he
      have hu := elemOf_under he
      split at h
      · cases h
      · rename_i u ht
        split at h
        · rename_i hck
          simp only [Bool.and_eq_true, beq_iff_eq, decide_eq_true_eq] at hck
          obtain ⟨⟨hok, hsz⟩, hsm⟩ := hck
          split at h
          · rename_i l hl
            injection h with h; injection h with e1 h; injection h with e2 e3; subst e1 e2 e3
            obtain ⟨i, z, hi, his, hib, hz, hzs, hzd⟩ := elemOk_spec hok
            obtain ⟨h1, h2, h3⟩ := collParts_spec hs hh hl
            have hl' : l.length = n := by rw [h1, Array.length_toList, hsz]
            have hm : l.length ≤ maxLen := by rw [hl']; have := u.size_pos; have := Nat.le_mul_of_pos_right n this; simp only [maxLen]; omega
            obtain ⟨G', hmv, hG⟩ := hs.made_arr (e := e) (vs := ((parts.toList.map fun x => (x.1, a.eval x.2)).map fun x => x.2.cells.toList).flatten.toArray) hd hp hh h3 (by simp) hm
            refine ⟨_, _, G', ?_, hmv, hG⟩
            have hfill : ∀ zero : Array Value, zero.size = n * u.size → Instr.fill (fun i => some (i * u.size, u.size)) zero (parts.map fun x => (x.1, a.eval x.2)).toList =
                some (((parts.toList.map fun x => (x.1, a.eval x.2)).map fun x => x.2.cells.toList).flatten.toArray) := by
              intro zero hzero
              have := fill_row u.size (parts.toList.map fun x => (x.1, a.eval x.2)) 0 [] zero.toList h2 (by simp) (by simp [hzero, hsz])
              simp only [List.nil_append, Array.toArray_toList] at this
              rw [← this, Array.toList_map]
            have hsm' : ¬ n * u.size > 2 ^ 24 := by omega
            simp only [execOp, Instr.buildSlice, Sem.run_bind, run_underlying hu, Result.andThen_ok, tyOf_size ht, if_neg hsm', newRow, hl']
            by_cases hn : n * u.size = 0
            · rw [if_pos hn]
              simp only [Sem.run_bind, Sem.run_pure, Result.andThen_ok]
              rw [hfill _ (by simp)]
              simp only [Sem.run_bind, run_newObj, Result.andThen_ok, Sem.run_pure]
              rfl
            · rw [if_neg hn]
              simp only [Sem.run_bind, Sem.run_pure, Result.andThen_ok, zeroValue, typeInfo, run_program, hi, hz]
              rw [hfill _ (by simp)]
              simp only [Sem.run_bind, run_newObj, Result.andThen_ok, Sem.run_pure]
              rfl
          · cases h
        · cases h
  · rename_i t i j
    split at h
    · rename_i hij
      have hij' : i = j := by simpa using hij
      subst hij'
      split at h
      · cases h
      · rename_i e he
        have hu := elemOf_under he
        split at h
        · rename_i u k n ht hg
          change Int at n
          split at h
          · rename_i hok
            injection h with h; injection h with e1 h; injection h with e2 e3; subst e1 e2 e3
            obtain ⟨n0, n1⟩ : (0 : Int) ≤ n ∧ n ≤ 1099511627776 := hob
            obtain ⟨inf, z, hi, his, hib, hz, hzs, hzd⟩ := elemOk_spec hok
            have hv := hs.get_ hh hg
            obtain ⟨ev, _, _⟩ := rep_pI (k := k) (n := n) hv
            have hb : (inf.bytes : Int) * n ≤ 281474976710656 := by
              have h1 : (inf.bytes : Int) ≤ 128 := by omega
              have h2 : (inf.bytes : Int) * n ≤ 128 * n := Int.mul_le_mul_of_nonneg_right h1 n0
              omega
            have hrun := run_make (P := P) w t e inf z hu hi hz k k n n n0 (Int.le_refl _) hb (by omega)
            have hx := EncL.replicate (hzd w G.S) n.toNat
            have hm : (List.replicate n.toNat u.d).length ≤ maxLen := by simp [maxLen]; omega
            have hmk : (madeCells z.cells (n.toNat * inf.size)).toList = (List.replicate n.toNat z.cells.toList).flatten := by
              rw [his, ← hzs]; exact madeCells_flat z.cells (by rw [hzs]; exact u.size_pos) _
            obtain ⟨G', hmv, hG⟩ := hs.made_arr (e := e) (vs := madeCells z.cells (n.toNat * inf.size)) hd hp hh hx hmk hm
            simp only [List.length_replicate] at hG
            refine ⟨_, _, G', ?_, hmv, hG⟩
            have ev' : a.eval (.tmp i) = .int k n := ev
            simp only [execOp, ev', Sem.run_bind, hrun, Result.andThen_ok, Sem.run_pure]
          · cases h
        · cases h
    · cases h
  · cases h
end
end Dec
