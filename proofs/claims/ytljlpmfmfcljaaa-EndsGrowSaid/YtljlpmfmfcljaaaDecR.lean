/-
bytes.Equal: a string made of bytes, and its equality. From an argument's reading (the statement's words) to plain data.
-/
import Derived.Test.YtljlpmfmfcljaaaDecP
import Derived.Laws.BytesArg
import Derived.Laws.BytesString
import Derived.Laws.Strings
import Derived.Deep.Slices
import Derived.Carry
set_option linter.unusedSimpArgs false
set_option linter.unusedVariables false
namespace Dec
open Go Go.RowKit
section
variable {P : Program} {w : World} {S : Nat → Prop}
theorem enc_string {l : List Int} {v : Value} (h : Enc w S (.sl (.int .u8)) l [v]) {src e dst : TypeId} (hs : P.underlying src = some (.slice e)) (he : P.underlying e = some (.int .u8)) (hd : P.underlying dst = some .string) :
    (convert src dst v).run P w = .ok (.string (strOfNums l)) w := by
  obtain ⟨a, c, e1, hc, hm, hr⟩ := h
  injection e1 with e1 _
  subst e1
  rcases hr with rfl | ⟨b, off, cells, ty, fz, xs, rfl, hS, hb, hx, hj⟩
  · rw [run_convert_bytes_string w src dst e _ _ c hs he hd]
    cases a <;> simp [Conv.bytesToString, loadCells]
    all_goals rfl
  · refine run_convert_bytes_arg w src e hs he b off l.length c l rfl (fun i hi => ?_) dst hd
    obtain ⟨cs, h1, h2⟩ := EncL.get (fun _ _ hh => Enc.length hh) i (l[i]) hx (List.getElem?_eq_getElem hi)
    obtain ⟨rfl, _⟩ := h1
    have h3 := hj _ _ (h2 0 _ rfl)
    simp only [Ty.size, Nat.mul_one, Nat.add_zero] at h3
    simp only [World.cell?, hb]
    simp [h3, List.getD, List.getElem?_eq_getElem hi]
theorem strOfNums_toList (l : List Int) : (strOfNums l).toList = l.map fun n => UInt8.ofNat n.toNat := by
  have key : ∀ (b : ByteArray), b.toList = b.data.toList := by
    intro b
    have loop : ∀ (n i : Nat) (r : List UInt8), b.size - i = n → ByteArray.toList.loop b i r = r.reverse ++ b.data.toList.drop i := by
      intro n
      induction n with
      | zero =>
        intro i r hn
        unfold ByteArray.toList.loop
        rw [if_neg (by omega)]
        have : b.data.toList.length ≤ i := by have : b.data.toList.length = b.size := Array.length_toList
                                              omega
        simp [List.drop_of_length_le this]
      | succ n ih =>
        intro i r hn
        unfold ByteArray.toList.loop
        rw [if_pos (by omega), ih (i + 1) _ (by omega)]
        have hi : i < b.data.toList.length := by have : b.data.toList.length = b.size := Array.length_toList
                                                 omega
        rw [List.drop_eq_getElem_cons hi]
        have hg : b.get! i = b.data.toList[i] := by
          cases b with
          | mk d =>
            have hi' : i < d.size := by simpa using hi
            simp [ByteArray.get!, hi']
        simp [hg]
    have := loop b.size 0 [] (by omega)
    simpa [ByteArray.toList] using this
  rw [key]
  simp [strOfNums]
theorem strOfNums_beq {a b : List Int} (ha : ∀ x ∈ a, 0 ≤ x ∧ x ≤ 255) (hb : ∀ x ∈ b, 0 ≤ x ∧ x ≤ 255) : ((strOfNums a).toList == (strOfNums b).toList) = decide (a = b) := by
  rw [strOfNums_toList, strOfNums_toList]
  have key : ∀ {a b : List Int}, (∀ x ∈ a, 0 ≤ x ∧ x ≤ 255) → (∀ x ∈ b, 0 ≤ x ∧ x ≤ 255) → (a.map fun n => UInt8.ofNat n.toNat) = (b.map fun n => UInt8.ofNat n.toNat) → a = b := by
    intro a
    induction a with
    | nil => intro b _ _ h; cases b with | nil => rfl | cons y b => simp at h
    | cons x a ih =>
      intro b ha hb h
      cases b with
      | nil => simp at h
      | cons y b =>
        simp only [List.map_cons, List.cons.injEq] at h
        have h1 := ha x (by simp)
        have h2 := hb y (by simp)
        have e := congrArg UInt8.toNat h.1
        simp only [UInt8.toNat_ofNat'] at e
        rw [Nat.mod_eq_of_lt (by omega), Nat.mod_eq_of_lt (by omega)] at e
        rw [ih (fun x hx => ha x (by simp [hx])) (fun x hx => hb x (by simp [hx])) h.2, show x = y by omega]
  by_cases h : a = b
  · subst h; simp
  · rw [decide_eq_false h]
    rw [beq_eq_false_iff_ne]
    exact fun e => h (key ha hb e)
theorem enc_bytes {l : List Int} {v : Value} (h : Enc w S (.sl (.int .u8)) l [v]) : ∀ x ∈ l, 0 ≤ x ∧ x ≤ 255 := by
  have := (Enc.ok h).2
  intro x hx
  have h1 := this x hx
  simp only [Ok, IntKind.min, IntKind.max] at h1
  simpa [IntKind.signed, IntKind.bits] using h1
end
end Dec
namespace Dec
open Go Go.RowKit
section
variable {P : Program} {ops : Array Oper} {Q : Exit → Act → World → Prop}
theorem wpl_val {m : Md} {o : Oper} {rest : List Oper} {a : Act} {w : World} (v : Value) {d : Nat} (hg : o.guard = none) (hd : o.dst = some d) (h : (execOp a.eval o).run P w = .ok (.value v) w) (hr : lwp m P ops Q rest (a.put (some d) v) w) : lwp m P ops Q (o :: rest) a w := by
  refine lwp_step fun K hK => ?_
  rw [if_pos (by simp [Region.wanted, hg])]
  refine upon_value' h ?_
  rw [hd]
  exact hK _ _ hr
theorem eval_hit {a : Act} {d : Nat} {v : Value} (h : d < a.tmps.size) : (a.put (some d) v).eval (.tmp d) = v := by
  simp [Act.eval, Act.put, h]
theorem eval_miss {a : Act} {d t : Nat} {v : Value} (h : d ≠ t) : (a.put (some d) v).eval (.tmp t) = a.eval (.tmp t) :=
  Act.eval_put fun d' hd' e => by injection hd' with hd'; injection e with e; subst hd'; exact h e.symm
end
end Dec
namespace Dec
open Go Go.RowKit Go.Deep Go.ChangeShapes Go.WideShapes
section
variable {H : Type} {enc : TypeId × Value → H} {P : Program} {w : World}
def tyOf0 (P : Program) : Nat → TypeId → Option Ty
  | 0, _ => none
  | n + 1, t => match P.info? t with
    | none => none
    | some i => match P.underlying t with
      | some (.int k) => if i.size == 1 then some (.int k) else none
      | some .bool => if i.size == 1 then some .bool else none
      | some (.slice e) => if i.size == 1 then (match tyOf0 P n e with | some u => some (.sl u) | none => none) else none
      | some (.struct fs) => if treeAt P t fs.toList then none else match fieldTys (tyOf0 P n) fs.toList 0 with
        | some l => match nest l with
          | some u => if u.isPr && i.size == u.size then some u else none
          | none => none
        | none => none
      | _ => none
theorem fieldTys_mono {f g : TypeId → Option Ty} (h : ∀ t u, f t = some u → g t = some u) : ∀ {fs : List Field} {off : Nat} {l : List Ty}, fieldTys f fs off = some l → fieldTys g fs off = some l
  | [], _, _, hl => hl
  | x :: xs, off, l, hl => by
    simp only [fieldTys] at hl ⊢
    split at hl
    · rename_i t ht
      rw [h _ _ ht]
      simp only
      split at hl
      · rename_i ho
        rw [if_pos ho]
        split at hl
        · rename_i l' hl'
          rw [fieldTys_mono h hl']
          exact hl
        · cases hl
      · cases hl
    · cases hl
theorem tyOf_of0 : ∀ (n : Nat) {t : TypeId} {u : Ty}, tyOf0 P n t = some u → tyOf P n t = some u
  | 0, t, u, h => by simp [tyOf0] at h
  | n + 1, t, u, h => by
    simp only [tyOf0] at h
    split at h
    · cases h
    · rename_i i hi
      split at h
      · rename_i hu; simp only [tyOf, hi, hu]; exact h
      · rename_i hu; simp only [tyOf, hi, hu]; exact h
      · rename_i e hu
        simp only [tyOf, hi, hu]
        split at h
        · rename_i hs
          split at h
          · rename_i v hv; rw [tyOf_of0 n hv, if_pos hs]; exact h
          · cases h
        · cases h
      · rename_i fs hu
        simp only [tyOf, hi, hu]
        split at h
        · cases h
        rename_i htr
        rw [if_neg htr]
        split at h
        · rename_i l hl
          rw [fieldTys_mono (fun t u => tyOf_of0 n) hl]
          exact h
        · cases h
      · cases h
theorem tyOf_cells {n : Nat} {t : TypeId} {u : Ty} (h : tyOf P n t = some u) : P.cellsOf t = u.size := by
  obtain ⟨i, hi, hs⟩ := tyOf_info h
  simp [Program.cellsOf, hi, hs]
abbrev Old (w : World) : Nat → Prop := fun b => b < w.heap.size
theorem wf_range {k : IntKind} {n : Int} (h : (Lit.int k n).wf = true) : k.min ≤ n ∧ n ≤ k.max := by
  simpa [Lit.wf] using h
theorem encl_of_index {α : Type} {E : α → List Value → Prop} {sz len : Nat} (cells : List Value → Prop) (f : Nat → Option Value) (hE : ∀ i, i < len → ∃ y cs, E y cs ∧ cs.length = sz ∧ ∀ j, j < sz → f (i * sz + j) = cs[j]?) :
    ∃ l xs, l.length = len ∧ EncL E l xs ∧ xs.length = len * sz ∧ ∀ j u, xs[j]? = some u → f j = some u := by
  induction len with
  | zero => exact ⟨[], [], rfl, rfl, by simp, by simp⟩
  | succ n ih =>
    obtain ⟨l, xs, h1, h2, h3, h4⟩ := ih fun i hi => hE i (Nat.lt_succ_of_lt hi)
    obtain ⟨y, cs, h5, h6, h7⟩ := hE n (Nat.lt_succ_self n)
    refine ⟨l ++ [y], xs ++ cs, by simp [h1], EncL.append h2 (EncL.single h5), by simp [h3, h6, Nat.add_mul], fun j u hj => ?_⟩
    by_cases hjx : j < xs.length
    · rw [List.getElem?_append_left hjx] at hj
      exact h4 j u hj
    · rw [List.getElem?_append_right (by omega)] at hj
      have hjl : j - xs.length < cs.length := (List.getElem?_eq_some_iff.1 hj).1
      have := h7 (j - xs.length) (by omega)
      rw [show n * sz + (j - xs.length) = j by omega] at this
      rw [this, hj]
theorem enc_fields {n : Nat} {E : ∀ (u : Ty), u.T → List Value → Prop} (hE : ∀ u y cs, E u y cs → cs.length = u.size) {cs : List Value} :
    ∀ {fs : List Field} {off : Nat} {l : List Ty} {u : Ty}, fieldTys (tyOf0 P n) fs off = some l → nest l = some u → cs.length = off + u.size →
      (∀ (i : Nat) (f : Field), fs[i]? = some f → ∀ t, tyOf0 P n f.type = some t → ∃ y, Enc w (Old w) t y ((cs.drop f.offset).take t.size)) → ∃ y, Enc w (Old w) u y (cs.drop off)
  | [], off, l, u, h, hn, _, _ => by
    simp only [fieldTys] at h
    injection h with h; subst h
    simp [nest] at hn
  | x :: xs, off, l, u, h, hn, hl, hf => by
    simp only [fieldTys] at h
    split at h
    · rename_i t ht
      split at h
      · rename_i ho
        simp only [beq_iff_eq] at ho
        split at h
        · rename_i l' hl'
          injection h with h; subst h
          obtain ⟨y, hy⟩ := hf 0 x rfl t ht
          rw [ho] at hy
          cases l' with
          | nil =>
            simp only [nest] at hn
            injection hn with hn; subst hn
            refine ⟨y, ?_⟩
            rw [List.take_of_length_le (by simp; omega)] at hy
            exact hy
          | cons t2 l2 =>
            simp only [nest] at hn
            split at hn
            · rename_i u' hu'
              injection hn with hn; subst hn
              simp only [Ty.size] at hl
              obtain ⟨z, hz⟩ := enc_fields hE (fs := xs) hl' hu' (by omega) (fun i f hi => hf (i + 1) f (by simpa using hi))
              refine ⟨(y, z), _, _, ?_, hy, hz⟩
              rw [← List.drop_drop]
              exact (List.take_append_drop _ _).symm
            · cases hn
        · cases h
      · cases h
    · cases h
theorem enc_of_trod : ∀ (n : Nat) {t : TypeId} {u : Ty} {fuel : Nat} {cs : List Value} {x : DataW H × List MemPlace}, tyOf0 P n t = some u → DataW.trod enc P w 0 (fun _ => true) true fuel t cs = some x → ∃ y : u.T, Enc w (Old w) u y cs
  | 0, t, u, _, _, _, h, _ => by simp [tyOf0] at h
  | n + 1, t, u, fuel, cs, x, h, hx => by
    have h0 := h
    simp only [tyOf0] at h
    split at h
    · cases h
    · rename_i inf hinf
      split at h
      · rename_i k hu
        split at h
        · injection h with h; subst h
          obtain ⟨m, rfl, _, hw⟩ := DataW.trod_int hu hx
          exact ⟨m, rfl, wf_range hw⟩
        · cases h
      · rename_i hu
        split at h
        · injection h with h; subst h
          obtain ⟨b, rfl, _⟩ := DataW.trod_bool hu hx
          exact ⟨b, rfl⟩
        · cases h
      · rename_i e hu
        split at h
        · split at h
          · rename_i v hv
            injection h with h; subst h
            rcases open_slice hu hx with ⟨rfl, _⟩ | ⟨a, len, cap, m, n', D, Pl, rfl, _, hl, hm, hmm, _, hel⟩
            · exact ⟨[], none, 0, rfl, Nat.le_refl _, Nat.zero_le _, .inl rfl⟩
            · simp only [if_true] at hmm
              subst hmm
              have hsz := tyOf_cells (tyOf_of0 _ hv)
              cases len with
              | zero => exact ⟨[], some a, m, rfl, Nat.zero_le _, hm, .inl rfl⟩
              | succ len =>
                have hpos := v.size_pos
                have hfirst : ∃ c e' fz, w.heap[a.block]? = some (.cells c e' fz) ∧ a.spot = none := by
                  obtain ⟨cs', h1, _⟩ := hel 0 (by omega)
                  obtain ⟨_, h2, h3⟩ := World.cells?_some h1
                  have h4 := h3 0 (by omega)
                  simp only [Nat.zero_mul] at h4
                  rw [show (a.add 0).add 0 = a from by simp [Addr.add], List.getElem?_eq_getElem (by omega)] at h4
                  unfold World.cell? at h4
                  split at h4
                  · rename_i c e' fz hb
                    refine ⟨c, e', fz, hb, ?_⟩
                    cases hs : a.spot with
                    | none => rfl
                    | some _ => simp [hs] at h4
                  · cases h4
                obtain ⟨c, e', fz, hb, hspot⟩ := hfirst
                have hcell : ∀ j, w.cell? (a.add j) = c[a.off + j]? := by
                  intro j
                  by_cases hj : j = 0
                  · subst hj; simp [Addr.add, World.cell?, hb, hspot]
                  · simp [Addr.add, hj, World.cell?, hb]
                obtain ⟨l, xs, h1, h2, _, h4⟩ := encl_of_index (E := fun y cs => Enc w (Old w) v y cs) (sz := v.size) (len := len + 1) (fun _ => True) (fun j => c[a.off + j]?) (fun i hi => by
                  obtain ⟨cs', h5, h6⟩ := hel i (by omega)
                  obtain ⟨y, hy⟩ := enc_of_trod n hv h6
                  obtain ⟨_, h7, h8⟩ := World.cells?_some h5
                  refine ⟨y, cs', hy, by rw [h7, hsz], fun j hj => ?_⟩
                  have := h8 j (by omega)
                  rw [add_add, hsz, hcell] at this
                  exact this)
                refine ⟨l, some a, m, by rw [h1], by rw [h1]; exact hl, hm, .inr ⟨a.block, a.off, c, e', fz, xs, ?_, ?_, hb, h2, h4⟩⟩
                · cases a; simp_all
                · exact (Array.getElem?_eq_some_iff.1 hb).1
          · cases h
        · cases h
      · rename_i fs hu
        split at h
        · cases h
        split at h
        · rename_i l hl
          split at h
          · rename_i u' hu'
            split at h
            · rename_i hck
              injection h with h; subst h
              simp only [Bool.and_eq_true, beq_iff_eq] at hck
              obtain ⟨xs, n', _, _, hlen, hxl, hxs⟩ := DataW.trod_struct hu hx
              have hcs : cs.length = u'.size := by rw [hlen]; simp [Program.cellsOf, hinf, hck.2]
              obtain ⟨y, hy⟩ := enc_fields (w := w) (n := n) (cs := cs) (E := fun u y cs => Enc w (Old w) u y cs) (fun _ _ _ hh => Enc.length hh) hl hu' (by omega) (fun i f hi t ht => by
                have hi' : fs[i]? = some f := by simpa using hi
                have h5 := hxs i f hi'
                rw [tyOf_cells (tyOf_of0 _ ht)] at h5
                have hi2 : i < xs.length := by rw [hxl]; exact (Array.getElem?_eq_some_iff.1 hi').1
                rw [List.getElem?_eq_getElem hi2] at h5
                exact enc_of_trod n ht h5)
              exact ⟨y, by simpa using hy⟩
            · cases h
          · cases h
        · cases h
      · cases h
end
end Dec
