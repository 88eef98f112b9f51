/-
Deep rows: made, appended to, frozen; nil ones.
-/
import Derived.Test.YtckghdhnmpnljaaDecDc
set_option linter.unusedSimpArgs false
set_option linter.unusedVariables false
namespace Dec
open Go Go.RowKit
def deepE (P : Program) (e : TypeId) : TypeId :=
  match P.underlying e with
  | some (.slice e') => e'
  | some (.struct fs) => match fs.toList.filterMap fun fd => (match P.underlying fd.type with | some (.slice e') => some e' | _ => none) with
    | e' :: _ => e'
    | [] => 0
  | _ => 0
def baseD (st : St) (e E : TypeId) (u : Ty) (x : AV) : Option (Option Nat × List u.T) :=
  match x with
  | .v (.c .nils) => some (none, [])
  | .v (.c (.own r)) => match st.con [] r with
    | some (.deep e' E' v l []) => match Ty.same v u with
      | some h => if e' == e && E' == E then some (some r, h.down ▸ l) else none
      | none => none
    | _ => none
  | _ => none
def evalB (P : Program) (st : St) (op : Op) : Option (Prop × List Nat × Con) :=
  match op with
  | .makeSlice t (.tmp i) (.tmp j) => if i == j then (match elemOf P t with
    | none => none
    | some e => match tyOf P 8 e, st.get [] i, P.info? e with
      | some (.sl u), some (.v (.c (.p (.int _) n))), some inf => match inf.zero with
        | some (.slice none 0 0) => if elemOk P e (.sl u) then some (room n, [], .deep e (deepE P e) (.sl u) (List.replicate n.toNat []) []) else none
        | _ => none
      | _, _, _ => none) else none
  | .buildSlice t 1 parts => match elemOf P t, parts.toList with
    | some e, [(0, x)] => match tyOf P 8 e, st.val [] x with
      | some u, some (.v y) => match y.cls with
        | some cs => match collD st (deepE P e) u cs with
          | some (z, T, []) => if elemOk P e u && decide (u.size ≤ 16777216) && nodupB T then some (True, T, .deep e (deepE P e) u [z] []) else none
          | _ => none
        | none => none
      | _, _ => none
    | _, _ => none
  | .call c => match c.callee with
    | .builtin .append => match c.args.toList, c.argTypes.toList with
      | [x, y], [t, t'] => if t == t' then (match elemOf P t with
        | none => none
        | some e => match tyOf P 8 e, st.val [] x, st.val [] y with
          | some u, some x, some y => if elemOk P e u then (match baseD st e (deepE P e) u x, baseD st e (deepE P e) u y with
            | some (k, l), some (some r2, m) => if k == some r2 then none else some (roomN (l.length + m.length), k.toList ++ [r2], .deep e (deepE P e) u (l ++ m) [])
            | _, _ => none) else none
          | _, _, _ => none) else none
      | _, _ => none
    | _ => none
  | _ => none
def St.takenL (st : St) (d : Nat) (T : List Nat) (c : Con) : St := (((st.purgeL T).purge d).own d [] c).put d [] (.v (.c (.own d)))
section
variable {M : Md → Prop} {P : Program} {w0 w : World} {S0 : Base} {G : Ghost} {st st' : St} {a : Act} {ops : Array Oper} {Q : XE → St → Prop} {D : List Nat} {C : List (Nat × Nat)}
theorem SR.taken (h : SR w0 S0 G st a w) {d : Nat} (hd : d < st.n) {T : List Nat} {c : Con} {v' : Value} {w' : World} {row : Option Nat} (hg : w.grownBy w' row) (hdr : w.drawn ≤ w'.drawn)
    (hrow : ∀ b, row = some b → ∃ q ∈ T, G.col b = some q) (NB : List Nat) (hNB : ∀ b ∈ NB, (∃ q ∈ T, G.col b = some q) ∨ (b = w.heap.size ∧ w.heap.size < w'.heap.size))
    (hc : ∀ G' : Ghost, (∀ b, G.S b → G'.S b) → G'.rho d = v' → (∀ b ∈ NB, G'.col b = some d) → ConRep w' G' d c) (hform : (∃ ad n cp, v' = .slice ad n cp) ∨ ∃ g, v' = .map (some g)) :
    ∃ G', Mv T G w G' w' ∧ SR w0 S0 G' (st.takenL d T c) (a.put (some d) v') w' := by
  let G' : Ghost := { S := G.S, col := fun b => if b ∈ NB then some d else G.col b, rho := fun r => if r = d then v' else G.rho r }
  have hcb : ∀ b, b ∈ NB → G'.col b = some d := fun b hb => if_pos hb
  have hcn : ∀ b, b ∉ NB → G'.col b = G.col b := fun b hb => if_neg hb
  have hne : ∀ b, G.S b → some b ≠ row := fun b hb e => by
    obtain ⟨q, _, hq⟩ := hrow b e.symm
    exact (h.colr _ _ hq).2.2 hb
  have hS : ∀ b, G.S b → G'.S b ∧ w'.heap[b]? = w.heap[b]? := fun b hb => ⟨hb, hg.block b (h.sub b hb).1 (hne b hb)⟩
  have hold : ∀ b q, q ∉ T → G.col b = some q → b ∉ NB ∧ w'.heap[b]? = w.heap[b]? := by
    intro b q hq hb
    have hlt := (h.colr b q hb).2.1
    refine ⟨fun hm => ?_, hg.block b hlt fun e => ?_⟩
    · rcases hNB b hm with ⟨q', hq', e⟩ | ⟨e, _⟩
      · rw [hb] at e; injection e with e; exact hq (e ▸ hq')
      · omega
    · obtain ⟨q', hq', e⟩ := hrow b e.symm
      rw [hb] at e; injection e with e; exact hq (e ▸ hq')
  have h2 : SR w0 S0 G' ((st.purgeL T).purge d) a w' := by
    refine ((h.purgeL (T := T)).purge d).move (fun q => q = d ∨ q ∈ T) hS (fun q hq => if_neg fun e => hq (.inl e)) (fun b q hq hb => ?_) (h.below.grown hg h.below_size (fun g e => ?_) hdr) (fun b hb => ?_) (fun b q hb => ?_) rfl (fun x hx => ⟨hx, fun r hr hD => ?_⟩) (fun x hx => ⟨hx, fun hD => ?_, fun r hr hD => ?_⟩)
    · obtain ⟨h3, h4⟩ := hold b q (fun hm => hq (.inr hm)) hb
      exact ⟨by rw [hcn b h3]; exact hb, h4⟩
    · obtain ⟨q, _, hq⟩ := hrow g e
      exact (h.colr _ _ hq).1
    · have := h.sub b hb
      have := hg.size
      exact ⟨by omega, (h.sub b hb).2⟩
    · have hsz := hg.size
      by_cases hm : b ∈ NB
      · rcases hNB b hm with ⟨q', _, e⟩ | ⟨e1, e2⟩
        · have := h.colr _ _ e
          exact ⟨this.1, by omega, this.2.2⟩
        · subst e1
          exact ⟨.inr h.below_size, e2, fun hS => by have := (h.sub _ hS).1; omega⟩
      · rw [hcn b hm] at hb
        have := h.colr b q hb
        exact ⟨this.1, by omega, this.2.2⟩
    · have h5 : x ∈ (st.purgeL T).sl := by simp only [St.purge, List.mem_filter] at hx; exact hx.1
      rcases hD with rfl | hD
      · exact purge_sl hx r hr rfl
      · rw [(purgeL_sl h5).2 r hD] at hr
        cases hr
    · have h5 := hx
      simp only [St.purge, List.mem_map, List.mem_filter] at h5
      obtain ⟨y, ⟨hy, _⟩, rfl⟩ := h5
      rcases hD with hD | hD
      · exact (purge_hp hx).1 hD
      · exact ((purgeL_hp hy).2 _ hD).1 rfl
    · have h5 := hx
      simp only [St.purge, List.mem_map, List.mem_filter] at h5
      obtain ⟨y, ⟨hy, _⟩, rfl⟩ := h5
      rcases hD with rfl | hD
      · exact (purge_hp hx).2 r hr rfl
      · have h6 := ((purgeL_hp hy).2 r hD).2
        rw [(Con.has_of_blur hr).1] at h6
        cases h6
  have hn : ((st.purgeL T).purge d).n = st.n := purgeL_n
  refine ⟨G', ⟨hg.size, fun b hb hx => hg.block b hb (fun e => hx ?_), fun b q hq => ?_⟩, (h2.own (r := d) (p := []) (c := c) fun _ => hc G' (fun _ hb => hb) (if_pos rfl) hcb).put (by show d < ((st.purgeL T).purge d).n; rw [hn]; exact hd) rfl (fun _ => ⟨(if_pos rfl).symm, hform⟩) (fun hn => absurd holds_nil hn)⟩
  · obtain ⟨q, hq, e1⟩ := hrow b e.symm
    exact ⟨q, hq, e1⟩
  · by_cases hm : b ∈ NB
    · rcases hNB b hm with ⟨q', hq', e⟩ | ⟨e1, _⟩
      · exact .inr (.inr ⟨q', hq', e⟩)
      · exact .inl (by omega)
    · rw [hcn b hm] at hq
      exact .inr (.inl hq)
theorem baseD_rep {e E : TypeId} {u : Ty} {x : AV} {v : Value} {k : Option Nat} {l : List u.T} (h : baseD st e E u x = some (k, l)) (hs : SR w0 S0 G st a w) (hx : AVRep w G x v) :
    ∃ xss Bs, DRow w G.S E u l [] xss Bs ∧ w.ownsRow 0 e u.size v l.length xss.flatten ∧ (∀ g, v.ownBlock = some g → ∃ r, k = some r ∧ G.col g = some r) ∧ ∀ b ∈ Bs.flatten, (∃ r, k = some r ∧ G.col b = some r) ∧ v.ownBlock ≠ some b ∧ b < w.heap.size := by
  unfold baseD at h
  split at h
  · injection h with h; injection h with e1 e2; subst e1 e2
    have hx' : v = .slice none 0 0 := hx
    subst hx'
    exact ⟨[], [], ⟨rfl, rfl, fun _ hc => by simp at hc, fun i y hy => by simp at hy, fun i hi => by simp at hi, List.nodup_nil⟩, World.ownsRow_nil _ _ _ _, fun g hg => by simp [Value.ownBlock] at hg, fun b hb => by simp at hb⟩
  · split at h
    · rename_i r e' E' v' l' hcon
      split at h
      · rename_i hh _
        have := hh.down
        subst this
        split at h
        · rename_i he
          simp only [Bool.and_eq_true, beq_iff_eq] at he
          obtain ⟨he1, he2⟩ := he
          subst he1 he2
          injection h with h; injection h with e1 e2; subst e1 e2
          obtain ⟨xss, Bs, ho, hm, hcl, hrow, hfn, hBs, _⟩ := hs.con_ holds_nil hcon
          obtain ⟨rfl, _⟩ := hx
          exact ⟨xss, Bs, hrow, ho, fun g hg => ⟨_, rfl, hcl g hg⟩, fun b hb => ⟨⟨_, rfl, (hBs b hb).1⟩, (hBs b hb).2⟩⟩
        · cases h
      · cases h
    · cases h
  · cases h
theorem DRow.append {S : Nat → Prop} {E : TypeId} {t : Ty} {l m : List t.T} {xs ys : List (List Value)} {A B : List (List Nat)} (h : DRow w S E t l [] xs A) (k : DRow w S E t m [] ys B) (hd : ∀ b ∈ A.flatten, b ∉ B.flatten) : DRow w S E t (l ++ m) [] (xs ++ ys) (A ++ B) where
  len := by rw [List.length_append, List.length_append, h.len, k.len]
  blen := by rw [List.length_append, List.length_append, h.blen, k.blen]
  width := fun c hc => (List.mem_append.1 hc).elim (h.width c) (k.width c)
  el := fun i x hx _ => by
    by_cases hi : i < l.length
    · rw [List.getElem?_append_left hi] at hx
      obtain ⟨c, B', h1, h2, h3⟩ := h.el i x hx (by simp)
      exact ⟨c, B', by rw [List.getElem?_append_left (by rw [h.len]; exact hi)]; exact h1, by rw [List.getElem?_append_left (by rw [h.blen]; exact hi)]; exact h2, h3⟩
    · rw [List.getElem?_append_right (by omega)] at hx
      obtain ⟨c, B', h1, h2, h3⟩ := k.el _ x hx (by simp)
      exact ⟨c, B', by rw [List.getElem?_append_right (by rw [h.len]; omega), h.len]; exact h1, by rw [List.getElem?_append_right (by rw [h.blen]; omega), h.blen]; exact h2, h3⟩
  foc := fun i hi => by simp at hi
  nodup := by
    rw [List.flatten_append, List.nodup_append]
    exact ⟨h.nodup, k.nodup, fun b hb b' hb' e => hd b hb (e ▸ hb')⟩
theorem DRow.one {S : Nat → Prop} {E : TypeId} {t : Ty} {x : t.T} {c : List Value} {B : List Nat} (h : DEnc w S E t x c B) (hB : B.Nodup) : DRow w S E t [x] [] [c] [B] where
  len := rfl
  blen := rfl
  width := fun c' hc => by rw [List.mem_singleton.1 hc]; exact h.length
  el := fun i y hy _ => by
    cases i with
    | zero => simp at hy; subst hy; exact ⟨c, B, rfl, rfl, h⟩
    | succ i => simp at hy
  foc := fun i hi => by simp at hi
  nodup := by simpa using hB
theorem DRow.one_all {S : Nat → Prop} {E : TypeId} {t : Ty} {l : List t.T} {xs : List (List Value)} {A : List (List Nat)} (h : DRow w S E t l [] xs A) : ∀ v ∈ xs.flatten, v.oneCell' = true := by
  intro v hv
  obtain ⟨c, hc, hv⟩ := List.mem_flatten.1 hv
  obtain ⟨i, hi, e⟩ := List.mem_iff_getElem.1 hc
  have hil : i < l.length := by rw [← h.len]; exact hi
  obtain ⟨c', B, h1, _, h3⟩ := h.el i _ (getD_some (d := t.d) hil) (by simp)
  rw [List.getElem?_eq_getElem hi, e] at h1
  injection h1 with h1
  subst h1
  exact h3.one v hv
theorem evalB_sound {o : Oper} {d : Nat} {ob : Prop} {T : List Nat} {c : Con} (h : evalB P st o.op = some (ob, T, c)) (hob : ob) (hs : SR w0 S0 G st a w) (hd : d < st.n) :
    ∃ v w' G', (execOp a.eval o).run P w = .ok (.value v) w' ∧ Mv T G w G' w' ∧ SR w0 S0 G' (st.takenL d T c) (a.put (some d) v) w' := by
  obtain ⟨dst, op, ty, pos, after, guard⟩ := o
  unfold evalB at h
  simp only at h
  split at h
  · rename_i t i j
    split at h
    · rename_i hij
      have hij' : i = j := by simpa using hij
      subst hij'
      split at h
      · cases h
      · rename_i e he
        have hu := elemOf_under he
        split at h
        · rename_i u k n inf ht hg hinf
          change Int at n
          split at h
          · rename_i hz0
            split at h
            · rename_i hok
              injection h with h; injection h with e1 h; injection h with e2 e3; subst e1 e2 e3
              obtain ⟨n0, n1⟩ : (0 : Int) ≤ n ∧ n ≤ 1099511627776 := hob
              obtain ⟨inf', z, hi, his, hib, hz, hzs, hzd⟩ := elemOk_spec hok
              rw [hinf] at hi
              injection hi with hi
              subst hi
              rw [hz0] at hz
              injection hz with hz
              subst hz
              have hv := hs.get_ holds_nil hg
              obtain ⟨ev, _, _⟩ := rep_pI (k := k) (n := n) hv
              have hb : (inf.bytes : Int) * n ≤ 281474976710656 := by
                have h1 : (inf.bytes : Int) ≤ 128 := by omega
                have h2 : (inf.bytes : Int) * n ≤ 128 * n := Int.mul_le_mul_of_nonneg_right h1 n0
                omega
              have hrun := run_make (P := P) w t e inf _ hu hinf hz0 k k n n n0 (Int.le_refl _) hb (by omega)
              have hm : n.toNat ≤ maxLen := by simp [maxLen]; omega
              have hmk : (madeCells (Value.slice none 0 0).cells (n.toNat * inf.size)).toList = (List.replicate n.toNat [Value.slice none 0 0]).flatten := by
                rw [his, ← hzs]; exact madeCells_flat _ (by rw [hzs]; exact Ty.size_pos _) _
              have hlen : (madeCells (Value.slice none 0 0).cells (n.toNat * inf.size)).size = n.toNat * (Ty.sl u).size := by
                rw [← Array.length_toList, hmk]; simp [Ty.size]
              refine Exists.elim (hs.taken hd (T := []) (c := .deep e (deepE P e) (.sl u) (List.replicate n.toNat []) []) (v' := .slice (some ⟨w.heap.size, 0, none⟩) n.toNat n.toNat) (World.grownBy_alloc w (.cells (madeCells (Value.slice none 0 0).cells (n.toNat * inf.size)) e) none) (Nat.le_refl _) (fun b hb => by cases hb) [w.heap.size] (fun b hb => .inr ⟨List.mem_singleton.1 hb, by rw [World.size_alloc]; omega⟩) (fun G' hS hr hcb => ?_) (.inl ⟨_, _, _, rfl⟩)) fun G' hh => ⟨_, _, G', ?_, hh.1, hh.2⟩
              rotate_right
              · skip
                have ev' : a.eval (.tmp i) = .int k n := ev
                simp only [execOp, ev', Sem.run_bind, hrun, Result.andThen_ok, Sem.run_pure]
              · refine ⟨List.replicate n.toNat [.slice none 0 0], List.replicate n.toNat [], ?_, by rw [List.length_replicate]; exact hm, fun g hg => ?_, ⟨by simp, by simp, fun c hc => by rw [List.eq_of_mem_replicate hc]; rfl, fun i x hx _ => ?_, fun i hi => by simp at hi, by simp⟩, List.nodup_nil, fun b hb => by simp at hb, fun f hf => by simp at hf⟩
                · have := World.ownsRow_lit (base := 0) (e := e) (size := (Ty.sl u).size) w (madeCells (Value.slice none 0 0).cells (n.toNat * inf.size)) n.toNat (Nat.zero_le _) hm hlen
                  rw [hmk] at this
                  rw [hr, List.length_replicate]
                  exact this
                · rw [hr] at hg
                  simp only [Value.ownBlock, Option.some.injEq] at hg
                  exact hcb g (by rw [← hg]; exact List.mem_singleton.2 rfl)
                · have hil : i < n.toNat := by have := (List.getElem?_eq_some_iff.1 hx).1; simpa using this
                  have hx' : x = [] := by
                    have := (List.getElem?_eq_some_iff.1 hx).2
                    rw [List.getElem_replicate] at this
                    exact this.symm
                  subst hx'
                  refine ⟨[.slice none 0 0], [], by simp [hil], by simp [hil], ?_⟩
                  exact ⟨_, [], rfl, rfl, World.ownsRow_nil _ _ _ _, by simp, rfl⟩
            · cases h
          · cases h
        · cases h
    · cases h
  · rename_i t parts
    split at h
    · rename_i e x he hparts
      have hu := elemOf_under he
      split at h
      · rename_i u y ht hx
        split at h
        · rename_i cs hcls
          split at h
          · rename_i z T' hcoll
            split at h
            · rename_i hck
              simp only [Bool.and_eq_true, decide_eq_true_eq] at hck
              obtain ⟨⟨hok, hsm⟩, hnd⟩ := hck
              injection h with h; injection h with e1 h; injection h with e2 e3; subst e1 e2 e3
              obtain ⟨inf, z0, hi, his, hib, hz, hzs, hzd⟩ := elemOk_spec hok
              have hyr : V1Rep w G y (a.eval x) := hs.val_ holds_nil hx
              have hyc := hyr.cells hcls
              obtain ⟨cells, rv, B, hce, hden, hrv, hBc, hBn⟩ := collD_rep hs hcoll hyc
              have hrv0 : rv = [] := by cases rv with
                | nil => rfl
                | cons => exact hrv.elim
              subst hrv0
              rw [List.append_nil] at hce
              have hcl : (a.eval x).cells.size = u.size := by rw [← Array.length_toList, hce]; exact hden.length
              have hBn' := hBn (nodupB_iff hnd)
              refine Exists.elim (hs.taken hd (T := T') (c := .deep e (deepE P e) u [z] []) (v' := .slice (some ⟨w.heap.size, 0, none⟩) 1 1) (World.grownBy_alloc w (.cells (a.eval x).cells e) none) (Nat.le_refl _) (fun b hb => by cases hb) (w.heap.size :: B) (fun b hb => ?_) (fun G' hS hr hcb => ?_) (.inl ⟨_, _, _, rfl⟩)) fun G' hh => ⟨_, _, G', ?_, hh.1, hh.2⟩
              rotate_right
              · skip
                have hpa : parts = #[(0, x)] := by rw [← Array.toList_inj]; simpa using hparts
                have hfill : ∀ zero : Array Value, zero.size = u.size → Instr.fill (fun i => some (i * u.size, u.size)) zero [(0, a.eval x)] = some (a.eval x).cells := by
                  intro zero hzero
                  have := fill_row u.size [(0, a.eval x)] 0 [] zero.toList (fun i y hy => by
                    cases i with
                    | zero => simp at hy; subst hy; exact ⟨rfl, hcl⟩
                    | succ i => simp at hy) (by simp) (by simp [hzero])
                  simpa using this
                have hsm' : ¬ 1 * u.size > 2 ^ 24 := by omega
                have hn0 : ¬ 1 * u.size = 0 := by have := u.size_pos; omega
                simp only [execOp, Instr.buildSlice, Sem.run_bind, run_underlying hu, Result.andThen_ok, tyOf_size ht, if_neg hsm', newRow, if_neg hn0, hpa, List.map_toArray, List.map_cons, List.map_nil]
                simp only [Sem.run_bind, Sem.run_pure, Result.andThen_ok, zeroValue, typeInfo, run_program, hi, hz]
                rw [hfill _ (by simp)]
                simp only [Sem.run_bind, run_newObj, Result.andThen_ok, Sem.run_pure]
                rfl
              · rcases List.mem_cons.1 hb with rfl | hb
                · exact .inr ⟨rfl, by rw [World.size_alloc]; omega⟩
                · exact .inl (hBc b hb)
              · have hB1 : ∀ b ∈ B, b < w.heap.size := fun b hb => by
                  obtain ⟨q, _, e9⟩ := hBc b hb
                  exact (hs.colr b q e9).2.1
                have hlit := World.ownsRow_lit (base := 0) (e := e) (size := u.size) w (a.eval x).cells 1 (Nat.zero_le _) (by simp [maxLen]) (by rw [hcl, Nat.one_mul])
                refine ⟨[cells], [B], by rw [hr, ← hce]; simpa using hlit, by simp [maxLen], fun g hg => ?_, DRow.one (hden.keep (fun b hb => ⟨hS b hb, heap_push_old w _ (hs.sub b hb).1⟩) fun b hb => heap_push_old w _ (hB1 b hb)) hBn', List.nodup_nil, fun b hb => ?_, fun f hf => by simp at hf⟩
                · rw [hr] at hg
                  simp only [Value.ownBlock, Option.some.injEq] at hg
                  exact hcb g (by rw [← hg]; exact List.mem_cons_self)
                · have hb' : b ∈ B := by simpa using hb
                  refine ⟨hcb b (List.mem_cons_of_mem _ hb'), ?_, ?_⟩
                  · rw [hr]
                    simp only [Value.ownBlock, ne_eq, Option.some.injEq]
                    have := hB1 b hb'
                    omega
                  · have := hB1 b hb'
                    rw [World.size_alloc]; omega
            · cases h
          · cases h
        · cases h
      · cases h
    · cases h
  · rename_i cl
    split at h
    · rename_i hcal
      split at h
      · rename_i x y t t' hargs hats
        split at h
        · rename_i htt
          have htt' : t = t' := by simpa using htt
          subst htt'
          split at h
          · cases h
          · rename_i e he
            have hu := elemOf_under he
            split at h
            · rename_i u x' y' ht hx hy
              split at h
              · rename_i hok
                split at h
                · rename_i k l r2 m hbase hsrc
                  split at h
                  · cases h
                  rename_i hkr
                  injection h with h; injection h with e1 h; injection h with e2 e3; subst e1 e2 e3
                  have hkr' : k ≠ some r2 := by simpa using hkr
                  obtain ⟨i, z, hi, his, hib, hz, hzs, hzd⟩ := elemOk_spec hok
                  obtain ⟨xs, A, hrx, hox, hgx, hAx⟩ := baseD_rep hbase hs (hs.val_ holds_nil hx)
                  obtain ⟨ys, B, hry, hoy, hgy, hBy⟩ := baseD_rep hsrc hs (hs.val_ holds_nil hy)
                  obtain ⟨ad, c', hv2, hc2, hm2, hg2⟩ := owns_form hoy
                  have hroom : l.length + m.length ≤ 1099511627776 := hob
                  have hyl : ys.flatten.length = m.length * u.size := by rw [dflat_length hry.width, hry.len]
                  obtain ⟨v', w', hrun, h2, h3, hdr, h4⟩ := run_append_at (P := P) 0 t ty e i z u.size i.bytes hu hi hz his rfl hzs u.size_pos _ _ _ hox ad m.length c' ys.flatten hyl
                    (by
                      by_cases hm0 : m.length = 0
                      · exact .inl hm0
                      · rcases hg2 with h0 | ⟨g, rfl⟩
                        · omega
                        · exact .inr ⟨_, rfl, fun j v hj => hoy.cells (g := g) (by rw [hv2]; rfl) j v hj⟩) hry.one_all (Nat.le_trans (Nat.mul_le_mul hroom hib) (by decide)) (by omega) (Nat.zero_le _)
                  have hdisj : ∀ b ∈ A.flatten, b ∉ B.flatten := fun b hb hb' => by
                    obtain ⟨⟨r1, e1, c1⟩, _⟩ := hAx b hb
                    obtain ⟨⟨r3, e3, c3⟩, _⟩ := hBy b hb'
                    rw [c1] at c3
                    injection c3 with c3
                    injection e3 with e3
                    exact hkr' (by rw [e1, c3, e3])
                  have hAB : DRow w G.S (deepE P e) u (l ++ m) [] (xs ++ ys) (A ++ B) := hrx.append hry hdisj
                  have hcolAB : ∀ b ∈ (A ++ B).flatten, (∃ q ∈ k.toList ++ [r2], G.col b = some q) ∧ b < w.heap.size ∧ (a.eval x).ownBlock ≠ some b := by
                    intro b hb
                    rw [List.flatten_append] at hb
                    rcases List.mem_append.1 hb with hb | hb
                    · obtain ⟨⟨r1, e1, c1⟩, n1, n2⟩ := hAx b hb
                      exact ⟨⟨r1, by rw [e1]; simp, c1⟩, n2, n1⟩
                    · obtain ⟨⟨r3, e3, c3⟩, n1, n2⟩ := hBy b hb
                      injection e3 with e3
                      subst e3
                      refine ⟨⟨r2, by simp, c3⟩, n2, fun e9 => ?_⟩
                      obtain ⟨r1, e1, c1⟩ := hgx b e9
                      rw [c3] at c1
                      injection c1 with c1
                      exact hkr' (by rw [e1, c1])
                  refine Exists.elim (hs.taken hd (T := k.toList ++ [r2]) (c := .deep e (deepE P e) u (l ++ m) []) (v' := v') h3 hdr (fun b hb => by
                      obtain ⟨r, e1, c1⟩ := hgx b hb
                      exact ⟨r, by rw [e1]; simp, c1⟩) (v'.ownBlock.toList ++ (A ++ B).flatten) (fun b hb => ?_) (fun G' hS hr hcb => ?_) (by
                      obtain ⟨ad2, c2, e2, _⟩ := owns_form h2
                      exact .inl ⟨_, _, _, e2⟩)) fun G' hh => ⟨v', w', G', ?_, hh.1, hh.2⟩
                  rotate_right
                  · skip
                    have ha' : cl.args = #[x, y] := by rw [← Array.toList_inj]; simpa using hargs
                    have ht' : cl.argTypes = #[t, t] := by rw [← Array.toList_inj]; simpa using hats
                    simp only [execOp, resolve, hcal, ha', ht', invoke, builtin, Sem.run_bind, Sem.run_pure, Result.andThen_ok, List.map_toArray, List.map_cons, List.map_nil]
                    rw [hv2, hrun]
                    rfl
                  · rcases List.mem_append.1 hb with hb | hb
                    · rcases h4 b (by simpa using hb) with h5 | h5
                      · obtain ⟨r, e1, c1⟩ := hgx b h5
                        exact .inl ⟨r, by rw [e1]; simp, c1⟩
                      · exact .inr h5
                    · exact .inl (hcolAB b hb).1
                  · have hkeep : ∀ b ∈ (A ++ B).flatten, w'.heap[b]? = w.heap[b]? := fun b hb => h3.block b (hcolAB b hb).2.1 (fun e9 => (hcolAB b hb).2.2 e9.symm)
                    have hSk : ∀ b, G.S b → G'.S b ∧ w'.heap[b]? = w.heap[b]? := fun b hb => ⟨hS b hb, h3.block b (hs.sub b hb).1 fun e9 => by
                      obtain ⟨r, e1, c1⟩ := hgx b e9.symm
                      exact (hs.colr _ _ c1).2.2 hb⟩
                    refine ⟨xs ++ ys, A ++ B, by rw [hr, List.flatten_append, List.length_append]; exact h2, by simp only [List.length_append, maxLen]; omega, fun g hg => ?_, hAB.keep hSk hkeep, List.nodup_nil, fun b hb => ⟨hcb b (List.mem_append_right _ hb), fun e9 => ?_, ?_⟩, fun f hf => by simp at hf⟩
                    · rw [hr] at hg
                      exact hcb g (List.mem_append_left _ (by rw [hg]; simp))
                    · rw [hr] at e9
                      rcases h4 b e9 with h5 | ⟨h5, _⟩
                      · exact (hcolAB b hb).2.2 h5
                      · have := (hcolAB b hb).2.1
                        omega
                    · have := (hcolAB b hb).2.1
                      have := h3.size
                      omega
                · cases h
              · cases h
            · cases h
        · cases h
      · cases h
    · cases h
  · cases h
theorem awl_made {o : Oper} {rest : List Oper} {d : Nat} {ob : Prop} {T : List Nat} {c : Con} (hg : o.guard = none) (hd : o.dst = some d) (hdn : decide (d < st.n) = true) (h : evalB P st o.op = some (ob, T, c)) (hob : ob)
    (hr : AWL M P ops rest Q (st.takenL d T c)) : AWL M P ops (o :: rest) Q st := by
  intro m w0 S0 G a w hs
  refine lwp_step fun K hK => ?_
  rw [if_pos (by simp [Region.wanted, hg])]
  obtain ⟨v, w', G', h1, _, h2⟩ := evalB_sound h hob hs (by simpa using hdn)
  refine upon_value' h1 ?_
  rw [hd]
  exact hK _ _ (hr _ _ _ _ _ _ h2)
end
end Dec
