/-
Stores into own blocks; append.
-/
import Derived.Test.YtljlpmfmfcljaaaDecH
set_option linter.unusedSimpArgs false
set_option linter.unusedVariables false
namespace Dec
open Go Go.RowKit
def St.upd (st : St) (r : Nat) (c : Con) : St := { st with hp := st.hp.map (fun e => if e.1 == r then (e.1, e.2.1, c) else e) }
def evalU (P : Program) (st : St) (op : Op) : Option (Nat × Con) :=
  match op with
  | .store t x y => match st.val [] x, st.val [] y with
    | some (.v (.c (.ptr r off))), some (.v z) => match st.con [] r, z.cls, aggSize P t with
      | some (.box cs), some xs, some (_, n) => if xs.length == n && decide (off + n ≤ cs.length) && xs.all (fun x => !x.isAny) then some (r, .box (cs.take off ++ xs ++ cs.drop (off + n))) else none
      | _, _, _ => none
    | some (.v (.c (.el r i sz))), some (.v z) => match st.con [] r, aggSize P t with
      | some (.arr e u l), some (_, n) => if n == u.size && sz == u.size then (match collV u z with
        | some y => some (r, .arr e u (l.set i y))
        | none => none) else none
      | _, _ => none
    | _, _ => none
  | _ => none
section
variable {P : Program} {w0 w : World} {S0 : Base} {G : Ghost} {st : St} {a : Act}
theorem holds_nil : Holds a [] := fun _ h => by simp at h
theorem SR.upd (h : SR w0 S0 G st a w) {r b : Nat} {c : Con} {vs : Array Value} (hb : G.col b = some r) (hc : ConRep (w.setRow b vs) G r c) : SR w0 S0 G (st.upd r c) a (w.setRow b vs) := by
  have hne : ∀ x, G.S x → x ≠ b := fun x hx e => by subst e; exact (h.colr _ _ hb).2.2 hx
  have hS : ∀ x, G.S x → G.S x ∧ (w.setRow b vs).heap[x]? = w.heap[x]? := fun x hx => ⟨hx, setRow_other w b x vs (hne x hx)⟩
  have hsz : (w.setRow b vs).heap.size = w.heap.size := by simp [World.setRow]
  refine ⟨?_, ?_, ?_, h.df.keep hS rfl, h.size, ?_, ?_⟩
  · refine h.below.trans ⟨Nat.le_refl _, rfl, rfl, rfl, by rw [hsz]; exact Nat.le_refl _, fun k hk hF => setRow_other w b k vs fun e => ?_⟩
    subst e
    rcases (h.colr _ _ hb).1 with h1 | h1
    · exact hF h1
    · omega
  · rw [hsz]; exact h.sub
  · rw [hsz]; exact h.colr
  · intro e he
    obtain ⟨h1, h2, h3⟩ := h.sl e he
    exact ⟨h1, fun hh => AVRep.keep (w := w) (G := G) hS (fun _ _ => rfl) (h2 hh), h3⟩
  · intro e he hh
    simp only [St.upd, List.mem_map] at he
    obtain ⟨e', he', rfl⟩ := he
    by_cases hr : e'.1 = r
    · simp only [hr, beq_self_eq_true, if_true] at hh ⊢
      exact hc
    · have hr' : (e'.1 == r) = false := by simpa using hr
      simp only [hr', Bool.false_eq_true, if_false] at hh ⊢
      exact ConRep.keep (w := w) (G := G) hS rfl (fun _ _ => rfl) (fun x hx => ⟨hx, setRow_other w b x vs (fun e => by subst e; rw [hb] at hx; injection hx with hx; exact hr hx.symm)⟩) (h.hp e' he' hh)
theorem take_splice (cur Y : List Value) (I N : Nat) (h1 : I + Y.length ≤ N) (h2 : N ≤ cur.length) :
    (cur.take I ++ Y ++ cur.drop (I + Y.length)).take N = (cur.take N).take I ++ Y ++ (cur.take N).drop (I + Y.length) := by
  have hl : (cur.take I ++ Y).length = I + Y.length := by simp; omega
  rw [List.take_append, hl, List.take_of_length_le (by omega), List.take_take, Nat.min_eq_left (by omega), List.drop_take]
theorem aggSize_size {t : TypeId} {b : Bool} {n : Nat} (h : aggSize P t = some (b, n)) (w : World) : (Go.sizeOf t).run P w = .ok n w := (aggSize_spec h w).2
theorem mv_row {r b : Nat} (hb : G.col b = some r) (vs : Array Value) : Mv [r] G w G (w.setRow b vs) := by
  refine ⟨by simp [World.setRow], fun k hk hx => setRow_other w b k vs (fun e => hx ?_), fun _ _ h => .inr (.inl h)⟩
  subst e
  exact ⟨r, by simp, hb⟩
theorem evalU_sound {o : Oper} {r : Nat} {c : Con} (h : evalU P st o.op = some (r, c)) (hs : SR w0 S0 G st a w) :
    ∃ w', (execOp a.eval o).run P w = .ok .skip w' ∧ Mv [r] G w G w' ∧ SR w0 S0 G (st.upd r c) a w' := by
  obtain ⟨dst, op, ty, pos, after, guard⟩ := o
  unfold evalU at h
  simp only at h
  split at h
  · rename_i t x y
    split at h
    · rename_i r' off z hx hy
      have hxr := hs.val_ holds_nil hx
      have hyr : V1Rep w G z (a.eval y) := hs.val_ holds_nil hy
      split at h
      · rename_i cs xs b n hcon hcls hag
        split at h
        · rename_i hck
          simp only [Bool.and_eq_true, beq_iff_eq, decide_eq_true_eq, List.all_eq_true, Bool.not_eq_true'] at hck
          obtain ⟨⟨hl, hle⟩, hany⟩ := hck
          injection h with h; injection h with e1 e2; subst e1 e2
          obtain ⟨b1, hr1, hv1⟩ := hxr
          obtain ⟨b2, vs, e, hr2, hcol, hb, hall⟩ := hs.con_ holds_nil hcon
          rw [hr1] at hr2
          injection hr2 with hr2; injection hr2 with hr2; injection hr2 with hr2 _; subst hr2
          have hyc := hyr.cells hcls
          have hlen := hyc.length
          have hlen2 := hall.length
          have h1 : ∀ v ∈ (a.eval y).cells.toList, v.oneCell' = true := fun v hv => by
            obtain ⟨x, hx, hxv⟩ := hyc.mem_right hv
            exact hxv.oneCell (hany x hx)
          have hst := run_storeCells_at P b1 off e (a.eval y).cells.toList 0 vs w hb (by simp at hlen2 hlen ⊢; omega) h1
          simp only [Nat.add_zero] at hst
          refine ⟨w.setRow b1 (vs.toList.take off ++ (a.eval y).cells.toList ++ vs.toList.drop (off + (a.eval y).cells.toList.length)).toArray, ?_, mv_row hcol _, hs.upd hcol ⟨b1, _, e, hr1, hcol, setRow_heap w b1 vs _ e _ hb, ?_⟩⟩
          · simp only [execOp, Instr.storeAt, hv1, Instr.sureAddr, Sem.run_bind, Sem.run_pure, Result.andThen_ok, storeVar, aggSize_size hag]
            rw [if_neg (by simp at hlen ⊢; omega)]
            rw [hst]
            rfl
          · have hS : ∀ x, G.S x → G.S x ∧ (w.setRow b1 (vs.toList.take off ++ (a.eval y).cells.toList ++ vs.toList.drop (off + (a.eval y).cells.toList.length)).toArray).heap[x]? = w.heap[x]? :=
              fun x hx => ⟨hx, setRow_other w b1 x _ (fun e => by subst e; exact (hs.colr _ _ hcol).2.2 hx)⟩
            refine All2.imp (fun x _ v hv => ClRep.keep (w := w) (G := G) hS (fun _ _ => rfl) hv) ?_
            have hn : (a.eval y).cells.toList.length = n := by omega
            rw [hn]
            exact ((hall.take off).append hyc).append (hall.drop (off + n))
        · cases h
      · cases h
    · rename_i r' i sz z hx hy
      have hxr := hs.val_ holds_nil hx
      have hyr : V1Rep w G z (a.eval y) := hs.val_ holds_nil hy
      split at h
      · rename_i e u l b n hcon hag
        split at h
        · rename_i hck
          simp only [Bool.and_eq_true, beq_iff_eq] at hck
          obtain ⟨hn, hsz⟩ := hck
          split at h
          · rename_i y' hy'
            injection h with h; injection h with e1 e2; subst e1 e2 hn hsz
            obtain ⟨g, m, c, hr1, him, hv1⟩ := hxr
            obtain ⟨xs, hxl, ho, hml, hg⟩ := hs.con_ holds_nil hcon
            have henc := collV_rep hy' hyr
            have hcl := Enc.length henc
            rw [hr1] at ho hg
            have hcol := hg g rfl
            rcases ho.2 with ⟨e0, _⟩ | ⟨g', cap, cur, e0, hb0, hb, hnc, hcm, hcs, htk⟩
            · cases e0
            · injection e0 with e0 e1 e2
              injection e0 with e0; injection e0 with e0 _
              subst e0 e1 e2
              have hfit : i * u.size + u.size ≤ l.length * u.size := by rw [← Nat.succ_mul]; exact Nat.mul_le_mul_right _ him
              have hcapfit : l.length * u.size ≤ c * u.size := Nat.mul_le_mul_right _ hnc
              have hst := run_storeCells_at P g (i * u.size) e (a.eval y).cells.toList 0 cur w hb (by rw [hcl, hcs]; omega) (Enc.one henc)
              simp only [Nat.add_zero] at hst
              have hS : ∀ x, G.S x → G.S x ∧ (w.setRow g (cur.toList.take (i * u.size) ++ (a.eval y).cells.toList ++ cur.toList.drop (i * u.size + (a.eval y).cells.toList.length)).toArray).heap[x]? = w.heap[x]? :=
                fun x hx => ⟨hx, setRow_other w g x _ (fun e => by subst e; exact (hs.colr _ _ hcol).2.2 hx)⟩
              have hset := EncL.set (fun _ _ hh => Enc.length hh) i y' _ hxl henc him
              refine ⟨w.setRow g (cur.toList.take (i * u.size) ++ (a.eval y).cells.toList ++ cur.toList.drop (i * u.size + (a.eval y).cells.toList.length)).toArray, ?_, mv_row hcol _, hs.upd hcol ⟨_, EncL.imp (fun _ _ hh => Enc.keep hS hh) hset, ?_, by simpa using hml, by rw [hr1]; exact hg⟩⟩
              · simp only [execOp, Instr.storeAt, hv1, Instr.sureAddr, Sem.run_bind, Sem.run_pure, Result.andThen_ok, storeVar, aggSize_size hag]
                rw [if_neg (by simp at hcl ⊢; omega)]
                rw [hst]
                rfl
              · rw [hr1]
                refine ⟨by rw [EncL.length (fun _ _ hh => Enc.length hh) hset], .inr ⟨g, c, _, by simp, hb0, setRow_heap w g cur _ e _ hb, by simpa using hnc, hcm, ?_, ?_⟩⟩
                · simp only [List.size_toArray, List.length_append, List.length_take, List.length_drop, Array.length_toList, hcl, hcs]
                  omega
                · simp only [List.length_set]
                  have hxs : xs.length = l.length * u.size := EncL.length (fun _ _ hh => Enc.length hh) hxl
                  have hcurl : cur.toList.length = c * u.size := by rw [Array.length_toList, hcs]
                  rw [← htk]
                  have hsp := take_splice cur.toList _ (i * u.size) (l.length * u.size) (by rw [hcl]; exact hfit) (by rw [hcurl]; exact hcapfit) 
                  rw [hcl] at hsp ⊢
                  exact hsp
          · cases h
        · cases h
      · cases h
    · cases h
  · cases h
end
end Dec
