/-
Short words for what turns deep rows. append onto a view that begins inside a row of one's own (a queue): it goes on in place, or elsewhere; nobody knows which.
-/
import Derived.Test.YtckghdhnmpnljaaDecAb
import Derived.Test.YtckghdhnmpnljaaDecDe
import Derived.ArgAppend
set_option linter.unusedSimpArgs false
set_option linter.unusedVariables false
namespace Dec
open Go Go.RowKit
section
variable {M : Md → Prop} {P : Program} {st : St} {ops : Array Oper} {Q : XE → St → Prop} {D : List Nat}
abbrev Rec (D : List Nat) (C : List (Nat × Nat)) : Bool := C.all fun c => !D.contains c.1 || D.contains c.2
theorem lop {l : List Oper} (s q : Nat) (T : List Nat) {ob : Prop} {st' : St} {C : List (Nat × Nat)} (h : st.openD s q T = some (ob, st', C)) (hob : ob) (hr : AWL M P ops l Q st') : AWL M P ops l Q st := awl_turn (trn_open h hob) hr
theorem dop {done : List Nat} (s q : Nat) (T : List Nat) {ob : Prop} {st' : St} {C : List (Nat × Nat)} (h : st.openD s q T = some (ob, st', C)) (hC : Rec D C = true) (hob : ob) (hr : AWD M P ops D done Q st') : AWD M P ops D done Q st := awd_turn (trn_open h hob) hC hr
theorem lai {l : List Oper} (s q : Nat) {ob : Prop} {st' : St} {C : List (Nat × Nat)} (h : st.aimD s q = some (ob, st', C)) (hob : ob) (hr : AWL M P ops l Q st') : AWL M P ops l Q st := awl_turn (trn_aim h hob) hr
theorem dai {done : List Nat} (s q : Nat) {ob : Prop} {st' : St} {C : List (Nat × Nat)} (h : st.aimD s q = some (ob, st', C)) (hC : Rec D C = true) (hob : ob) (hr : AWD M P ops D done Q st') : AWD M P ops D done Q st := awd_turn (trn_aim h hob) hC hr
theorem lcl {l : List Oper} (r q : Nat) (same : Bool) {ob : Prop} {st' : St} {C : List (Nat × Nat)} (h : st.closeD r q same = some (ob, st', C)) (hob : ob) (hr : AWL M P ops l Q st') : AWL M P ops l Q st := awl_turn (trn_close h hob) hr
theorem dcl {done : List Nat} (r q : Nat) (same : Bool) {ob : Prop} {st' : St} {C : List (Nat × Nat)} (h : st.closeD r q same = some (ob, st', C)) (hC : Rec D C = true) (hob : ob) (hr : AWD M P ops D done Q st') : AWD M P ops D done Q st := awd_turn (trn_close h hob) hC hr
theorem cfd {c : Code} (r : Nat) {ob : Prop} {st' : St} {C : List (Nat × Nat)} (h : st.freezeD r = some (ob, st', C)) (hob : ob) (hr : AW M P c Q st') : AW M P c Q st := aw_turn (trn_freeze h hob) hr
theorem lmk {o : Oper} {rest : List Oper} (d : Nat) (T : List Nat) (c : Con) {ob : Prop} (hg : o.guard = none) (hd : o.dst = some d) (hdn : decide (d < st.n) = true) (h : evalB P st o.op = some (ob, T, c)) (hob : ob)
    (hr : AWL M P ops rest Q (st.takenL d T c)) : AWL M P ops (o :: rest) Q st := awl_made hg hd hdn h hob hr
end
end Dec
namespace Dec
open Go Go.RowKit
section
variable {M : Md → Prop} {P : Program} {w0 w : World} {S0 : Base} {G : Ghost} {st st' : St} {a : Act} {ops : Array Oper} {Q : XE → St → Prop}
theorem run_append_view_room (t ty e : TypeId) (i : TypeInfo) (ht : P.underlying t = some (.slice e)) (hi : P.info? e = some i) (g off n c : Nat) (cur : Array Value) (hg : w.heap[g]? = some (.cells cur e (0, 0)))
    (ad : Addr) (m c2 : Nat) (news : List Value) (hl : news.length = m * i.size) (hnews : ∀ j u, news[j]? = some u → w.cell? (ad.add j) = some u) (h1 : ∀ u ∈ news, u.oneCell' = true) (hroom : n + m ≤ c) (hfit : off + n * i.size + news.length ≤ cur.size) :
    (Builtin.append_ #[t, t] ty #[.slice (some ⟨g, off, none⟩) n c, .slice (some ad) m c2]).run P w = .ok (.slice (some ⟨g, off, none⟩) (n + m) c) (w.setRow g (cur.toList.take (off + n * i.size) ++ news ++ cur.toList.drop (off + n * i.size + news.length)).toArray) := by
  have hfc := run_firstCells_some (P := P) w i.size m ad m c2 news hl hnews
  have hst := run_storeCells_at P g (off + n * i.size) e news 0 cur w hg (by omega) h1
  simp only [Nat.add_zero] at hst
  simp [Builtin.append_, run_underlying ht, Go.sizeOf, typeInfo, hi, Builtin.lenOf, hroom, hfc, Addr.add_lit, hst]
theorem put_put {a : Act} {d : Nat} {v v2 : Value} : (a.put (some d) v).put (some d) v2 = a.put (some d) v2 := by
  simp [Act.put]
def St.viewed (st : St) (d r : Nat) (e : TypeId) (u : Ty) (L : List u.T) (lo n sz : Nat) : St := (st.takenL d [r] (.arr e u L)).put d [] (.v (.c (.vw d lo n sz)))
theorem awl_vapp {o : Oper} {rest : List Oper} {x y : Operand} {t : TypeId} {cl : Call} (d r : Nat) (e : TypeId) (u : Ty) (L : List u.T) (lo n : Nat) (m : List u.T) {X : AV} (hg : o.guard = none) (hd : o.dst = some d) (hdn : decide (d < st.n) = true)
    (ho : o.op = .call cl) (hcal : cl.callee = .builtin .append) (hargs : cl.args = #[x, y]) (hats : cl.argTypes = #[t, t]) (he : elemOf P t = some e) (hok : elemOk P e u = true)
    (hx : st.val [] x = some (.v (.c (.vw r lo n u.size)))) (hcon : st.con [] r = some (.arr e u L)) (hy : st.val [] y = some X) (hsrc : srcOf st [] u X = some m)
    (hob : lo + n = L.length ∧ roomN (L.length + m.length))
    (h : ∀ (L' : List u.T) (lo' : Nat), L'.drop lo' = L.drop lo ++ m → lo' + (n + m.length) = L'.length → L'.length ≤ L.length + m.length → AWL M P ops rest Q (st.viewed d r e u L' lo' (n + m.length) u.size)) : AWL M P ops (o :: rest) Q st := by
  intro md w0 S0 G a w hs
  obtain ⟨hlo, hroom⟩ := hob
  refine lwp_step fun K hK => ?_
  rw [if_pos (by simp [Region.wanted, hg])]
  have hu := elemOf_under he
  obtain ⟨inf, z, hi, his, hib, hz, hzs, hzd⟩ := elemOk_spec hok
  obtain ⟨ad, len, cap, c, a', hr, hl, hnc, hcap, hv, ha', hg0⟩ := hs.val_ holds_nil hx
  obtain ⟨xs, hxl, hown, hml, hcol⟩ := hs.con_ holds_nil hcon
  obtain ⟨sad, sc, hv2, hsr⟩ := src_rep hsrc hs holds_nil (hs.val_ holds_nil hy)
  obtain ⟨ys, hyl, hcells⟩ : ∃ ys, EncL (Enc w G.S u) m ys ∧ (m.length = 0 ∨ ∃ a1, sad = some a1 ∧ ∀ j v, ys[j]? = some v → w.cell? (a1.add j) = some v) := by
    rcases hsr with h0 | ⟨a1, ys, h1, h2, h3⟩
    · have : m = [] := List.eq_nil_of_length_eq_zero h0
      subst this
      exact ⟨[], rfl, .inl rfl⟩
    · exact ⟨ys, h2, .inr ⟨a1, h1, h3⟩⟩
  have hlen : len = L.length := by
    obtain ⟨ad2, c2, e2, _⟩ := owns_form hown
    rw [hr] at e2
    injection e2
  subst hlen
  have hxsl : xs.length = L.length * u.size := EncL.length (fun _ _ hh => Enc.length hh) hxl
  have hysl : ys.length = m.length * u.size := EncL.length (fun _ _ hh => Enc.length hh) hyl
  have hyso := EncL.one (fun _ _ hh => Enc.one hh) hyl
  have hrm : L.length + m.length ≤ 1099511627776 := hroom
  have hdn' : d < st.n := by simpa using hdn
  -- how it ends
  have fin : ∀ (L' : List u.T) (lo' : Nat) (rv v2 : Value) (w' : World) (row : Option Nat) (zs : List Value), L'.drop lo' = L.drop lo ++ m → lo' + (n + m.length) = L'.length → L'.length ≤ L.length + m.length →
      (Builtin.append_ #[t, t] o.type #[a.eval x, a.eval y]).run P w = .ok v2 w' → w.grownBy w' row → w.drawn ≤ w'.drawn → (∀ b, row = some b → G.col b = some r) → EncL (Enc w G.S u) L' zs → w'.ownsRow 0 e u.size rv L'.length zs →
      (∀ b, rv.ownBlock = some b → G.col b = some r ∨ (b = w.heap.size ∧ w.heap.size < w'.heap.size)) → (∃ a0 cp cc a1, rv = .slice a0 L'.length cp ∧ n + m.length ≤ cc ∧ lo' + cc = cp ∧ v2 = .slice a1 (n + m.length) cc ∧ ((cc = 0 ∧ lo' ≠ 0) ∨ a1 = a0.map (·.add (lo' * u.size))) ∧ (cp = 0 ∨ ∃ g, a0 = some ⟨g, 0, none⟩)) →
      o.wpIn md.1.F 0 P a w K (QC w0 S0 Q) := by
    intro L' lo' rv v2 w' row zs hL hlo' hle hrun hgr hdr hrow hzs' hown' hblk hvw
    obtain ⟨a0, cp, cc, a1, k1, k2, k3, k4, k5, k6⟩ := hvw
    have hSk : ∀ b, G.S b → w'.heap[b]? = w.heap[b]? := fun b hb => hgr.block b (hs.sub b hb).1 fun e9 => (hs.colr _ _ (hrow b e9.symm)).2.2 hb
    obtain ⟨G', hmv, hG⟩ := hs.taken hdn' (T := [r]) (c := .arr e u L') (v' := rv) hgr hdr (fun b hb => ⟨r, by simp, hrow b hb⟩) rv.ownBlock.toList (fun b hb => (hblk b (by simpa using hb)).imp (fun h9 => ⟨r, by simp, h9⟩) id) (fun G' hS hr' hcb => ⟨zs, EncL.imp (fun _ _ hh => Enc.keep (fun b hb => ⟨hS b hb, hSk b hb⟩) hh) hzs', by rw [hr']; exact hown', by simp only [maxLen]; omega, fun g hg => hcb g (by rw [hr'] at hg; simp [hg])⟩) (.inl ⟨_, _, _, k1⟩)
    have hrho : G'.rho d = rv := by
      obtain ⟨e9, _⟩ : ClRep w' G' (.own d) rv := by
        have := (hG.sl (d, [], .v (.c (.own d))) List.mem_cons_self).2.1 holds_nil
        rw [slotV_put_same (by rw [hs.size]; exact hdn')] at this
        exact this
      exact e9.symm
    have h9 := hG.put (i := d) (p := []) (x := .v (.c (.vw d lo' (n + m.length) u.size))) (v := v2) (by show d < (st.purgeL [r]).n; rw [purgeL_n]; exact hdn') rfl (fun _ => ⟨a0, L'.length, cp, cc, a1, by rw [hrho]; exact k1, by omega, k2, k3, k4, k5, k6⟩) (fun hn => absurd holds_nil hn)
    rw [put_put] at h9
    have hex : (execOp a.eval o).run P w = .ok (.value v2) w' := by
      simp only [execOp, ho, resolve, hcal, hargs, hats, invoke, builtin, Sem.run_bind, Sem.run_pure, Result.andThen_ok, List.map_toArray, List.map_cons, List.map_nil]
      rw [hrun]
      rfl
    refine upon_value' hex ?_
    rw [hd]
    exact hK _ _ (h L' lo' hL hlo' hle _ _ _ _ _ _ h9)
  have hv1 : a.eval x = .slice a' n c := hv
  by_cases hm0 : m.length = 0
  · have hmn : m = [] := List.eq_nil_of_length_eq_zero hm0
    subst hmn
    refine fin L lo (G.rho r) (a.eval x) w none xs (by simp) (by simp; omega) (by simp) ?_ ⟨rfl, rfl, rfl, Nat.le_refl _, fun _ _ _ => rfl⟩ (Nat.le_refl _) (fun b hb => by cases hb) hxl hown (fun b hb => .inl (hcol b hb)) ⟨ad, cap, c, a', hr, by simpa using hnc, hcap, by simpa using hv1, ha', hg0⟩
    rw [hv1, hv2]
    cases sad <;> cases a' <;> simp [Builtin.append_, run_underlying hu, Go.sizeOf, typeInfo, hi, Builtin.lenOf, Builtin.firstCells, hnc, loadCells, loadCellsFrom, storeCells]
  · obtain ⟨a1, rfl, hnews⟩ := hcells.resolve_left hm0
    by_cases hfit : n + m.length ≤ c
    · -- in place
      have hc0 : cap ≠ 0 := by omega
      obtain ⟨g, rfl⟩ := hg0.resolve_left hc0
      have ha2 : a' = some ⟨g, lo * u.size, none⟩ := by
        rcases ha' with ⟨h0, _⟩ | h0
        · omega
        · rw [h0]; simp [addr_add]
      subst ha2
      rw [hr] at hown
      rcases hown.2 with ⟨e0, _⟩ | ⟨g', cap', cur, e0, hb0, hb, hnc', hcm, hcs, htk⟩
      · cases e0
      injection e0 with e0 e1 e2
      injection e0 with e0; injection e0 with e0 _
      subst e0 e2
      have hcg : G.col g = some r := hcol g (by rw [hr]; rfl)
      have hcapm : (L.length + m.length) * u.size ≤ cap * u.size := Nat.mul_le_mul_right _ (by omega)
      have hsplit : L.length * u.size = lo * u.size + n * u.size := by rw [← hlo, Nat.add_mul]
      have hsum : (L.length + m.length) * u.size = L.length * u.size + m.length * u.size := Nat.add_mul _ _ _
      have hrun := run_append_view_room (P := P) (w := w) t o.type e inf hu hi g (lo * u.size) n c cur hb a1 m.length sc ys (by rw [hysl, his]) hnews hyso hfit (by rw [his, hysl, hcs]; omega)
      refine fin (L ++ m) lo (.slice (some ⟨g, 0, none⟩) (L.length + m.length) cap) (.slice (some ⟨g, lo * u.size, none⟩) (n + m.length) c) (w.setRow g (cur.toList.take (lo * u.size + n * inf.size) ++ ys ++ cur.toList.drop (lo * u.size + n * inf.size + ys.length)).toArray) (some g) (xs ++ ys) (by rw [List.drop_append_of_le_length (by omega)]) (by simp; omega) (by simp) (by rw [hv1, hv2]; exact hrun) ⟨rfl, rfl, rfl, by simp [World.setRow], fun k _ hk => setRow_other w g k _ (fun e9 => hk (by simp [e9]))⟩ (Nat.le_refl _) (fun b hb9 => by injection hb9 with hb9; rw [← hb9]; exact hcg) (hxl.append hyl) ?_ (fun b hb9 => .inl (by simp only [Value.ownBlock, Option.some.injEq] at hb9; rw [← hb9]; exact hcg)) ⟨some ⟨g, 0, none⟩, cap, c, some ⟨g, lo * u.size, none⟩, by simp, hfit, hcap, by simp, .inr (by simp [addr_add]), .inr ⟨g, rfl⟩⟩
      rw [List.length_append]
      refine ⟨by rw [List.length_append, hxsl, hysl, hsum], .inr ⟨g, cap, _, rfl, hb0, setRow_heap w g cur _ e _ hb, by omega, hcm, ?_, ?_⟩⟩
      · rw [his, hysl]
        simp only [List.size_toArray, List.length_append, List.length_take, List.length_drop, Array.length_toList, hysl, hcs]
        omega
      · rw [his, hysl]
        have e1 : lo * u.size + n * u.size = L.length * u.size := hsplit.symm
        rw [e1, htk]
        have e2 : (xs ++ ys).length = (L.length + m.length) * u.size := by rw [List.length_append, hxsl, hysl, hsum]
        rw [← e2]
        exact List.take_left
    · -- elsewhere
      have hnb : ∀ b, G.S b → b < w.heap.size := fun b hb => (hs.sub b hb).1
      have hdropl : (L.drop lo ++ m).length = n + m.length := by rw [List.length_append, List.length_drop]; omega
      have hcl : (xs.drop (lo * u.size)).length = n * u.size := by rw [List.length_drop, hxsl, ← hlo, Nat.add_mul]; omega
      have hdxl : EncL (Enc w G.S u) (L.drop lo) (xs.drop (lo * u.size)) := EncL.drop (fun _ _ hh => Enc.length hh) lo hxl
      have hbytes : (n + m.length) * inf.bytes ≤ 140737488355328 := by
        have h2 : (n + m.length) * inf.bytes ≤ 1099511627776 * 128 := Nat.mul_le_mul (by omega) hib
        omega
      have grow : ∃ v' w', (Builtin.append_ #[t, t] o.type #[.slice a' n c, .slice (some a1) m.length sc]).run P w = .ok v' w' ∧ w'.ownsRow w.heap.size e u.size v' (n + m.length) (xs.drop (lo * u.size) ++ ys) ∧ w.grownBy w' none ∧ w.drawn ≤ w'.drawn ∧ w.heap.size < w'.heap.size ∧ v'.ownBlock = some w.heap.size := by
        cases a' with
        | none =>
          have hc0 : c = 0 := by
            rcases ha' with ⟨h0, _⟩ | h0
            · exact h0
            · rcases hg0 with h1 | ⟨g, rfl⟩
              · omega
              · simp at h0
          have hn0 : n = 0 := by omega
          subst hc0 hn0
          have hr2 := run_append_nil (P := P) w t o.type e inf z hu hi hz a1 m.length sc ys (by rw [hysl, his]) hnews (by omega) (by omega) (by simp only [Nat.zero_add] at hbytes; omega)
          have hx0 : xs.drop (lo * u.size) = [] := List.eq_nil_of_length_eq_zero (by omega)
          have h3 := run_append_own (P := P) w w.heap.size t o.type e inf z u.size inf.bytes hu hi hz his rfl hzs u.size_pos (.slice none 0 0) 0 [] (World.ownsRow_nil _ _ _ _) a1 m.length sc ys hysl hnews hyso (by simp only [maxLen]; omega) (by simpa using hbytes) (Nat.le_refl _)
          obtain ⟨v', w', k1, k2, k3, _⟩ := h3
          rw [hr2] at k1
          injection k1 with e1 e2
          subst e1 e2
          refine ⟨_, _, hr2, by rw [hx0]; simpa using k2, ⟨rfl, rfl, rfl, by simp, fun k hk _ => heap_alloc_old w.drew _ hk⟩, Nat.le_succ _, by simp, rfl⟩
        | some b =>
          have holds : ∀ j v, (xs.drop (lo * u.size))[j]? = some v → w.cell? (b.add j) = some v := by
            intro j v hj
            by_cases hc0 : c = 0
            · have hn0 : n = 0 := by omega
              have : (xs.drop (lo * u.size)) = [] := List.eq_nil_of_length_eq_zero (by rw [hcl, hn0, Nat.zero_mul])
              rw [this] at hj
              simp at hj
            · rcases ha' with ⟨h0, _⟩ | h0
              · exact absurd h0 hc0
              · rcases hg0 with h1 | ⟨g, rfl⟩
                · omega
                · simp only [Option.map_some, addr_add, Nat.zero_add, Option.some.injEq] at h0
                  subst h0
                  rw [List.getElem?_drop] at hj
                  have := hown.cells (g := g) (by rw [hr]; rfl) _ v hj
                  rw [addr_add, Nat.zero_add] at this
                  rw [addr_add]
                  exact this
          have hr2 := run_append_grow (P := P) w t o.type e inf z hu hi hz b n c (xs.drop (lo * u.size)) (by rw [hcl, his]) holds a1 m.length sc ys (by rw [hysl, his]) hnews (by omega) (by omega) (growslice_fits (by omega) hbytes)
          obtain ⟨v', w', k1, k2, k3⟩ := run_append_arg_grows (P := P) w t o.type e inf z u.size inf.bytes hu hi hz his rfl hzs u.size_pos b n c (xs.drop (lo * u.size)) hcl holds a1 m.length sc ys hysl hnews (by omega) (by simp only [maxLen]; omega) hbytes
          rw [hr2] at k1
          injection k1 with e1 e2
          subst e1 e2
          exact ⟨_, _, hr2, k2, k3, Nat.le_succ _, by simp, rfl⟩
      obtain ⟨v', w', k1, k2, k3, k4, k5, k6⟩ := grow
      obtain ⟨ad2, c2, f1, f2, f3, f4⟩ := owns_form k2
      have hown2 : w'.ownsRow 0 e u.size v' (L.drop lo ++ m).length (xs.drop (lo * u.size) ++ ys) := by
        rw [hdropl]
        refine ⟨k2.1, ?_⟩
        rcases k2.2 with h9 | ⟨g, cp, cur, q1, q2, q3⟩
        · exact .inl h9
        · exact .inr ⟨g, cp, cur, q1, Nat.zero_le _, q3⟩
      refine fin (L.drop lo ++ m) 0 v' v' w' none (xs.drop (lo * u.size) ++ ys) (by simp) (by rw [hdropl]; omega) (by rw [hdropl]; omega) (by rw [hv1, hv2]; exact k1) k3 k4 (fun b hb => by cases hb) (hdxl.append hyl) hown2 (fun b hb => .inr ⟨by rw [k6] at hb; injection hb with hb; exact hb.symm, k5⟩) ⟨ad2, c2, c2, ad2, by rw [hdropl]; exact f1, f2, by omega, f1, .inr (by cases ad2 <;> simp [Addr.add]), f4⟩
def St.viewD (st : St) (i : Nat) : Option (Prop × St × List (Nat × Nat)) :=
  match st.get [] i with
  | some (.v (.c (.own r))) => match st.con [] r with
    | some (.arr _ t l) => if decide (i < st.n) then some (True, st.put i [] (.v (.c (.vw r 0 l.length t.size))), []) else none
    | _ => none
  | _ => none
theorem trn_view {C : List (Nat × Nat)} {i : Nat} {ob : Prop} (h : st.viewD i = some (ob, st', C)) (hob : ob) : Trn st st' C := by
  intro w0 S0 G a w hs
  unfold St.viewD at h
  split at h
  · rename_i r hg
    split at h
    · rename_i e t l hcon
      split at h
      · rename_i hi
        have hi' : i < st.n := by simpa using hi
        injection h with h; injection h with e1 h; injection h with e2 e3; subst e1 e2 e3
        obtain ⟨hv, _⟩ := hs.get_ holds_nil hg
        obtain ⟨xs, hx, ho, hm, hcl⟩ := hs.con_ holds_nil hcon
        obtain ⟨ad, c, hf, h1, h2, h3⟩ := owns_form ho
        have h9 := hs.put (i := i) (p := []) (x := .v (.c (.vw r 0 l.length t.size))) (v := a.tmps.getD i undef) hi' rfl (fun _ => ⟨ad, l.length, c, c, ad, hf, by omega, h1, by omega, by rw [hv]; exact hf, .inr (by cases ad <;> simp [Addr.add]), h3⟩) (fun hn => absurd holds_nil hn)
        rw [put_same (by rw [hs.size]; exact hi')] at h9
        exact ⟨G, h9, fun b z hz => .inl hz⟩
      · cases h
    · cases h
  · cases h
theorem cvw {c : Code} (i : Nat) {ob : Prop} {st' : St} {C : List (Nat × Nat)} (h : st.viewD i = some (ob, st', C)) (hob : ob) (hr : AW M P c Q st') : AW M P c Q st := aw_turn (trn_view h hob) hr
end
end Dec
