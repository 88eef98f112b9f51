/-
A range over an own map: the iterator is an own block (Con.mit); which entry comes next nobody knows.
-/
import Derived.Test.YtfchgkifdfgbmaaDecRh
import Derived.Maps.RangeRun
set_option linter.unusedSimpArgs false
set_option linter.unusedVariables false
namespace Dec
open Go Go.RowKit
open Go.ChangeMaps (setBlock)
section
variable {M : Md → Prop} {P : Program} {w0 w : World} {S0 : Base} {G : Ghost} {st : St} {a : Act} {ops : Array Oper} {Q : XE → St → Prop}
def St.dropHp (st : St) (r : Nat) : St := { st with hp := st.hp.filter fun e => !(e.1 == r) }
theorem SR.dropHp (h : SR w0 S0 G st a w) (r : Nat) : SR w0 S0 G (st.dropHp r) a w :=
 ⟨h.below, h.sub, h.colr, h.df, h.size, h.sl, fun e he hh => h.hp e (List.mem_filter.1 he).1 hh⟩
theorem slot_eval (h : SR w0 S0 G st a w) {t : Nat} {x : AV} (ht : t < st.n) (hx : lk st.sl t = some ([], x)) : AVRep w G x (a.eval (.tmp t)) := by
 have h2 := (h.sl _ (lk_mem hx)).2.1 holds_nil
 rwa [slotV_in (by rw [h.size]; exact ht)] at h2
theorem entries_len {α β : Type} {R : α → β → Prop} : ∀ {l : List α} {m : List β}, All2 R l m → l.length = m.length
 | [], [], _ => rfl
 | _ :: _, _ :: _, h => by simp [entries_len h.2]
theorem all2_get {α β : Type} {R : α → β → Prop} : ∀ {l : List α} {m : List β} {i : Nat} {y : β}, All2 R l m → m[i]? = some y → ∃ x, l[i]? = some x ∧ R x y
 | [], [], _, _, _, h => by simp at h
 | x :: l, z :: m, 0, y, h, hy => by simp at hy; subst hy; exact ⟨x, rfl, h.1⟩
 | x :: l, z :: m, i + 1, y, h, hy => by
  obtain ⟨x', h1, h2⟩ := all2_get (l := l) (m := m) (i := i) (y := y) h.2 (by simpa using hy)
  exact ⟨x', by simpa using h1, h2⟩
theorem awl_range {o : Oper} {rest : List Oper} {tt kk vv : TypeId} {t d q r : Nat} {k v : Ty} {l : List (k.T × v.T)} (hg : o.guard = none) (hd : o.dst = some d) (ho : o.op = .range tt (.tmp t)) (hu : P.underlying tt = some (.map kk vv))
  (hc : (decide (d < st.n) && decide (t < st.n) && !(q == r)) = true) (hx : lk st.sl t = some ([], .v (.c (.own q)))) (hq : lk st.hp q = some ([], .dict k v l))
  (h : AWL M P ops rest Q (((st.purge r).own r [] (.mit (.own q) l.length [])).put d [] (.v (.c (.ptr r 0))))) : AWL M P ops (o :: rest) Q st := by
 intro m w0 S0 G a w hs
 simp only [Bool.and_eq_true, decide_eq_true_eq, Bool.not_eq_true', beq_eq_false_iff_ne] at hc
 obtain ⟨⟨hdn, htn⟩, hqr⟩ := hc
 have hv := slot_eval hs htn hx
 obtain ⟨hv1, _⟩ : ClRep w G (.own q) (a.eval (.tmp t)) := hv
 obtain ⟨g, es, ck, h1, h2, h3, h4, h5, h6⟩ := hs.hp _ (lk_mem hq) holds_nil
 have hlen : l.length = es.size := by rw [entries_len h4]; simp
 refine lwp_step fun K hK => ?_
 rw [if_pos (by simp [Region.wanted, hg])]
 have hrun : (execOp a.eval o).run P w = .ok (.value (.pointer (some ⟨w.heap.size, 0, none⟩))) (w.alloc (.mapIter (some g) ck #[] ck)) := by
  simp only [execOp, ho, hv1]
  rw [show G.rho q = .map (some g) from h1]
  simp only [Sem.run_bind, run_range_map w tt kk vv g es ck hu h3]
  rfl
 refine upon_value' hrun ?_
 rw [hd]
 have s1 := hs.alloc r (.mapIter (some g) ck #[] ck) (.pointer (some ⟨w.heap.size, 0, none⟩))
 have hrho : (G.new r w.heap.size (.pointer (some ⟨w.heap.size, 0, none⟩))).rho r = .pointer (some ⟨w.heap.size, 0, none⟩) := by simp [Ghost.new]
 have s2 := s1.own (r := r) (p := []) (c := .mit (.own q) l.length []) (fun _ => by
  refine ⟨w.heap.size, g, hrho, by simp [Ghost.new], ?_, ?_, .inr ⟨g, rfl⟩⟩
  ·rw [heap_push_new, hlen, h5]
  ·have : (G.new r w.heap.size (.pointer (some ⟨w.heap.size, 0, none⟩))).rho q = G.rho q := by simp [Ghost.new, hqr]
   rw [this]; exact h1.symm)
 have s3 := s2.put (i := d) (p := []) (x := .v (.c (.ptr r 0))) (v := .pointer (some ⟨w.heap.size, 0, none⟩)) hdn rfl (fun _ => ⟨w.heap.size, hrho, rfl⟩) (fun hn => absurd holds_nil hn)
 exact hK _ _ (h _ _ _ _ _ _ s3)
theorem awl_next {o : Oper} {rest : List Oper} {t d q r n : Nat} {seen : List Nat} {k v : Ty} {l : List (k.T × v.T)} (hg : o.guard = none) (hd : o.dst = some d) (ho : o.op = .next (.tmp t) false) (hc : (decide (d < st.n) && decide (t < st.n)) = true)
  (hx : lk st.sl t = some ([], .v (.c (.ptr r 0)))) (hr : lk st.hp r = some ([], .mit (.own q) n seen)) (hq : lk st.hp q = some ([], .dict k v l)) (hn : n = l.length)
  (h1 : ∀ i, i < l.length → i ∉ seen → AWL M P ops rest Q (((st.dropHp r).own r [] (.mit (.own q) n (seen ++ [i]))).put d [] (.tup [.c (.p .bool true), .c .any, .c .any])))
  (h2 : (∀ i, i < l.length → i ∈ seen) → AWL M P ops rest Q (st.put d [] (.tup [.c (.p .bool false)]))) : AWL M P ops (o :: rest) Q st := by
 intro m w0 S0 G a w hs
 simp only [Bool.and_eq_true, decide_eq_true_eq] at hc
 obtain ⟨hdn, htn⟩ := hc
 subst hn
 have hv := slot_eval hs htn hx
 obtain ⟨b0, hb0, hv0⟩ : ClRep w G (.ptr r 0) (a.eval (.tmp t)) := hv
 obtain ⟨g, es, ck, k1, k2, k3, k4, k5, k6⟩ := hs.hp _ (lk_mem hq) holds_nil
 obtain ⟨b, g', j1, j2, j3, j4⟩ := hs.hp _ (lk_mem hr) holds_nil
 have hbb : b0 = b := by
  have := hb0.symm.trans j1
  simpa using this
 subst hbb
 have hgg : g' = g := by
  have : (Value.map (some g') : Value) = .map (some g) := j4.1.trans k1
  simpa using this
 subst hgg
 have hlen : l.length = es.size := by rw [entries_len k4]; simp
 refine lwp_step fun K hK => ?_
 rw [if_pos (by simp [Region.wanted, hg])]
 have hold : ∀ x ∈ es.toList, x.born < l.length := by
  intro x hx
  obtain ⟨i, hi, e⟩ := List.mem_iff_getElem.1 hx
  have hi' : i < es.size := by simpa using hi
  have := k6 i x (by rw [Array.getElem?_eq_getElem hi']; simpa using e)
  omega
 rcases run_next_at (P := P) w o.type b0 g' l.length l.length seen.toArray es ck j3 k3 hold (Nat.le_refl _) with ⟨hz, hrun⟩ | ⟨e, he, w1, hw1, hrun⟩
 ·have hex : (execOp a.eval o).run P w = .ok (.value (.tuple #[.bool false])) w := by
   simp only [execOp, ho, hv0, Sem.run_bind, hrun]
   rfl
  refine upon_value' hex ?_
  rw [hd]
  have hall : ∀ i, i < l.length → i ∈ seen := by
   intro i hi
   have hi' : i < es.size := by omega
   have hb := k6 i es[i] (Array.getElem?_eq_getElem hi')
   have hnil : (leftOf es seen.toArray) = #[] := Array.eq_empty_of_size_eq_zero hz
   by_cases hm : i ∈ seen
   ·exact hm
   ·exfalso
    have : es[i] ∈ leftOf es seen.toArray := by
     unfold leftOf
     rw [Array.mem_filter]
     exact ⟨Array.getElem_mem hi', by rw [hb]; simpa using hm⟩
    rw [hnil] at this
    simp at this
  have s3 := hs.put (i := d) (p := []) (x := .tup [.c (.p .bool false)]) (v := .tuple #[.bool false]) hdn rfl (fun _ => ⟨[.bool false], rfl, rfl, trivial⟩) (fun hn => absurd holds_nil hn)
  exact hK _ _ (h2 hall _ _ _ _ _ _ s3)
 ·have hex : (execOp a.eval o).run P w = .ok (.value (.tuple #[.bool true, e.key, e.val])) (setBlock w1 b0 (.mapIter (some g') l.length (seen.toArray.push e.born) ck)) := by
   simp only [execOp, ho, hv0, Sem.run_bind, hrun]
   rfl
  refine upon_value' hex ?_
  rw [hd]
  have hmem : e ∈ es ∧ e.born ∉ seen := by
   have : e ∈ leftOf es seen.toArray := by simpa using he
   unfold leftOf at this
   rw [Array.mem_filter] at this
   exact ⟨this.1, by simpa using this.2⟩
  obtain ⟨i, hi, hei⟩ := Array.mem_iff_getElem.1 hmem.1
  have hborn : e.born = i := k6 i e (by rw [Array.getElem?_eq_getElem hi, hei])
  rw [hborn] at hmem ⊢
  have s0 : SR w0 S0 G st a w1 := by
   rcases hw1 with rfl | rfl
   ·exact hs
   ·exact hs.drew
  have hb1 : w1.heap = w.heap := by rcases hw1 with rfl | rfl <;> rfl
  have hcr := hs.colr b0 r j2
  have s1 := (s0.dropHp r).putObj (l := b0) (o := .mapIter (some g') l.length (seen.toArray.push i) ck) (hcr.1.symm) hcr.2.2 (fun e he h => by
   have h7 := (List.mem_filter.1 he).2
   rw [j2] at h
   simp only [Option.some.injEq] at h
   simp [← h] at h7)
  have s2 := s1.own (r := r) (p := []) (c := .mit (.own q) l.length (seen ++ [i])) (fun _ => by
   refine ⟨b0, g', j1, j2, ?_, j4⟩
   rw [World.putObj_heap_same (by rw [hb1]; exact hcr.2.1), show l.length = ck by omega]
   simp)
  have s3 := s2.put (i := d) (p := []) (x := .tup [.c (.p .bool true), .c .any, .c .any]) (v := .tuple #[.bool true, e.key, e.val]) hdn rfl (fun _ => ⟨[.bool true, e.key, e.val], rfl, rfl, trivial, trivial, trivial⟩) (fun hn => absurd holds_nil hn)
  exact hK _ _ (h1 i (by omega) hmem.2 _ _ _ _ _ _ s3)
theorem awl_entry {o : Oper} {rest : List Oper} {t d q r n i : Nat} {seen : List Nat} {k v : Ty} {l : List (k.T × v.T)} (z : k.T × v.T) (hg : o.guard = none) (hd : o.dst = some d) (ho : o.op = .entry (.tmp t)) (hc : (decide (d < st.n) && decide (t < st.n)) = true)
  (hx : lk st.sl t = some ([], .v (.c (.ptr r 0)))) (hr : lk st.hp r = some ([], .mit (.own q) n (seen ++ [i]))) (hq : lk st.hp q = some ([], .dict k v l)) (hn : n = l.length) (hi : i < l.length)
  (h : AWL M P ops rest Q (st.put d [] (.tup [toV1 k (l.getD i z).1, toV1 v (l.getD i z).2]))) : AWL M P ops (o :: rest) Q st := by
 intro m w0 S0 G a w hs
 simp only [Bool.and_eq_true, decide_eq_true_eq] at hc
 obtain ⟨hdn, htn⟩ := hc
 subst hn
 have hv := slot_eval hs htn hx
 obtain ⟨b0, hb0, hv0⟩ : ClRep w G (.ptr r 0) (a.eval (.tmp t)) := hv
 obtain ⟨g, es, ck, k1, k2, k3, k4, k5, k6⟩ := hs.hp _ (lk_mem hq) holds_nil
 obtain ⟨b, g', j1, j2, j3, j4⟩ := hs.hp _ (lk_mem hr) holds_nil
 have hbb : b0 = b := by
  have := hb0.symm.trans j1
  simpa using this
 subst hbb
 have hgg : g' = g := by
  have : (Value.map (some g') : Value) = .map (some g) := j4.1.trans k1
  simpa using this
 subst hgg
 have hlen : l.length = es.size := by rw [entries_len k4]; simp
 have hi' : i < es.size := by omega
 have hb := k6 i es[i] (Array.getElem?_eq_getElem hi')
 refine lwp_step fun K hK => ?_
 rw [if_pos (by simp [Region.wanted, hg])]
 have hnd : (es.toList.map (·.born)).Nodup := by
  have e : es.toList.map (·.born) = List.range es.size := by
   apply List.ext_getElem?
   intro j
   by_cases hj : j < es.size
   ·have := k6 j es[j] (Array.getElem?_eq_getElem hj)
    simp [hj, this]
   ·simp [hj]
  rw [e]; exact List.nodup_range
 have hent := run_entry_at (P := P) w b0 g' l.length seen.toArray es ck es[i] (by rw [j3, hb, show ck = l.length by omega]; simp) k3 (by simp) hnd
 have hex : (execOp a.eval o).run P w = .ok (.value (.tuple #[es[i].key, es[i].val])) w := by
  simp only [execOp, ho, hv0, Sem.run_bind, hent]
  rfl
 refine upon_value' hex ?_
 rw [hd]
 obtain ⟨x, hx1, ⟨c1, e1, e2⟩, c2, e3, e4⟩ := all2_get k4 (show es.toList[i]? = some es[i] by simp [hi'])
 have hxe : l.getD i z = x := by rw [List.getD_eq_getElem?_getD, hx1]; rfl
 have s3 := hs.put (i := d) (p := []) (x := .tup [toV1 k (l.getD i z).1, toV1 v (l.getD i z).2]) (v := .tuple #[es[i].key, es[i].val]) hdn rfl (fun _ => ⟨[es[i].key, es[i].val], rfl, by rw [hxe, e2]; exact toV1_rep e1, by rw [hxe, e4]; exact toV1_rep e3, trivial⟩) (fun hn => absurd holds_nil hn)
 exact hK _ _ (h _ _ _ _ _ _ s3)
end
end Dec
