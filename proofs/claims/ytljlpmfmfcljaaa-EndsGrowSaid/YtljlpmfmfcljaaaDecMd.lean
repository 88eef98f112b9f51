/-
In which frame code is carried out: a function's own, or a round's of a range over a function. The laws of the walk, for both.
-/
import Derived.WalkKit
import Derived.OrdersHeld
import Derived.OrdersIn
import Derived.TacticsIn
import Derived.LoopIn
import Derived.RangeFuncCalls
import Derived.RangeFuncLeaves
import Derived.RangeFuncRecord
set_option linter.unusedSimpArgs false
set_option linter.unusedVariables false
namespace Dec
open Go
abbrev Md := Option Nat
def Md.F : Md → Fence
  | none => Fence.wide
  | some l => Fence.wide.inRound l
theorem Md.fn (m : Md) (f : FuncId) : m.F.fn f := by cases m <;> trivial
theorem Md.depth (m : Md) : m.F.depth = none := by cases m <;> rfl
theorem Md.round (m : Md) : m.F.round = m := by cases m <;> rfl
abbrev cwp (m : Md) (P : Program) (c : Code) (Q : Exit → Act → World → Prop) (a : Act) (w : World) : Prop := c.wpIn m.F 0 P Q a w
abbrev lwp (m : Md) (P : Program) (ops : Array Oper) (Q : Exit → Act → World → Prop) (l : List Oper) (a : Act) (w : World) : Prop := wpListIn m.F 0 P ops Q l a w
abbrev owp (m : Md) (P : Program) (ops : Array Oper) (Q : Exit → Act → World → Prop) (i : Nat) (K : Act → World → Prop) (a : Act) (w : World) : Prop := wpOpIn m.F 0 P ops Q i K a w
section
variable {m : Md} {P : Program} {ops : Array Oper} {Q : Exit → Act → World → Prop} {a : Act} {w : World}
theorem upon_value {o : Oper} {K : Act → World → Prop} {v : Value} {w' : World} (hd : ∀ c, o.op ≠ .defer c) (hab : o.about P w a.eval = none) (h : (execOp a.eval o).run P w = .ok (.value v) w') (hK : K (a.put o.dst v) w') : o.wpIn m.F 0 P a w K Q :=
  ⟨fun f _ => m.fn f, by rw [m.round, Oper.semAt_eq _ _ _ hd, h]; exact hK⟩
theorem upon_value' {o : Oper} {K : Act → World → Prop} {v : Value} {w' : World} (h : (execOp a.eval o).run P w = .ok (.value v) w') (hK : K (a.put o.dst v) w') : o.wpIn m.F 0 P a w K Q := by
  have hd : ∀ c, o.op ≠ .defer c := by
    intro c e
    unfold execOp at h
    rw [e] at h
    simp only [Sem.run_bind] at h
    revert h
    cases (resolve a.eval c o.type).run P w <;> simp [Result.andThen]
  exact ⟨fun f _ => m.fn f, by rw [m.round, Oper.semAt_eq _ _ _ hd, h]; exact hK⟩
theorem upon_skip' {o : Oper} {K : Act → World → Prop} {w' : World} (h : (execOp a.eval o).run P w = .ok .skip w') (hK : K (a.put o.dst undef) w') : o.wpIn m.F 0 P a w K Q := by
  have hd : ∀ c, o.op ≠ .defer c := by
    intro c e
    unfold execOp at h
    rw [e] at h
    simp only [Sem.run_bind] at h
    revert h
    cases (resolve a.eval c o.type).run P w <;> simp [Result.andThen]
  exact ⟨fun f _ => m.fn f, by rw [m.round, Oper.semAt_eq _ _ _ hd, h]; exact hK⟩
theorem upon_enter' {o : Oper} {K : Act → World → Prop} {f : FuncId} {args : Array Value} {w' : World} (h : (execOp a.eval o).run P w = .ok (.enter f args) w')
    (hK : Calls P f args w' fun | .returned v, w'' => K (a.put o.dst v) w'' | .panicked chain, w'' => Q (.panic chain) a w'' | .outgrown, _ => LetsOut Q) : o.wpIn m.F 0 P a w K Q := by
  have hd : ∀ c, o.op ≠ .defer c := by
    intro c e
    unfold execOp at h
    rw [e] at h
    simp only [Sem.run_bind] at h
    revert h
    cases (resolve a.eval c o.type).run P w <;> simp [Result.andThen]
  refine ⟨fun f _ => m.fn f, ?_⟩
  rw [m.round, Oper.semAt_eq _ _ _ hd, h, Oper.uponIn_enter]
  refine ⟨fun hh => (by rw [m.depth] at hh; cases hh), ?_⟩
  have := callsIn_wide (n := 0 - 1) |>.2 hK
  cases m with
  | none => exact this
  | some l => exact CallsIn.inRound l this
theorem lwp_step {o : Oper} {rest : List Oper}
    (h : ∀ K : Act → World → Prop, (∀ a w, lwp m P ops Q rest a w → K a w) → if Region.wanted o (yielded ops a.tmps) then o.wpIn m.F 0 P a w K Q else K (a.put o.dst undef) w) : lwp m P ops Q (o :: rest) a w :=
  wpListIn_step fun K hK => by
    have := h K hK
    split
    · rename_i hw; rw [if_pos hw] at this; exact this
    · rename_i hw; rw [if_neg hw] at this; exact ⟨fun f _ => m.fn f, this⟩
theorem cwp_loop {c : Code} (I : Act → World → Prop) (h0 : I a w)
    (key : ∀ X : Act → World → Prop, (∀ a w, c.wpIn m.F 0 P (Exit.then X Q) a w → X a w) → X a w) : (Code.loop c).wpIn m.F 0 P Q a w := by
  intro b k cs hro hb hr
  have h := key (fun a w => ∃ e a' w', Q e a' w' ∧ ArrivesIn (Machine.fenced P m.F) P (lone (b.atR a (.code c :: .inLoop c :: k)) cs w) b k cs e a' w') ?_
  · obtain ⟨e, a', w', hq, harr⟩ := h
    exact ⟨e, a', w', hq, .of_steps (.one (fenced_calm hb hr rfl) stepR_loop) harr⟩
  · intro a w hw
    obtain ⟨e, a₁, w₁, hq, harr⟩ := hw b (.inLoop c :: k) cs hro hb hr
    cases e with
    | normal =>
      obtain ⟨e₂, a₂, w₂, hq₂, harr₂⟩ := hq
      exact ⟨e₂, a₂, w₂, hq₂, .of_steps (StepsIn.trans harr (.one (fenced_calm hb hr rfl) stepR_inLoop)) harr₂⟩
    | exit id => exact ⟨_, a₁, w₁, hq, .pass (x := .inLoop c) rfl (fun _ _ => .inl (by simp)) harr⟩
    | goto l => exact ⟨_, a₁, w₁, hq, .pass (x := .inLoop c) rfl (fun _ _ => .inl (by simp)) harr⟩
    | ret => exact ⟨_, a₁, w₁, hq, .pass (x := .inLoop c) rfl (fun _ _ => .inl (by simp)) harr⟩
    | panic ch => exact ⟨_, a₁, w₁, hq, .pass (x := .inLoop c) rfl (fun _ _ => .inl (by simp)) harr⟩
    | outgrown => exact ⟨_, a₁, w₁, hq, .pass (x := .inLoop c) rfl (fun _ _ => .inl (by simp)) harr⟩
/-! ### regions that draw their order -/
theorem owp_mono {i : Nat} {K K' : Act → World → Prop} (h : ∀ a w, K a w → K' a w) (hh : owp m P ops Q i K a w) : owp m P ops Q i K' a w := wpOpIn_mono h hh
theorem YieldsIf.owp {S : World → Prop} {i : Nat} {o : Oper} {v : Value} (hi : ops[i]? = some o) (hy : YieldsIf P ops S o v a)
    {K : Act → World → Prop} (hS : S w) (h : K (a.put o.dst v) w) : owp m P ops Q i K a w := by
  unfold Dec.owp wpOpIn
  simp only [hi]
  rcases hy with ⟨hw, hv⟩ | ⟨hw, rfl⟩
  · simp only [hw, if_true]; exact upon_value' (hv w hS) h
  · simp only [hw, Bool.false_eq_true, if_false]; exact ⟨fun f _ => m.fn f, h⟩
theorem owp_putIf {S : World → Prop} {j : Nat} {oi oj : Oper} {v : Value} (hj : ops[j]? = some oj) (hap : oi.apart ops oj = true)
    (hsi : ∀ cs b, oi.op ≠ .select cs b) (hsj : ∀ cs b, oj.op ≠ .select cs b) (hnd : ∀ c, oj.op ≠ .defer c)
    (hQ : ∀ c a w, Q (.panic c) (a.put oi.dst v) w → Q (.panic c) a w) {K : Act → World → Prop}
    (hy : YieldsIf P ops S oi v a) (h : owp m P ops Q j K (a.put oi.dst v) w) :
    owp m P ops Q j (fun a' w' => YieldsIf P ops S oi v a' ∧ K (a'.put oi.dst v) w') a w := by
  obtain ⟨h1, h2, h3⟩ := Oper.apart_spec hap
  have keep : ∀ (a : Act), YieldsIf P ops S oi v a → ∀ u, YieldsIf P ops S oi v (a.put oj.dst u) := fun a hy u =>
    hy.of_same (execOp_put oi hsi a oj.dst u h3) (wanted_put oi a oj.dst u h3)
  have keepD : ∀ d, YieldsIf P ops S oi v { a with defers := d :: a.defers } := fun d => hy.of_same rfl rfl
  unfold owp wpOpIn at *
  simp only [hj] at *
  rw [wanted_put oj a oi.dst v h1, about_put oj w a oi.dst v h1] at h
  split
  · rename_i hw
    simp only [hw, if_true] at h
    unfold Oper.wpIn at *
    rw [about_put oj w a oi.dst v h1] at h
    refine ⟨h.1, ?_⟩
    have h := h.2
    rw [m.round, Oper.semAt_eq _ _ _ hnd, execOp_put oj hsj a oi.dst v h1] at h
    rw [m.round, Oper.semAt_eq _ _ _ hnd]
    generalize (execOp a.eval oj).run P w = r at *
    cases r with
    | ok x w' =>
      cases x <;> simp only [Oper.uponIn] at h ⊢
      case value u => exact ⟨keep a hy u, by rw [← Act.put_comm a v u h2]; exact h⟩
      case skip => exact ⟨keep a hy _, by rw [← Act.put_comm a v undef h2]; exact h⟩
      case defer d =>
        refine ⟨keep _ (keepD d) _, ?_⟩
        rw [← Act.put_comm _ v undef h2, ← Act.put_defers]
        exact h
      case enter f args =>
        refine ⟨h.1, CallsIn.mono h.2 fun e w'' he => ?_⟩
        cases e with
        | returned u => exact ⟨keep a hy u, by rw [← Act.put_comm a v u h2]; exact he⟩
        | panicked c => exact hQ _ _ _ he
        | outgrown => exact he
      case row row args => exact ⟨h.1, RowsIn.mono h.2 fun u w'' he => ⟨keep a hy u, by rw [← Act.put_comm a v u h2]; exact he⟩⟩
      case round l f tmps assign body =>
        refine ⟨h.1, RoundIn.mono h.2 fun e w'' he => ?_⟩
        cases e with
        | returned u => exact ⟨keep a hy u, by rw [← Act.put_comm a v u h2]; exact he⟩
        | panicked c => exact hQ _ _ _ he
        | outgrown => exact he
    | halt x w' =>
      cases x <;> simp only [Oper.uponIn] at h ⊢
      case panic u => exact hQ _ _ _ h
  · rename_i hw
    simp only [hw] at h
    exact ⟨h.1, keep a hy _, by rw [← Act.put_comm a v undef h2]; exact h.2⟩
def awpH (m : Md) (P : Program) (ops : Array Oper) (Q : Exit → Act → World → Prop) (S : World → Prop) : Nat → Array Bool → Act → World → Prop
  | 0, listed, a, w => Region.ready .any ops listed = [] ∧ Q .normal a w
  | fuel + 1, listed, a, w =>
    (Region.ready .any ops listed = [] → Q .normal a w) ∧
    ∀ i ∈ Region.ready .any ops listed, owp m P ops Q i (fun a' w' => S w' ∧ awpH m P ops Q S fuel (listed.setIfInBounds i true) a' w') a w
theorem any_of_held {S : World → Prop} : ∀ (fuel : Nat) (listed : Array Bool) (a : Act) (w : World), awpH m P ops Q S fuel listed a w → wpAnyIn m.F 0 P .any ops Q fuel listed a w
  | 0, _, _, _, h => h
  | fuel + 1, _, _, _, h => ⟨h.1, fun i hi => wpOpIn_mono (fun a' w' h' => any_of_held fuel _ a' w' h'.2) (h.2 i hi)⟩
theorem awpH_first {S : World → Prop} {i : Nat} {oi : Oper} {v : Value} (hi : ops[i]? = some oi) (hsel : ∀ (j : Nat) (o : Oper) cs b, ops[j]? = some o → o.op ≠ .select cs b)
    (hnd : ∀ (j : Nat) (o : Oper) c, ops[j]? = some o → o.op ≠ .defer c)
    (hQ : ∀ c a w, Q (.panic c) (a.put oi.dst v) w → Q (.panic c) a w) :
    ∀ (fuel : Nat) (listed : Array Bool) (a : Act) (w : World),
      (∀ j oj, ops[j]? = some oj → j ≠ i → listed.getD j true = false → (∀ e ∈ oj.after, Region.binds .any e = true → e.on ≠ i) → oi.apart ops oj = true) →
      i ∈ Region.ready .any ops listed → YieldsIf P ops S oi v a → S w →
      awpH m P ops Q S fuel (listed.setIfInBounds i true) (a.put oi.dst v) w → awpH m P ops Q S (fuel + 1) listed a w := by
  intro fuel
  induction fuel with
  | zero =>
    intro listed a w _ hr hy hS H
    refine ⟨fun h => (by rw [h] at hr; cases hr), fun j hj => ?_⟩
    by_cases hji : j = i
    · subst hji; exact YieldsIf.owp hi hy hS ⟨hS, H⟩
    · have := ready_mono hj hji
      rw [H.1] at this
      cases this
  | succ fuel ih =>
    intro listed a w hfree hr hy hS H
    refine ⟨fun h => (by rw [h] at hr; cases hr), fun j hj => ?_⟩
    by_cases hji : j = i
    · subst hji; exact YieldsIf.owp hi hy hS ⟨hS, H⟩
    · have h1 := H.2 j (ready_mono hj hji)
      obtain ⟨hjun, oj, hoj, hall⟩ := mem_ready.1 hj
      have hnot : ∀ e ∈ oj.after, Region.binds .any e = true → e.on ≠ i := fun e he hb heq => by
        have h1 := hall e he hb
        have h0 := (mem_ready.1 hr).1
        rw [heq] at h1
        rcases Nat.lt_or_ge i listed.size with h' | h'
        · simp [h'] at h0 h1; rw [h0] at h1; cases h1
        · simp [Array.getElem?_eq_none h'] at h1
      have h2 := owp_putIf hoj (hfree j oj hoj hji hjun hnot) (fun cs b => hsel i oi cs b hi) (fun cs b => hsel j oj cs b hoj) (fun c => hnd j oj c hoj) hQ hy h1
      have hfree' : ∀ k ok, ops[k]? = some ok → k ≠ i → (listed.setIfInBounds j true).getD k true = false →
          (∀ e ∈ ok.after, Region.binds .any e = true → e.on ≠ i) → oi.apart ops ok = true := fun k ok hk hki hun hno => by
        refine hfree k ok hk hki ?_ hno
        by_cases hjk : j = k
        · subst hjk; exact hjun
        · rw [getD_set_ne true hjk] at hun; exact hun
      refine owp_mono (fun a' w' h3 => ⟨h3.2.1, ih (listed.setIfInBounds j true) a' w' hfree' (ready_mono hr (Ne.symm hji)) h3.1 h3.2.1 ?_⟩) h2
      rw [Array.setIfInBounds_comm _ _ hji]
      exact h3.2.2
def noDefer (ops : Array Oper) : Bool := ops.toList.all fun o => match o.op with | .defer _ => false | _ => true
theorem noDefer_spec (h : noDefer ops = true) (j : Nat) (o : Oper) (c : Call) (ho : ops[j]? = some o) : o.op ≠ .defer c := by
  intro e
  have := List.all_eq_true.1 h o (by rw [← Array.getElem?_toList] at ho; exact List.mem_of_getElem? ho)
  rw [e] at this
  cases this
def plainOps (ops : Array Oper) : Bool := Region.noSelect ops && noDefer ops
theorem awpH_take {S : World → Prop} {i : Nat} {oi : Oper} {v : Value} {fuel : Nat} {listed : Array Bool} (hi : ops[i]? = some oi)
    (hs : plainOps ops = true) (hf : Region.free .any ops listed i = true) (hr : (Region.ready .any ops listed).contains i = true)
    (hQ : ∀ c a w, Q (.panic c) (a.put oi.dst v) w → Q (.panic c) a w) (hy : YieldsIf P ops S oi v a) (hS : S w)
    (h : awpH m P ops Q S fuel (listed.setIfInBounds i true) (a.put oi.dst v) w) : awpH m P ops Q S (fuel + 1) listed a w := by
  simp only [plainOps, Bool.and_eq_true] at hs
  exact awpH_first hi (Region.noSelect_spec hs.1) (noDefer_spec hs.2) hQ fuel listed a w (Region.free_spec hi hf) (by simpa using hr) hy hS h
theorem awpH_all {S : World → Prop} {rs : List Nat} {fuel : Nat} {listed : Array Bool} (hr : Region.ready .any ops listed = rs) (hne : rs ≠ [])
    (h : ∀ i ∈ rs, owp m P ops Q i (fun a' w' => S w' ∧ awpH m P ops Q S fuel (listed.setIfInBounds i true) a' w') a w) : awpH m P ops Q S (fuel + 1) listed a w :=
  ⟨fun h0 => absurd (hr ▸ h0) hne, hr ▸ h⟩
theorem awpH_done {S : World → Prop} {listed : Array Bool} (hr : Region.ready .any ops listed = []) (h : Q .normal a w) :
    ∀ fuel, awpH m P ops Q S fuel listed a w
  | 0 => ⟨hr, h⟩
  | _ + 1 => ⟨fun _ => h, by rw [hr]; simp⟩
theorem cwp_region_held {S : World → Prop} {id : Nat} (hm : P.follows .mixedOrders = true)
    (h : awpH m P ops Q S ops.size (Array.replicate ops.size false) a { w with drawn := w.drawn + 1 }) : (Code.region id ops true).wpIn m.F 0 P Q a w :=
  wpIn_region_any hm (any_of_held _ _ _ _ h)
theorem awpH_weaken {S S' : World → Prop} (hS : ∀ w, S w → S' w) : ∀ (fuel : Nat) (listed : Array Bool) (a : Act) (w : World), awpH m P ops Q S fuel listed a w → awpH m P ops Q S' fuel listed a w
  | 0, _, _, _, h => h
  | fuel + 1, listed, a, w, ⟨h1, h2⟩ => ⟨h1, fun i hi => owp_mono (fun a' w' hh => ⟨hS _ hh.1, awpH_weaken hS fuel _ _ _ hh.2⟩) (h2 i hi)⟩
/-! ### a function that leaves with marks among its deferred calls -/
def mark (r : Nat) : Deferred := { target := .collected r, args := #[] }
def shutAll : List Nat → World → World
  | [], w => w
  | r :: rs, w => shutAll rs (w.putObj r (.deferred none))
theorem shutAll_size : ∀ (rs : List Nat) (w : World), (shutAll rs w).heap.size = w.heap.size
  | [], _ => rfl
  | r :: rs, w => by rw [shutAll, shutAll_size rs, World.putObj_size]
theorem shutAll_other : ∀ {rs : List Nat} {w : World} {k : Nat}, k ∉ rs → (shutAll rs w).heap[k]? = w.heap[k]?
  | [], _, _, _ => rfl
  | r :: rs, w, k, h => by
    simp only [List.mem_cons, not_or] at h
    rw [shutAll, shutAll_other h.2, World.putObj_heap_other h.1]
theorem shutAll_rest : ∀ (rs : List Nat) (w : World), (shutAll rs w).drawn = w.drawn ∧ (shutAll rs w).os = w.os ∧ (shutAll rs w).tape = w.tape ∧ (shutAll rs w).output = w.output
  | [], _ => ⟨rfl, rfl, rfl, rfl⟩
  | r :: rs, w => by
    obtain ⟨h1, h2, h3, h4⟩ := shutAll_rest rs (w.putObj r (.deferred none))
    exact ⟨h1, h2, h3, h4⟩
theorem leaves_marks {fn : Func} {tmps : Array Value} {R : Ending → World → Prop} : ∀ (rs : List Nat) (w : World), rs.Nodup → (∀ r ∈ rs, w.heap[r]? = some (.deferred (some []))) →
    LeavesIn Fence.wide 0 P fn tmps R [] .returning (shutAll rs w) → LeavesInM Fence.wide 0 P fn tmps R (rs.map mark) .returning w
  | [], w, _, _, h => h
  | r :: rs, w, hn, hr, h => by
    rw [List.nodup_cons] at hn
    refine ⟨by simp, .inl ⟨r, _, rfl, run_takeDeferred (hr r (by simp)), leaves_marks rs _ hn.2 (fun q hq => ?_) h⟩⟩
    rw [World.putObj_heap_other (by intro e; subst e; exact hn.1 hq)]
    exact hr q (by simp [hq])
theorem calls_of_body {f : FuncId} {fn : Func} {c : Code} {args : Array Value} {R : Ending → World → Prop} {QQ : Exit → Act → World → Prop} (hf : P.funcs[f]? = some fn) (hb : fn.body = some c)
    (h : cwp none P c QQ { tmps := args ++ Array.replicate (fn.ntmps - args.size) undef, defers := [] } w)
    (hq : ∀ e a' w', QQ e a' w' → (e = .normal ∨ e = .ret) ∧ ∃ rs : List Nat, a'.defers = rs.map mark ∧ rs.Nodup ∧ (∀ r ∈ rs, w'.heap[r]? = some (.deferred (some []))) ∧
      ∃ v, (results fn a'.tmps).run P (shutAll rs w') = .ok v (shutAll rs w') ∧ R (.returned v) (shutAll rs w')) : Calls P f args w R := by
  refine (callsIn_wide (n := 0)).1 (callsIn_of_wp_marks (F := Fence.wide) hf hb trivial (Go.wpIn_mono h ?_))
  intro e a' w' hqq
  obtain ⟨he, rs, hd, hn, hr, v, hv, hR⟩ := hq e a' w' hqq
  have key : LeavesInM Fence.wide 0 P fn a'.tmps R a'.defers .returning w' := by
    rw [hd]
    refine leaves_marks rs w' hn hr ?_
    exact ⟨v, hv, hR⟩
  rcases he with rfl | rfl <;> exact key
end
end Dec
