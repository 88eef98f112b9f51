/-
The end of a drawn region with a turn of the state's words. A call whose body is walked in place: the caller's slots stand behind the callee's own.
-/
import Derived.Test.YtljlpmfmfcljaaaDecV
set_option linter.unusedSimpArgs false
set_option linter.unusedVariables false
namespace Dec
open Go Go.RowKit
variable {M : Md → Prop}
end Dec
namespace Dec
open Go Go.RowKit
variable {M : Md → Prop}
def capV1 : Cap → V1
  | .pt r off => .c (.ptr r off)
  | .ad d => .c (.ad d.1 d.2)
  | .no => .c .any
def inlCallee (st : St) (c : Call) : Option (FuncId × List V1) :=
  match c.callee with
  | .value (.func f) => some (f, [])
  | .value (.tmp i) => match st.get [] i with
    | some (.v (.c (.fn f caps))) => some (f, caps.map fun d => .c (.ad d.1 d.2))
    | some (.v (.c (.cl f caps))) => some (f, caps.map capV1)
    | _ => none
  | _ => none
def inlArgs (st : St) : List Operand → Option (List V1)
  | [] => some []
  | x :: r => match st.val [] x, inlArgs st r with
    | some (.v y), some l => some (y :: l)
    | _, _ => none
def inSl (m d : Nat) : List (Nat × Path × AV) → List (Nat × Path × AV)
  | [] => []
  | (i, [], x) :: r => if m ≤ i && i != m + d then (i - m, [], x) :: inSl m d r else inSl m d r
  | (_, _ :: _, _) :: r => inSl m d r
def flatHp : List (Nat × Path × Con) → List (Nat × Path × Con)
  | [] => []
  | (r, [], c) :: l => (r, [], c) :: flatHp l
  | (_, _ :: _, _) :: l => flatHp l
def St.back (st0 : St) (m d : Nat) (st' : St) (av : AV) : St := ⟨st0.n, (d, [], av) :: inSl m d st'.sl, flatHp st'.hp⟩
def Ghost.only (G : Ghost) (D : List Nat) : Ghost := { G with col := fun b => match G.col b with | some q => if q ∈ D then some q else none | none => none }
section
variable {P : Program} {w0 w : World} {S0 : Base} {G : Ghost} {st : St} {a : Act} {ops : Array Oper} {Q : XE → St → Prop} {D : List Nat}
theorem inlArgs_rep (hs : SR w0 S0 G st a w) : ∀ {xs : List Operand} {l : List V1}, inlArgs st xs = some l → All2 (V1Rep w G) l (xs.map a.eval)
  | [], l, h => by simp only [inlArgs] at h; injection h with h; subst h; trivial
  | x :: r, l, h => by
    simp only [inlArgs] at h
    split at h
    · rename_i y l' h1 h2
      injection h with h
      subst h
      exact ⟨hs.val_ holds_nil h1, inlArgs_rep hs h2⟩
    · cases h
theorem caps_v1 {caps : List Cap} {vs : List Value} (h : All2 (CapRep w G) caps vs) : All2 (V1Rep w G) (caps.map capV1) vs := by
  refine All2.map_left (R := CapRep w G) ?_ h
  intro x v hx
  cases x with
  | pt r off => exact hx
  | ad d => exact hx
  | no => trivial
theorem capsAd_v1 {caps : List Dat} {vs : List Value} (h : All2 (fun (d : Dat) u => AdRep w G.S d.1 d.2 u) caps vs) : All2 (V1Rep w G) (caps.map fun d => V1.c (.ad d.1 d.2)) vs := by
  refine All2.map_left (R := fun (d : Dat) u => AdRep w G.S d.1 d.2 u) ?_ h
  intro x v hx
  exact hx
theorem inl_enter {l cl : List V1} {f : FuncId} {c : Call} {o : Oper} (hs : SR w0 S0 G st a w) (ho : o.op = .call c) (hcal : inlCallee st c = some (f, cl)) (hf : FnOk P f) (hargs : inlArgs st c.args.toList = some l) :
    ∃ vs : List Value, (execOp a.eval o).run P w = .ok (.enter f vs.toArray) w ∧ All2 (V1Rep w G) (l ++ cl) vs := by
  have hr := inlArgs_rep hs hargs
  unfold inlCallee at hcal
  split at hcal
  · rename_i g hc
    injection hcal with hcal; injection hcal with e1 e2; subst e1 e2
    refine ⟨c.args.toList.map a.eval, ?_, by simpa using hr⟩
    unfold execOp
    simp only [ho, resolve, hc, Act.eval, Deferred.ofValue, invoke, Sem.run_bind, Sem.run_pure, Result.andThen_ok]
    rw [hf]
    congr 2
    apply Array.ext'
    simp
  · rename_i i hc
    split at hcal
    · rename_i g caps hget
      injection hcal with hcal; injection hcal with e1 e2; subst e1 e2
      obtain ⟨cvs, hv, hcv⟩ := hs.get_ holds_nil hget
      refine ⟨c.args.toList.map a.eval ++ cvs, ?_, hr.append (capsAd_v1 hcv)⟩
      unfold execOp
      simp only [ho, resolve, hc, Act.eval, hv, Deferred.ofValue, invoke, Sem.run_bind, Sem.run_pure, Result.andThen_ok]
      rw [hf]
      congr 2
      apply Array.ext'
      simp
    · rename_i g caps hget
      injection hcal with hcal; injection hcal with e1 e2; subst e1 e2
      obtain ⟨cvs, hv, hcv⟩ := hs.get_ holds_nil hget
      refine ⟨c.args.toList.map a.eval ++ cvs, ?_, hr.append (caps_v1 hcv)⟩
      unfold execOp
      simp only [ho, resolve, hc, Act.eval, hv, Deferred.ofValue, invoke, Sem.run_bind, Sem.run_pure, Result.andThen_ok]
      rw [hf]
      congr 2
      apply Array.ext'
      simp
    · cases hcal
  · cases hcal
end
end Dec
