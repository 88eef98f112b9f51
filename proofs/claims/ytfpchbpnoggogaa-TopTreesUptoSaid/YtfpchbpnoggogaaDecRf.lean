/-
  Ranges over functions: a loop's body under contract, a call of yield, and the statement.
-/
import Derived.Test.YtfpchbpnoggogaaDecAb
import Derived.RangeFuncIn
set_option linter.unusedSimpArgs false
set_option linter.unusedVariables false
namespace Dec
open Go Go.RowKit
variable {M : Md → Prop}
def LYCalls (P : Program) (r0 : Nat) (D B : List Nat) (hp0 : Hp) (args : List V1) (K : AV → Hp → Prop) : Prop :=
 ∀ (w : World) (G : Ghost) (vs : List Value), (∀ b, G.S b → b < w.heap.size) → (∀ b r, G.col b = some r → b < w.heap.size ∧ ¬ G.S b) → (∀ e ∈ hp0, ConRep w G e.1 e.2.2) → All2 (V1Rep w G) args vs →
  ∀ l, G.rho r0 = .func (.yield l) #[] #[] → YieldAt Fence.wide 0 P l vs.toArray w fun en w' => ∃ v G' av hp', en = .returned v ∧ Fr (Xof D G) w.heap.size w w' ∧ (∀ b, G'.S b → b < w'.heap.size ∧ (G.S b ∨ w.heap.size ≤ b ∨ Xof D G b)) ∧
   (∀ b r, G'.col b = some r → (Xof D G b ∨ w.heap.size ≤ b) ∧ b < w'.heap.size ∧ ¬ G'.S b) ∧ (∀ r ∈ B, G'.rho r = G.rho r) ∧ AVRep w' G' av v ∧ okHp D hp' = true ∧ (∀ e ∈ hp', ConRep w' G' e.1 e.2.2) ∧ K av hp'
section
variable {P : Program} {w0 w : World} {S0 : Base} {G : Ghost} {st : St} {a : Act} {ops : Array Oper} {Q : XE → St → Prop}
theorem upon_round' {m : Md} {QQ : Exit → Act → World → Prop} {o : Oper} {K : Act → World → Prop} {l fn : Nat} {tmps : Array Value} {assign body : Code} {w' : World} (h : (execOp a.eval o).run P w = .ok (.round l fn tmps assign body) w')
  (hK : RoundIn Fence.wide 0 P l fn tmps assign body w' fun | .returned v, w'' => K (a.put o.dst v) w'' | .panicked chain, w'' => QQ (.panic chain) a w'' | .outgrown, _ => LetsOut QQ) : o.wpIn m.F 0 P a w K QQ := by
 have hd : ∀ c, o.op ≠ .defer c := by
  intro c e
  unfold execOp at h
  rw [e] at h
  simp only [Sem.run_bind] at h
  revert h
  cases (resolve a.eval c o.type).run P w <;> simp [Result.andThen]
 refine ⟨fun f _ => m.fn f, ?_⟩
 rw [m.round, Oper.semAt_eq _ _ _ hd, h, Oper.uponIn_round]
 refine ⟨fun hh => (by rw [m.depth] at hh; cases hh), ?_⟩
 cases m with
 | none => exact hK
 | some l' => exact hK
def yldCallee (st : St) (c : Call) : Option Nat :=
 match c.callee with
 | .value (.tmp i) => match st.get [] i with
  | some (.v (.c (.yv r))) => some r
  | _ => none
 | _ => none
theorem yld_enter {l : List V1} {r0 : Nat} {c : Call} {o : Oper} (hs : SR w0 S0 G st a w) (ho : o.op = .call c) (hcal : yldCallee st c = some r0) (hargs : inlArgs st c.args.toList = some l) :
  ∃ (vs : List Value) (y : Nat), G.rho r0 = .func (.yield y) #[] #[] ∧ (execOp a.eval o).run P w = (Instr.yield y vs.toArray).run P w ∧ All2 (V1Rep w G) l vs := by
 have hr := inlArgs_rep hs hargs
 unfold yldCallee at hcal
 split at hcal
 ·rename_i i hc
  split at hcal
  ·rename_i r hget
   injection hcal with hcal
   subst hcal
   obtain ⟨hv, y, hy⟩ := hs.get_ holds_nil hget
   refine ⟨c.args.toList.map a.eval, y, by rw [← hv, hy], ?_, hr⟩
   unfold execOp
   simp only [ho, resolve, hc, Act.eval, hy, Deferred.ofValue, invoke, Sem.run_bind, Sem.run_pure, Result.andThen_ok]
   congr 2
   apply Array.ext'
   simp
  ·cases hcal
 ·cases hcal
theorem adop_ycall {σ τ : Type} {i : Nat} {o : Oper} {done T : List Nat} {c : Call} {d r0 : Nat} (D B : List Nat) (l : List V1) (H : σ → Hp) (H' : τ → Hp) (K0 : σ → Prop) (K1 : τ → Prop) (hp0 : Hp) (S : σ → St) (S' : τ → St)
  (hi : ops[i]? = some o) (hDT : (D.all fun q => T.contains q) = true)
  (hg : o.guard = none) (hd : o.dst = some d) (hdn : decide (d < st.n) = true) (ho : o.op = .call c) (hcal : yldCallee st c = some r0) (hargs : inlArgs st c.args.toList = some l) (hpk : pick st.hp D = hp0) (hok : okHp D hp0 = true)
  (hS : ∀ y, st.lentB D B d (.v (.c (.p .bool true))) (H y) = S y) (hS' : ∀ y, st.lentB D B d (.v (.c (.p .bool false))) (H' y) = S' y)
  (hlc : LYCalls P r0 D B hp0 l (fun av hp' => (∃ y, av = .v (.c (.p .bool true)) ∧ hp' = H y ∧ K0 y) ∨ (∃ y, av = .v (.c (.p .bool false)) ∧ hp' = H' y ∧ K1 y)))
  (h : ∀ y, K0 y → AWD M P ops T (i :: done) Q (S y)) (h' : ∀ y, K1 y → AWD M P ops T (i :: done) Q (S' y)) : ADOp M P ops T done i Q st := by
 intro m w0 S0 G a w hs
 simp only [decide_eq_true_eq] at hdn
 unfold owp wpOpIn
 simp only [hi]
 have hw : Region.wanted o (yielded ops a.tmps) = true := by simp [Region.wanted, hg]
 rw [if_pos hw]
 obtain ⟨vs, yy, hrho, hen, hr2⟩ := yld_enter (P := P) hs ho hcal hargs
 obtain ⟨fn, tmps, assign, body, hy, hR⟩ := hlc w G vs (fun b hb => (hs.sub b hb).1) (fun b r hb => (hs.colr b r hb).2) (fun e he => by
  obtain ⟨k1, _⟩ := okHp_mem hok he
  have : e ∈ st.hp := by rw [← hpk] at he; exact pick_mem he
  exact hs.hp e this (by rw [k1]; exact holds_nil)) hr2 yy hrho
 refine upon_round' (hen.trans hy) (hR.mono ?_)
 rintro e w' ⟨v, G', av, hp', rfl, h1, h2, h3, h4, h5, h6, h7, hk⟩
 simp only [hd]
 have hT' : ∀ q ∈ D, q ∈ T := fun q hq => by simpa using List.all_eq_true.1 hDT q hq
 rcases hk with ⟨y, rfl, rfl, hk⟩ | ⟨y, rfl, rfl, hk⟩
 ·obtain ⟨G2, hmv, hs2⟩ := hs.lentB (d := d) hdn h1 h2 h3 h4 h5 (fun _ h => by cases h) h6 h7
  have := h y hk
  rw [← hS y] at this
  exact ⟨Nx.of_mv hT' hmv, awpH_weaken (fun w2 h8 => Nx.step hT' hmv h8) _ _ _ _ (this _ _ _ _ _ _ hs2)⟩
 ·obtain ⟨G2, hmv, hs2⟩ := hs.lentB (d := d) hdn h1 h2 h3 h4 h5 (fun _ h => by cases h) h6 h7
  have := h' y hk
  rw [← hS' y] at this
  exact ⟨Nx.of_mv hT' hmv, awpH_weaken (fun w2 h8 => Nx.step hT' hmv h8) _ _ _ _ (this _ _ _ _ _ _ hs2)⟩
theorem awd_lpz {done : List Nat} {D : List Nat} {r : Nat} {x0 : Go.Loop} {sl : List (Nat × AV)} {k : Int} {st' : St} (hk : k = 0) (hget : st.con [] r = some (.lp x0 k sl)) (h : st.upd r (.lp x0 0 sl) = st') (hr : AWD M P ops D done Q st') : AWD M P ops D done Q st := by
 subst hk
 subst h
 intro m w0 S0 G a w hs
 exact hr m w0 S0 G a w (hs.retell (hs.con_ holds_nil hget))
end
end Dec
