/-
The law EndsGrow: its last text.
-/
import Derived.Test.YtljlpmfmfcljaaaRows
import Derived.Test.YtljlpmfmfcljaaaDecV
import Derived.Test.YtljlpmfmfcljaaaEndsD
import Derived.Test.YtljlpmfmfcljaaaGenFa
import Derived.OpenShut
import Derived.JoinedCond
import Derived.SizedLaws
set_option linter.unusedSimpArgs false
set_option linter.unusedVariables false
namespace Go.Proofs.Ytljlpmfmfcljaaa.endsGrow
open Go.ChangeShapes Go.WideShapes Go.ChangeAt Go.RowKit Dec
theorem own : ownKnob Try.prog.godebug = none := by kernel_rfl
theorem laidOut : laidOutB Try.prog = true := by kernel_rfl
set_option maxRecDepth 100000 in
theorem contract (H : Type) (enc : TypeId × Value → H) (W : World) (base : Nat) (args : Array Value) (ds gs : List (DataW H)) (before : List MemPlace)
    (hval : ∀ (j : Nat) t v, Try.f7.params[j]? = some t → args[j]? = some v → Value.okWide Try.prog W .any base t v)
    (hW : DataW.Whole enc Try.prog Try.f7.params.toList Rows.endsGrowSpec.vars false W args.toList ds gs before) (hz : (DataW.weightsEach Try.prog (Try.f7.params.toList ++ Rows.endsGrowSpec.plain.varTypes Try.prog) (ds ++ gs)).all (· ≤ reachBytes) = true) :
    Calls Try.prog 7 args W fun e W' => ∃ v, e = .returned v ∧ Rows.endsGrowSpec.post enc Try.prog Try.f7 false true false false W args v W' := by
  have hW' := hW
  obtain ⟨p, q, hA0, hV, rfl, hfz, hnd⟩ := hW
  have hA : DataW.TrodAll enc Try.prog W 0 (fun _ => true) true Try.f7.params.toList args.toList ds p := hA0
  rw [Try.params7] at hA hval
  obtain ⟨v0, v1, d0, d1, p0, p1, rfl, rfl, rfl, h0, h1⟩ := trodAll_two hA
  obtain ⟨rfl, rfl⟩ := trodVars_none hV
  clear hA0
  obtain ⟨x0, k0, ok0⟩ := prep_ok_of_trod (n := 12) (u := (.sl (.int .u8))) (by kernel_rfl) (hval 0 22 v0 rfl rfl) h0
  obtain ⟨x1, k1, ok1⟩ := prep_ok_of_trod (n := 12) (u := (.int .u8)) (by kernel_rfl) (hval 1 5 v1 rfl rfl) h1
  have s0 : x0.length * 1 ≤ 140737488351232 := by
    rcases slice_len (P := Try.prog) (n := 12) (u := (.int .u8)) (by kernel_rfl) (hval 0 22 v0 rfl rfl) h0 k0 with h0 | ⟨el, sp, e1, e2⟩
    · rw [h0]; omega
    · have h9 := sized_slice hz (j := 0) (t := 22) (e := 5) rfl (by rw [e1]; rfl) Try.underlying22
      rw [show Try.prog.bytesOf 5 = 1 by kernel_rfl] at h9
      rw [← e2]
      show _ ≤ reachBytes
      exact Nat.le_trans (Nat.mul_le_mul_right _ (Nat.le_add_right _ _)) h9
  have hc := link7 x0 x1 (fun b => b = true) (Dec.law13 x0 x1 (by omega))
  refine (hc W (Old W) [v0, v1] (fun b hb => hb) ⟨.inl k0, .inl k1, trivial⟩).mono ?_
  rintro e W' ⟨us, res, S', rfl, hb, hS, hr, y, rfl, rfl⟩
  cases us with
  | nil => exact hr.elim
  | cons u us =>
    cases us with
    | cons _ _ => exact hr.2.elim
    | nil =>
      obtain ⟨tt, yy, cs, e1, e2, rfl⟩ := hr.1
      have hu : mkVal tt cs = .bool true := by
        cases tt <;> simp [toV1] at e1
        subst e1
        unfold Enc at e2
        rw [e2]
        rfl
      rw [hu]
      exact ⟨_, rfl, post_true (tb := 4) hW' rfl laidOut (by kernel_rfl) hb rfl rfl rfl rfl Try.underlying4⟩
set_option maxRecDepth 100000 in
theorem lifted (os : Os) (started : os.Started) (H : Type) (enc : TypeId × Value → H) :
    ReturnsInHanded {} Try.checked os 7 .any (Rows.endsGrowSpec.pre6 enc Try.prog Try.f7 Rows.endsGrowRow.domain false) (Rows.endsGrowSpec.post enc Try.prog Try.f7 false true false false) := by
  refine returnsInHanded_of_change_sized (C := Try.checked) own started (by kernel_rfl) Try.func7
    (ChangeSpec.witness6 (enc := enc) (C := Try.checked) false ⟨#[], #[.slice none 0 0, .int .u8 0], []⟩ 8 (by kernel_rfl) (by kernel_rfl) (by kernel_rfl) (by kernel_rfl)) ?_
  intro W base args ds gs before hval hW _ hz _
  exact contract H enc W base args ds gs before hval hW hz
theorem proved : Rows.EndsGrowSaid :=
  OpenClaim.holds_of_wide 7 Try.f7 rfl rfl rfl rfl rfl rfl rfl ⟨rfl, rfl, rfl, rfl, rfl⟩ rfl rfl rfl rfl rfl (by kernel_rfl) Try.func7 (by kernel_rfl)
    (of_decide_eq_true (by kernel_rfl)) (by unfold Func.isWrapper; first | (rw [if_pos (by decide +kernel)]; kernel_rfl) | (rw [if_neg (by decide +kernel)]; exact ⟨rfl, rfl⟩))
    (fun os started H enc _ => lifted os started H enc)
end Go.Proofs.Ytljlpmfmfcljaaa.endsGrow
