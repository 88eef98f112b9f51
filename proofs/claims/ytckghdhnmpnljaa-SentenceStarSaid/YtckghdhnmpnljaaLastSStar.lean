/-
The law SentenceStar: its last text.
-/
import Derived.Test.YtckghdhnmpnljaaRows
import Derived.Test.YtckghdhnmpnljaaDecV
import Derived.Test.YtckghdhnmpnljaaSentB
import Derived.Test.YtckghdhnmpnljaaGenVa
import Derived.OpenShut
import Derived.JoinedCond
import Derived.SizedLaws
set_option linter.unusedSimpArgs false
set_option linter.unusedVariables false
namespace Go.Proofs.Ytckghdhnmpnljaa.sentenceStar
open Go.ChangeShapes Go.WideShapes Go.ChangeAt Go.RowKit Dec
theorem own : ownKnob Try.prog.godebug = none := by kernel_rfl
theorem laidOut : laidOutB Try.prog = true := by kernel_rfl
set_option maxRecDepth 100000 in
theorem contract (H : Type) (enc : TypeId × Value → H) (W : World) (base : Nat) (args : Array Value) (ds gs : List (DataW H)) (before : List MemPlace)
    (hval : ∀ (j : Nat) t v, Try.f6.params[j]? = some t → args[j]? = some v → Value.okWide Try.prog W .any base t v)
    (hW : DataW.Whole enc Try.prog Try.f6.params.toList Rows.sentenceStarSpec.vars false W args.toList ds gs before) (hz : (DataW.weightsEach Try.prog (Try.f6.params.toList ++ Rows.sentenceStarSpec.plain.varTypes Try.prog) (ds ++ gs)).all (· ≤ reachBytes) = true) :
    Calls Try.prog 6 args W fun e W' => ∃ v, e = .returned v ∧ Rows.sentenceStarSpec.post enc Try.prog Try.f6 false true false false W args v W' := by
  have hW' := hW
  obtain ⟨p, q, hA0, hV, rfl, hfz, hnd⟩ := hW
  have hA : DataW.TrodAll enc Try.prog W 0 (fun _ => true) true Try.f6.params.toList args.toList ds p := hA0
  rw [Try.params6] at hA hval
  obtain ⟨v0, v1, v2, d0, d1, d2, p0, p1, p2, rfl, rfl, rfl, h0, h1, h2⟩ := trodAll_three hA
  obtain ⟨rfl, rfl⟩ := trodVars_none hV
  clear hA0
  obtain ⟨x0, k0, ok0⟩ := prep_ok_of_trod (n := 12) (u := (.int .i64)) (by kernel_rfl) (hval 0 3 v0 rfl rfl) h0
  obtain ⟨x1, k1, ok1⟩ := prep_ok_of_trod (n := 12) (u := (.sl (.pr (.int .i64) (.pr (.int .i64) (.int .i64))))) (by kernel_rfl) (hval 1 48 v1 rfl rfl) h1
  obtain ⟨x2, k2, ok2⟩ := prep_ok_of_trod (n := 12) (u := (.sl (.int .i64))) (by kernel_rfl) (hval 2 26 v2 rfl rfl) h2
  have s1 : x1.length * 24 ≤ 140737488351232 := by
    rcases slice_len (P := Try.prog) (n := 12) (u := (.pr (.int .i64) (.pr (.int .i64) (.int .i64)))) (by kernel_rfl) (hval 1 48 v1 rfl rfl) h1 k1 with h0 | ⟨el, sp, e1, e2⟩
    · rw [h0]; omega
    · have h9 := sized_slice hz (j := 1) (t := 48) (e := 50) rfl (by rw [e1]; rfl) Try.underlying48
      rw [show Try.prog.bytesOf 50 = 24 by kernel_rfl] at h9
      rw [← e2]
      show _ ≤ reachBytes
      exact Nat.le_trans (Nat.mul_le_mul_right _ (Nat.le_add_right _ _)) h9
  have s2 : x2.length * 8 ≤ 140737488351232 := by
    rcases slice_len (P := Try.prog) (n := 12) (u := (.int .i64)) (by kernel_rfl) (hval 2 26 v2 rfl rfl) h2 k2 with h0 | ⟨el, sp, e1, e2⟩
    · rw [h0]; omega
    · have h9 := sized_slice hz (j := 2) (t := 26) (e := 3) rfl (by rw [e1]; rfl) Try.underlying26
      rw [show Try.prog.bytesOf 3 = 8 by kernel_rfl] at h9
      rw [← e2]
      show _ ≤ reachBytes
      exact Nat.le_trans (Nat.mul_le_mul_right _ (Nat.le_add_right _ _)) h9
  have hc := link6 x0 x1 x2 (fun b => b = true) (sentenceStar x0 x1 x2 s1)
  refine (hc W (Old W) [v0, v1, v2] (fun b hb => hb) ⟨.inl k0, .inl k1, .inl k2, trivial⟩).mono ?_
  rintro e W' ⟨us, res, S', rfl, hb, hS, hr, y, rfl, rfl⟩
  cases us with
  | nil => exact hr.elim
  | cons u us =>
    cases us with
    | cons _ _ => exact hr.2.elim
    | nil =>
      obtain ⟨tt, yy, cs, e1, e2, rfl⟩ := hr.1
      have hu : mkVal tt cs = .bool true := by
        cases tt <;> simp [toV1] at e1
        subst e1
        unfold Enc at e2
        rw [e2]
        rfl
      rw [hu]
      exact ⟨_, rfl, post_true (tb := 4) hW' rfl laidOut (by kernel_rfl) hb rfl rfl rfl rfl Try.underlying4⟩
set_option maxRecDepth 100000 in
theorem lifted (os : Os) (started : os.Started) (H : Type) (enc : TypeId × Value → H) :
    ReturnsInHanded {} Try.checked os 6 .any (Rows.sentenceStarSpec.pre6 enc Try.prog Try.f6 Rows.sentenceStarRow.domain false) (Rows.sentenceStarSpec.post enc Try.prog Try.f6 false true false false) := by
  refine returnsInHanded_of_change_sized (C := Try.checked) own started (by kernel_rfl) Try.func6
    (ChangeSpec.witness6 (enc := enc) (C := Try.checked) false ⟨#[], #[.int .i64 0, .slice none 0 0, .slice none 0 0], []⟩ 8 (by kernel_rfl) (by kernel_rfl) (by kernel_rfl) (by kernel_rfl)) ?_
  intro W base args ds gs before hval hW _ hz _
  exact contract H enc W base args ds gs before hval hW hz
theorem proved : Rows.SentenceStarSaid :=
  OpenClaim.holds_of_wide 6 Try.f6 rfl rfl rfl rfl rfl rfl rfl ⟨rfl, rfl, rfl, rfl, rfl⟩ rfl rfl rfl rfl rfl (by kernel_rfl) Try.func6 (by kernel_rfl)
    (of_decide_eq_true (by kernel_rfl)) (by unfold Func.isWrapper; first | (rw [if_pos (by decide +kernel)]; kernel_rfl) | (rw [if_neg (by decide +kernel)]; exact ⟨rfl, rfl⟩))
    (fun os started H enc _ => lifted os started H enc)
end Go.Proofs.Ytckghdhnmpnljaa.sentenceStar
