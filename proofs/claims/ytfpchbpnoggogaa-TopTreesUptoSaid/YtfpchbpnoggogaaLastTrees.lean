/-
  The law TopTrees: its last text.
-/
import Derived.Test.YtfpchbpnoggogaaRows
import Derived.Test.YtfpchbpnoggogaaDecV
import Derived.Test.YtfpchbpnoggogaaDecRw
import Derived.Test.YtfpchbpnoggogaaTopZ
import Derived.Test.YtfpchbpnoggogaaGenUd
import Derived.OpenShut
import Derived.JoinedCond
namespace Go.Proofs.Ytfpchbpnoggogaa.topTrees
open Go.ChangeShapes Go.WideShapes Go.ChangeAt Go.RowKit Dec
set_option linter.unusedVariables false
set_option linter.unusedSimpArgs false
mutual
theorem blk_le {H : Type} : ∀ d : DataW H, blk d ≤ Rows.uptoBulk d
  | .slice elems spare => by have := blkAll_le elems; simp only [blk, Rows.uptoBulk]; omega
  | .agg parts => by have := blkAll_le parts; simp only [blk, Rows.uptoBulk]; omega
  | .lit l => by cases l <;> simp [blk, Rows.uptoBulk]
  | .nil => by simp [blk, Rows.uptoBulk]
  | .ptr d => by simp [blk, Rows.uptoBulk]
  | .iface t d => by simp [blk, Rows.uptoBulk]
  | .map e => by simp [blk, Rows.uptoBulk]
  | .held h => by simp [blk, Rows.uptoBulk]
theorem blkAll_le {H : Type} : ∀ l : List (DataW H), blkAll l ≤ Rows.uptoBulkAll l
  | [] => by simp [blkAll, Rows.uptoBulkAll]
  | d :: r => by have := blk_le d; have := blkAll_le r; simp only [blkAll, Rows.uptoBulkAll]; omega
end
theorem own : ownKnob Try.prog.godebug = none := by kernel_rfl
theorem laidOut : laidOutB Try.prog = true := by kernel_rfl
set_option maxRecDepth 100000 in
theorem contract (H : Type) (enc : TypeId × Value → H) (W : World) (base : Nat) (args : Array Value) (ds gs : List (DataW H)) (before : List MemPlace)
    (hval : ∀ (j : Nat) t v, Try.f13.params[j]? = some t → args[j]? = some v → Value.okWide Try.prog W .any base t v)
    (hW : DataW.Whole enc Try.prog Try.f13.params.toList Rows.topTreesSpec.vars false W args.toList ds gs before) (hk : Rows.uptoSmall H (ds ++ gs) = true) :
    Calls Try.prog 13 args W fun e W' => ∃ v, e = .returned v ∧ Rows.topTreesSpec.post enc Try.prog Try.f13 false true false false W args v W' := by
  have hW' := hW
  obtain ⟨p, q, hA0, hV, rfl, hfz, hnd⟩ := hW
  have hA : DataW.TrodAll enc Try.prog W 0 (fun _ => true) true Try.f13.params.toList args.toList ds p := hA0
  rw [Try.params13] at hA hval
  obtain ⟨v0, vs0, d0, ds0, p0, q0, hargs, rfl, rfl, h0, r0⟩ := trodAll_cons hA
  obtain ⟨v1, vs1, d1, ds1, p1, q1, rfl, rfl, rfl, h1, r1⟩ := trodAll_cons r0
  obtain ⟨v2, vs2, d2, ds2, p2, q2, rfl, rfl, rfl, h2, r2⟩ := trodAll_cons r1
  obtain ⟨v3, vs3, d3, ds3, p3, q3, rfl, rfl, rfl, h3, r3⟩ := trodAll_cons r2
  obtain ⟨v4, vs4, d4, ds4, p4, q4, rfl, rfl, rfl, h4, r4⟩ := trodAll_cons r3
  obtain ⟨rfl, rfl, rfl⟩ := trodAll_nil r4
  obtain rfl : args = #[v0, v1, v2, v3, v4] := by cases args; simp_all
  obtain ⟨rfl, rfl⟩ := trodVars_none hV
  clear hA0
  obtain ⟨x0, k0, ok0, w0⟩ := prep_ok_w (n := 12) (u := (.int .i64)) (by kernel_rfl) (hval 0 3 v0 rfl rfl) h0
  obtain ⟨x1, k1, ok1, w1⟩ := prep_ok_w (n := 12) (u := (.int .i64)) (by kernel_rfl) (hval 1 3 v1 rfl rfl) h1
  obtain ⟨x2, k2, ok2, w2⟩ := prep_ok_w (n := 12) (u := (.sl (.pr (.int .i64) (.pr (.pr (.int .i64) (.sl (.int .i64))) (.pr (.sl (.int .i64)) (.pr (.int .i64) (.sl (.int .i64)))))))) (by kernel_rfl) (hval 2 59 v2 rfl rfl) h2
  obtain ⟨x3, k3, ok3, w3⟩ := prep_ok_w (n := 12) (u := (.sl (.int .i64))) (by kernel_rfl) (hval 3 25 v3 rfl rfl) h3
  obtain ⟨x4, k4, ok4, w4⟩ := prep_ok_w (n := 12) (u := (.int .i64)) (by kernel_rfl) (hval 4 2 v4 rfl rfl) h4
  have hk1 : Rows.uptoBulkAll ([d0, d1, d2, d3, d4] ++ ([] : List (DataW H))) ≤ 1048576 := by simpa [Rows.uptoSmall] using hk
  simp only [List.append_nil, Rows.uptoBulkAll] at hk1
  have b0 : wgt (.int .i64) x0 ≤ 1048576 := by have := blk_le d0; omega
  have b1 : wgt (.int .i64) x1 ≤ 1048576 := by have := blk_le d1; omega
  have b2 : wgt (.sl (.pr (.int .i64) (.pr (.pr (.int .i64) (.sl (.int .i64))) (.pr (.sl (.int .i64)) (.pr (.int .i64) (.sl (.int .i64))))))) x2 ≤ 1048576 := by have := blk_le d2; omega
  have b3 : wgt (.sl (.int .i64)) x3 ≤ 1048576 := by have := blk_le d3; omega
  have b4 : wgt (.int .i64) x4 ≤ 1048576 := by have := blk_le d4; omega
  have hc := link13 x0 x1 x2 x3 x4 (fun b => b = true) (topTrees x0 x1 x2 x3 x4 (deeds_wgt b2).1 (deeds_wgt b2).2)
  refine (hc W (Old W) [v0, v1, v2, v3, v4] (fun b hb => hb) ⟨.inl k0, .inl k1, .inl k2, .inl k3, .inl k4, trivial⟩).mono ?_
  rintro e W' ⟨us, res, S', rfl, hb, hS, hr, y, rfl, rfl⟩
  cases us with
  | nil => exact hr.elim
  | cons u us =>
    cases us with
    | cons _ _ => exact hr.2.elim
    | nil =>
      obtain ⟨tt, yy, cs, e1, e2, rfl⟩ := hr.1
      have hu : mkVal tt cs = .bool true := by
        cases tt <;> simp [toV1] at e1
        subst e1
        unfold Enc at e2
        rw [e2]
        rfl
      rw [hu]
      exact ⟨_, rfl, post_true (tb := 4) hW' rfl laidOut (by kernel_rfl) hb rfl rfl rfl rfl Try.underlying4⟩
set_option maxRecDepth 100000 in
theorem lifted (os : Os) (started : os.Started) (H : Type) (enc : TypeId × Value → H) (F : Stop.Interp) :
    ReturnsInHanded {} Try.checked os 13 .any ((Rows.OpenSpec.upto Rows.topTreesSpec).pre6 enc Try.prog Try.f13 Rows.topTreesUptoRow.domain false) (((Rows.OpenSpec.upto Rows.topTreesSpec).at F).post enc Try.prog Try.f13 false true false false) := by
  refine returnsInHanded_of_cond (C := Try.checked) (s := Rows.OpenSpec.upto Rows.topTreesSpec) (k := Rows.uptoSmall) rfl own started (by kernel_rfl) Try.func13
    (OpenSpec.witness (enc := enc) (C := Try.checked) (s := Rows.OpenSpec.upto Rows.topTreesSpec) (k := Rows.uptoSmall) rfl false ⟨#[], #[.int .i64 0, .int .i64 0, .slice none 0 0, .slice none 0 0, .int .i64 0], []⟩ 8 (by kernel_rfl) (by kernel_rfl) (by kernel_rfl)
      (x := ([.lit (.int .i64 0), .lit (.int .i64 0), .nil, .nil, .lit (.int .i64 0)], [], [])) (by kernel_rfl) rfl (by kernel_rfl)) ?_
  intro W base args ds gs before hval hW _ hk _
  exact contract H enc W base args ds gs before hval hW hk
theorem over : Rows.topTreesUptoRow.holds Try.pinned (Rows.OpenSpec.upto Rows.topTreesSpec) :=
  OpenClaim.holds_of_cond 13 Try.f13 rfl rfl rfl rfl rfl rfl rfl ⟨rfl, rfl, rfl, rfl, rfl⟩ rfl rfl rfl rfl rfl (by kernel_rfl) Try.func13 (by kernel_rfl)
    (of_decide_eq_true (by kernel_rfl)) (by unfold Func.isWrapper; first | (rw [if_pos (by decide +kernel)]; kernel_rfl) | (rw [if_neg (by decide +kernel)]; exact ⟨rfl, rfl⟩))
    (fun os started H enc _ F => lifted os started H enc F)
theorem proved : Rows.TopTreesUptoSaid :=
  over
end Go.Proofs.Ytfpchbpnoggogaa.topTrees
