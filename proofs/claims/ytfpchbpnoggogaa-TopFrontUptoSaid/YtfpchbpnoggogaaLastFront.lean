/-
  The law TopFront: its last text.
-/
import Derived.Test.YtfpchbpnoggogaaRows
import Derived.Test.YtfpchbpnoggogaaDecV
import Derived.Test.YtfpchbpnoggogaaDecRw
import Derived.Test.YtfpchbpnoggogaaTopZ
import Derived.Test.YtfpchbpnoggogaaGenTd
import Derived.OpenShut
import Derived.JoinedCond
namespace Go.Proofs.Ytfpchbpnoggogaa.topFront
open Go.ChangeShapes Go.WideShapes Go.ChangeAt Go.RowKit Dec
set_option linter.unusedVariables false
set_option linter.unusedSimpArgs false
mutual
theorem blk_le {H : Type} : ∀ d : DataW H, blk d ≤ Rows.uptoBulk d
  | .slice elems spare => by have := blkAll_le elems; simp only [blk, Rows.uptoBulk]; omega
  | .agg parts => by have := blkAll_le parts; simp only [blk, Rows.uptoBulk]; omega
  | .lit l => by cases l <;> simp [blk, Rows.uptoBulk]
  | .nil => by simp [blk, Rows.uptoBulk]
  | .ptr d => by simp [blk, Rows.uptoBulk]
  | .iface t d => by simp [blk, Rows.uptoBulk]
  | .map e => by simp [blk, Rows.uptoBulk]
  | .held h => by simp [blk, Rows.uptoBulk]
theorem blkAll_le {H : Type} : ∀ l : List (DataW H), blkAll l ≤ Rows.uptoBulkAll l
  | [] => by simp [blkAll, Rows.uptoBulkAll]
  | d :: r => by have := blk_le d; have := blkAll_le r; simp only [blkAll, Rows.uptoBulkAll]; omega
end
theorem own : ownKnob Try.prog.godebug = none := by kernel_rfl
theorem laidOut : laidOutB Try.prog = true := by kernel_rfl
set_option maxRecDepth 100000 in
theorem contract (H : Type) (enc : TypeId × Value → H) (W : World) (base : Nat) (args : Array Value) (ds gs : List (DataW H)) (before : List MemPlace)
    (hval : ∀ (j : Nat) t v, Try.f14.params[j]? = some t → args[j]? = some v → Value.okWide Try.prog W .any base t v)
    (hW : DataW.Whole enc Try.prog Try.f14.params.toList Rows.topFrontSpec.vars false W args.toList ds gs before) (hk : Rows.uptoSmall H (ds ++ gs) = true) :
    Calls Try.prog 14 args W fun e W' => ∃ v, e = .returned v ∧ Rows.topFrontSpec.post enc Try.prog Try.f14 false true false false W args v W' := by
  have hW' := hW
  obtain ⟨p, q, hA0, hV, rfl, hfz, hnd⟩ := hW
  have hA : DataW.TrodAll enc Try.prog W 0 (fun _ => true) true Try.f14.params.toList args.toList ds p := hA0
  rw [Try.params14] at hA hval
  obtain ⟨v0, v1, v2, v3, d0, d1, d2, d3, p0, p1, p2, p3, rfl, rfl, rfl, h0, h1, h2, h3⟩ := trodAll_four hA
  obtain ⟨rfl, rfl⟩ := trodVars_none hV
  clear hA0
  obtain ⟨x0, k0, ok0, w0⟩ := prep_ok_w (n := 12) (u := (.int .i64)) (by kernel_rfl) (hval 0 3 v0 rfl rfl) h0
  obtain ⟨x1, k1, ok1, w1⟩ := prep_ok_w (n := 12) (u := (.int .i64)) (by kernel_rfl) (hval 1 3 v1 rfl rfl) h1
  obtain ⟨x2, k2, ok2, w2⟩ := prep_ok_w (n := 12) (u := (.sl (.pr (.int .i64) (.pr (.pr (.int .i64) (.sl (.int .i64))) (.pr (.sl (.int .i64)) (.pr (.int .i64) (.sl (.int .i64)))))))) (by kernel_rfl) (hval 2 59 v2 rfl rfl) h2
  obtain ⟨x3, k3, ok3, w3⟩ := prep_ok_w (n := 12) (u := (.int .u8)) (by kernel_rfl) (hval 3 5 v3 rfl rfl) h3
  have hk1 : Rows.uptoBulkAll ([d0, d1, d2, d3] ++ ([] : List (DataW H))) ≤ 1048576 := by simpa [Rows.uptoSmall] using hk
  simp only [List.append_nil, Rows.uptoBulkAll] at hk1
  have b0 : wgt (.int .i64) x0 ≤ 1048576 := by have := blk_le d0; omega
  have b1 : wgt (.int .i64) x1 ≤ 1048576 := by have := blk_le d1; omega
  have b2 : wgt (.sl (.pr (.int .i64) (.pr (.pr (.int .i64) (.sl (.int .i64))) (.pr (.sl (.int .i64)) (.pr (.int .i64) (.sl (.int .i64))))))) x2 ≤ 1048576 := by have := blk_le d2; omega
  have b3 : wgt (.int .u8) x3 ≤ 1048576 := by have := blk_le d3; omega
  have hc := link14 x0 x1 x2 x3 (fun b => b = true) (topFront x0 x1 x2 x3 (show (0 : Int) ≤ x3 from ok3.1) (deeds_wgt b2).1 (deeds_wgt b2).2)
  refine (hc W (Old W) [v0, v1, v2, v3] (fun b hb => hb) ⟨.inl k0, .inl k1, .inl k2, .inl k3, trivial⟩).mono ?_
  rintro e W' ⟨us, res, S', rfl, hb, hS, hr, y, rfl, rfl⟩
  cases us with
  | nil => exact hr.elim
  | cons u us =>
    cases us with
    | cons _ _ => exact hr.2.elim
    | nil =>
      obtain ⟨tt, yy, cs, e1, e2, rfl⟩ := hr.1
      have hu : mkVal tt cs = .bool true := by
        cases tt <;> simp [toV1] at e1
        subst e1
        unfold Enc at e2
        rw [e2]
        rfl
      rw [hu]
      exact ⟨_, rfl, post_true (tb := 4) hW' rfl laidOut (by kernel_rfl) hb rfl rfl rfl rfl Try.underlying4⟩
set_option maxRecDepth 100000 in
theorem lifted (os : Os) (started : os.Started) (H : Type) (enc : TypeId × Value → H) (F : Stop.Interp) :
    ReturnsInHanded {} Try.checked os 14 .any ((Rows.OpenSpec.upto Rows.topFrontSpec).pre6 enc Try.prog Try.f14 Rows.topFrontUptoRow.domain false) (((Rows.OpenSpec.upto Rows.topFrontSpec).at F).post enc Try.prog Try.f14 false true false false) := by
  refine returnsInHanded_of_cond (C := Try.checked) (s := Rows.OpenSpec.upto Rows.topFrontSpec) (k := Rows.uptoSmall) rfl own started (by kernel_rfl) Try.func14
    (OpenSpec.witness (enc := enc) (C := Try.checked) (s := Rows.OpenSpec.upto Rows.topFrontSpec) (k := Rows.uptoSmall) rfl false ⟨#[], #[.int .i64 0, .int .i64 0, .slice none 0 0, .int .u8 0], []⟩ 8 (by kernel_rfl) (by kernel_rfl) (by kernel_rfl)
      (x := ([.lit (.int .i64 0), .lit (.int .i64 0), .nil, .lit (.int .u8 0)], [], [])) (by kernel_rfl) rfl (by kernel_rfl)) ?_
  intro W base args ds gs before hval hW _ hk _
  exact contract H enc W base args ds gs before hval hW hk
theorem over : Rows.topFrontUptoRow.holds Try.pinned (Rows.OpenSpec.upto Rows.topFrontSpec) :=
  OpenClaim.holds_of_cond 14 Try.f14 rfl rfl rfl rfl rfl rfl rfl ⟨rfl, rfl, rfl, rfl, rfl⟩ rfl rfl rfl rfl rfl (by kernel_rfl) Try.func14 (by kernel_rfl)
    (of_decide_eq_true (by kernel_rfl)) (by unfold Func.isWrapper; first | (rw [if_pos (by decide +kernel)]; kernel_rfl) | (rw [if_neg (by decide +kernel)]; exact ⟨rfl, rfl⟩))
    (fun os started H enc _ F => lifted os started H enc F)
theorem proved : Rows.TopFrontUptoSaid :=
  over
end Go.Proofs.Ytfpchbpnoggogaa.topFront
