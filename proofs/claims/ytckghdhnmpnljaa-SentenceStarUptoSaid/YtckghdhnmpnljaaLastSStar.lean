/-
  The law SentenceStar: its last text.
-/
import Derived.Test.YtckghdhnmpnljaaRows
import Derived.Test.YtckghdhnmpnljaaDecV
import Derived.Test.YtckghdhnmpnljaaSentB
import Derived.OpenShut
import Derived.JoinedCond
namespace Go.Proofs.Ytckghdhnmpnljaa.sentenceStar
open Go.ChangeShapes Go.WideShapes Go.ChangeAt Go.RowKit Dec
set_option linter.unusedVariables false
set_option linter.unusedSimpArgs false

theorem one_le {H : Type} (d : DataW H) : 1 ≤ Rows.uptoBulk d := by
  cases d with
  | lit l => cases l <;> simp [Rows.uptoBulk]
  | nil => simp [Rows.uptoBulk]
  | ptr d => simp [Rows.uptoBulk]
  | slice elems spare => simp [Rows.uptoBulk]
  | agg parts => simp [Rows.uptoBulk]
  | iface t d => simp [Rows.uptoBulk]
  | map entries => simp [Rows.uptoBulk]
  | held h => simp [Rows.uptoBulk]

theorem length_le {H : Type} (l : List (DataW H)) : l.length ≤ Rows.uptoBulkAll l := by
  induction l with
  | nil => simp [Rows.uptoBulkAll]
  | cons x r ih => have := one_le x; simp only [Rows.uptoBulkAll, List.length_cons]; omega

theorem slice_small {H : Type} {enc : TypeId × Value → H} {P : Program} {w : World} {n : Nat} {t : TypeId} {u : Ty} (h : tyOf0 P n t = some (.sl u)) {r : Reach} {b0 : Nat} {v : Value} {d : DataW H} {ps : List MemPlace}
    (hval : Value.okWide P w r b0 t v) (hd : DataW.Trod enc P w 0 (fun _ => true) true t v d ps) {x : (Ty.sl u).T} (hx : PRep w (Old w) (toV1 (.sl u) x) v) : x.length ≤ Rows.uptoBulk d := by
  rcases slice_len h hval hd hx with h0 | ⟨el, sp, rfl, hl⟩
  · omega
  · have := length_le el
    simp only [Rows.uptoBulk]
    omega

theorem own : ownKnob Try.prog.godebug = none := by kernel_rfl
theorem laidOut : laidOutB Try.prog = true := by kernel_rfl

set_option maxRecDepth 100000 in
theorem contract (H : Type) (enc : TypeId × Value → H) (W : World) (base : Nat) (args : Array Value) (ds gs : List (DataW H)) (before : List MemPlace)
    (hval : ∀ (j : Nat) t v, Try.f6.params[j]? = some t → args[j]? = some v → Value.okWide Try.prog W .any base t v)
    (hW : DataW.Whole enc Try.prog Try.f6.params.toList Rows.sentenceStarSpec.vars false W args.toList ds gs before) (hk : Rows.uptoSmall H (ds ++ gs) = true) :
    Calls Try.prog 6 args W fun e W' => ∃ v, e = .returned v ∧ Rows.sentenceStarSpec.post enc Try.prog Try.f6 false true false false W args v W' := by
  have hW' := hW
  obtain ⟨p, q, hA0, hV, rfl, hfz, hnd⟩ := hW
  have hA : DataW.TrodAll enc Try.prog W 0 (fun _ => true) true Try.f6.params.toList args.toList ds p := hA0
  rw [Try.params6] at hA hval
  obtain ⟨v0, v1, v2, d0, d1, d2, p0, p1, p2, rfl, rfl, rfl, h0, h1, h2⟩ := trodAll_three hA
  obtain ⟨rfl, rfl⟩ := trodVars_none hV
  clear hA0
  obtain ⟨x0, k0, ok0⟩ := prep_ok_of_trod (n := 12) (u := (.int .i64)) (by kernel_rfl) (hval 0 3 v0 rfl rfl) h0
  obtain ⟨x1, k1, ok1⟩ := prep_ok_of_trod (n := 12) (u := (.sl (.pr (.int .i64) (.pr (.int .i64) (.int .i64))))) (by kernel_rfl) (hval 1 48 v1 rfl rfl) h1
  obtain ⟨x2, k2, ok2⟩ := prep_ok_of_trod (n := 12) (u := (.sl (.int .i64))) (by kernel_rfl) (hval 2 26 v2 rfl rfl) h2
  have hk1 : Rows.uptoBulkAll ([d0, d1, d2] ++ ([] : List (DataW H))) ≤ 1048576 := by simpa [Rows.uptoSmall] using hk
  simp only [List.append_nil, Rows.uptoBulkAll] at hk1
  have b1 : x1.length ≤ 1048576 := Nat.le_trans (slice_small (P := Try.prog) (n := 12) (u := (.pr (.int .i64) (.pr (.int .i64) (.int .i64)))) (by kernel_rfl) (hval 1 48 v1 rfl rfl) h1 k1) (by omega)
  have b2 : x2.length ≤ 1048576 := Nat.le_trans (slice_small (P := Try.prog) (n := 12) (u := (.int .i64)) (by kernel_rfl) (hval 2 26 v2 rfl rfl) h2 k2) (by omega)
  have hc := link6 x0 x1 x2 (fun b => b = true) (sentenceStar x0 x1 x2 b1)
  refine (hc W (Old W) [v0, v1, v2] (fun b hb => hb) ⟨.inl k0, .inl k1, .inl k2, trivial⟩).mono ?_
  rintro e W' ⟨us, res, S', rfl, hb, hS, hr, y, rfl, rfl⟩
  cases us with
  | nil => exact hr.elim
  | cons u us =>
    cases us with
    | cons _ _ => exact hr.2.elim
    | nil =>
      obtain ⟨tt, yy, cs, e1, e2, rfl⟩ := hr.1
      have hu : mkVal tt cs = .bool true := by
        cases tt <;> simp [toV1] at e1
        subst e1
        unfold Enc at e2
        rw [e2]
        rfl
      rw [hu]
      exact ⟨_, rfl, post_true (tb := 4) hW' rfl laidOut (by kernel_rfl) hb rfl rfl rfl rfl Try.underlying4⟩

set_option maxRecDepth 100000 in
theorem lifted (os : Os) (started : os.Started) (H : Type) (enc : TypeId × Value → H) (F : Stop.Interp) :
    ReturnsInHanded {} Try.checked os 6 .any ((Rows.OpenSpec.upto Rows.sentenceStarSpec).pre6 enc Try.prog Try.f6 Rows.sentenceStarUptoRow.domain false) (((Rows.OpenSpec.upto Rows.sentenceStarSpec).at F).post enc Try.prog Try.f6 false true false false) := by
  refine returnsInHanded_of_cond (C := Try.checked) (s := Rows.OpenSpec.upto Rows.sentenceStarSpec) (k := Rows.uptoSmall) rfl own started (by kernel_rfl) Try.func6
    (OpenSpec.witness (enc := enc) (C := Try.checked) (s := Rows.OpenSpec.upto Rows.sentenceStarSpec) (k := Rows.uptoSmall) rfl false ⟨#[], #[.int .i64 0, .slice none 0 0, .slice none 0 0], []⟩ 8 (by kernel_rfl) (by kernel_rfl) (by kernel_rfl)
      (x := ([.lit (.int .i64 0), .nil, .nil], [], [])) (by kernel_rfl) rfl (by kernel_rfl)) ?_
  intro W base args ds gs before hval hW _ hk _
  exact contract H enc W base args ds gs before hval hW hk

theorem over : Rows.sentenceStarUptoRow.holds Try.pinned (Rows.OpenSpec.upto Rows.sentenceStarSpec) :=
  OpenClaim.holds_of_cond 6 Try.f6 rfl rfl rfl rfl rfl rfl rfl ⟨rfl, rfl, rfl, rfl, rfl⟩ rfl rfl rfl rfl rfl (by kernel_rfl) Try.func6 (by kernel_rfl)
    (of_decide_eq_true (by kernel_rfl)) (by unfold Func.isWrapper; first | (rw [if_pos (by decide +kernel)]; kernel_rfl) | (rw [if_neg (by decide +kernel)]; exact ⟨rfl, rfl⟩))
    (fun os started H enc _ F => lifted os started H enc F)

theorem proved : Rows.SentenceStarUptoSaid :=
  over
end Go.Proofs.Ytckghdhnmpnljaa.sentenceStar

