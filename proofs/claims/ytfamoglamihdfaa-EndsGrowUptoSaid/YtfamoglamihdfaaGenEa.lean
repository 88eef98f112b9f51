/-
  Printed by dec2.py: of each function its plain demand, and that the demand gives the contract.
-/
import Derived.Test.YtfamoglamihdfaaProg
import Derived.Test.YtfamoglamihdfaaDecBy
import Derived.Test.YtfamoglamihdfaaShelf
set_option linter.unusedVariables false
set_option linter.unusedSimpArgs false
set_option maxRecDepth 100000
namespace Dec
open Go Go.RowKit Go.Proofs

-- coppicer/power.Large
def VC63_k1 (K : Int → Prop) : Prop :=
  K (0 : Int)

def VC63_l1 (words : (List (List Int))) (K : Int → Prop) (v7 : Int) (X1 : Int → Prop) : Prop :=
  (((decide (v7 < (words.length : Int))) = true → (inIdx v7 words.length ∧ (((decide ((60 : Int) < ((words.getD (v7).toNat ([] : (List Int))).length : Int))) = true → K (1 : Int)) ∧ ((decide ((60 : Int) < ((words.getD (v7).toNat ([] : (List Int))).length : Int))) = false → (InR (v7 + (1 : Int)) ∧ X1 (v7 + (1 : Int))))))) ∧ ((decide (v7 < (words.length : Int))) = false → VC63_k1 K))

def VC63 (words : (List (List Int))) (K : Int → Prop) : Prop :=
  Loop (σ := Int) (fun s X => VC63_l1 words K s X) (0 : Int)

set_option maxHeartbeats 4000000 in
theorem link63 (words : (List (List Int))) (K : Int → Prop) (h : VC63 words K) : ACalls Try.prog 63 [toV1 (.sl (.sl (.int .u8))) words] (fun res => ∃ y, res = (fun y => [toV1 (.int .i64) y]) y ∧ K y) := by
  refine acalls_of_aw [(.int .i64)] [.t 2] Try.func63 rfl rfl rfl ?_
  unfold VC63 at h
  refine aw_seq ?_
  refine aw_region ?_
  refine awl_runp 1 [0] [] (ob := (True ∧ True)) (st' := (⟨15, [(0, [], .v (.c (.p (.sl (.sl (.int .u8))) words)))], []⟩ : St)) (by kernel_rfl) ⟨trivial, trivial⟩ ?_
  refine awl_nil ?_
  refine thenQ_n ?_
  refine aw_seq ?_
  refine aw_seq ?_
  refine aw_region ?_
  refine awl_runp 3 [5, 6, 7] [] (ob := (True ∧ True ∧ True ∧ True)) (st' := (⟨15, [(5, [], .v (.c (.p (.sl (.sl (.int .u8))) words))), (6, [], .v (.c (.p (.int .i64) (words.length : Int)))), (7, [], .v (.c (.p (.int .i64) (0 : Int))))], []⟩ : St)) (by kernel_rfl) ⟨trivial, trivial, trivial, trivial⟩ ?_
  refine awl_nil ?_
  refine thenQ_n ?_
  refine withJoin (σ := Unit) (fun s => (⟨15, [], []⟩ : St)) (fun s => VC63_k1 K) (fun s h => ?_) (fun rest1 => ?_)
  · have h : VC63_k1 K := h
    unfold VC63_k1 at h
    refine thenQ_n ?_
    refine aw_seq ?_
    refine aw_region ?_
    refine awl_runp 1 [2] [] (ob := (True ∧ True)) (st' := (⟨15, [(2, [], .v (.c (.p (.int .i64) (0 : Int))))], []⟩ : St)) (by kernel_rfl) ⟨trivial, trivial⟩ ?_
    refine awl_nil ?_
    refine thenQ_n ?_
    refine aw_ret ?_
    exact retQ_r (σ := Int) (R := (fun y => [toV1 (.int .i64) y])) (ob := (True ∧ True)) (0 : Int) (by kernel_rfl) ⟨trivial, trivial⟩ h
  · refine aw_block ?_
    refine aw_loop (σ := Int) (fun s => (⟨15, [(5, [], .v (.c (.p (.sl (.sl (.int .u8))) words))), (6, [], .v (.c (.p (.int .i64) (words.length : Int)))), (7, [], .v (.c (.p (.int .i64) s)))], []⟩ : St)) (fun s X => VC63_l1 words K s X) (s0 := (0 : Int)) (fun v7 X1 h => ?_) h
    have h : VC63_l1 words K v7 X1 := h
    unfold VC63_l1 at h
    refine aw_seq ?_
    refine aw_region ?_
    refine awl_runp 1 [5, 6, 7, 8] [] (ob := (True ∧ True)) (st' := (⟨15, [(5, [], .v (.c (.p (.sl (.sl (.int .u8))) words))), (6, [], .v (.c (.p (.int .i64) (words.length : Int)))), (7, [], .v (.c (.p (.int .i64) v7))), (8, [], .v (.c (.p .bool (decide (v7 < (words.length : Int))))))], []⟩ : St)) (by kernel_rfl) ⟨trivial, trivial⟩ ?_
    refine awl_nil ?_
    refine thenQ_n ?_
    refine aw_seq ?_
    refine aw_cond (b := (decide (v7 < (words.length : Int)))) (by kernel_rfl) (fun hb => ?_) (fun hb => ?_)
    · have h := h.1 hb
      refine aw_skip ?_
      refine thenQ_n ?_
      refine aw_seq ?_
      refine aw_block ?_
      refine aw_seq ?_
      refine aw_region ?_
      obtain ⟨o1, h⟩ := h
      refine awl_runp 3 [4, 5, 6, 7] [] (ob := (inIdx v7 words.length ∧ True ∧ True ∧ True)) (st' := (⟨15, [(4, [], .v (.c (.p (.sl (.int .u8)) (words.getD (v7).toNat ([] : (List Int)))))), (5, [], .v (.c (.p (.sl (.sl (.int .u8))) words))), (6, [], .v (.c (.p (.int .i64) (words.length : Int)))), (7, [], .v (.c (.p (.int .i64) v7)))], []⟩ : St)) (by kernel_rfl) ⟨o1, trivial, trivial, trivial⟩ ?_
      refine awl_nil ?_
      refine thenQ_n ?_
      refine aw_seq ?_
      refine aw_region ?_
      refine awl_runp 3 [5, 6, 7, 13] [] (ob := (True ∧ True ∧ True ∧ True)) (st' := (⟨15, [(5, [], .v (.c (.p (.sl (.sl (.int .u8))) words))), (6, [], .v (.c (.p (.int .i64) (words.length : Int)))), (7, [], .v (.c (.p (.int .i64) v7))), (13, [], .v (.c (.p .bool (decide ((60 : Int) < ((words.getD (v7).toNat ([] : (List Int))).length : Int))))))], []⟩ : St)) (by kernel_rfl) ⟨trivial, trivial, trivial, trivial⟩ ?_
      refine awl_nil ?_
      refine thenQ_n ?_
      refine aw_cond (b := (decide ((60 : Int) < ((words.getD (v7).toNat ([] : (List Int))).length : Int)))) (by kernel_rfl) (fun hb => ?_) (fun hb => ?_)
      · have h := h.1 hb
        refine aw_seq ?_
        refine aw_region ?_
        refine awl_runp 1 [2] [] (ob := (True ∧ True)) (st' := (⟨15, [(2, [], .v (.c (.p (.int .i64) (1 : Int))))], []⟩ : St)) (by kernel_rfl) ⟨trivial, trivial⟩ ?_
        refine awl_nil ?_
        refine thenQ_n ?_
        refine aw_ret ?_
        refine blockQ_r ?_
        refine thenQ_r ?_
        refine thenQ_r ?_
        refine blockQ_r ?_
        refine thenQ_r ?_
        exact retQ_r (σ := Int) (R := (fun y => [toV1 (.int .i64) y])) (ob := (True ∧ True)) (1 : Int) (by kernel_rfl) ⟨trivial, trivial⟩ h
      · have h := h.2 hb
        refine aw_skip ?_
        refine blockQ_n ?_
        refine thenQ_n ?_
        refine aw_region ?_
        obtain ⟨o1, h⟩ := h
        refine awl_runp 2 [5, 6, 7] [] (ob := (InR (v7 + (1 : Int)) ∧ True ∧ True)) (st' := (⟨15, [(5, [], .v (.c (.p (.sl (.sl (.int .u8))) words))), (6, [], .v (.c (.p (.int .i64) (words.length : Int)))), (7, [], .v (.c (.p (.int .i64) (v7 + (1 : Int)))))], []⟩ : St)) (by kernel_rfl) ⟨o1, trivial, trivial⟩ ?_
        refine awl_nil ?_
        exact thenQ_n ⟨(v7 + (1 : Int)), rfl, h⟩
    · have h := h.2 hb
      refine aw_conv [.prune [] []] (st' := (⟨15, [], []⟩ : St)) (by kernel_rfl) ?_
      refine aw_exit ?_
      refine thenQ_x ?_
      refine thenQ_x ?_
      refine blockQ_hit ?_
      exact rest1 () h

-- bytes.Compare
def VC78 (x0 : List Int) (x1 : List Int) (K : Int → Prop) : Prop := K (cmpI x0 x1)

set_option maxHeartbeats 4000000 in
theorem calls78 (v u : Value) (r : Int) (w : World) (hrun : (Extern.BytealgCompare.compare #[v, u]).run Try.prog w = .ok (.int .i64 r) w) :
    Calls Try.prog 78 #[v, u] w fun e w' => e = .returned (.int .i64 r) ∧ w' = w := by
  go_enter Try.func78, Try.ntmps78
  go_wp2
  rw [run_callFunc_extern Try.func83 (by kernel_rfl) (by kernel_rfl) (by kernel_rfl) (e := Extern.BytealgCompare.compare) (by kernel_rfl), hrun]
  simp only [Result.andThen]
  rw [Oper.upon_value]
  go_wp2
  go_ret
  exact ⟨rfl, rfl⟩

theorem link78 (x0 : List Int) (x1 : List Int) (K : Int → Prop) (h : VC78 x0 x1 K) : ACalls Try.prog 78 [toV1 (.sl (.int .u8)) x0, toV1 (.sl (.int .u8)) x1] (fun res => ∃ y, res = (fun y => [toV1 (.int .i64) y]) y ∧ K y) := by
  intro w S vs hS ha
  match vs, ha with
  | [v, u], ⟨h1, h2, _⟩ =>
  have e1 : Enc w S (.sl (.int .u8)) x0 [v] := h1.v1 (G := ⟨S, fun _ => none, fun _ => undef⟩)
  have e2 : Enc w S (.sl (.int .u8)) x1 [u] := h2.v1 (G := ⟨S, fun _ => none, fun _ => undef⟩)
  refine (calls78 v u _ w (run_compare e1 e2)).mono ?_
  rintro en w' ⟨rfl, rfl⟩
  have hr : ∀ l m : List Int, -1 ≤ cmpI l m ∧ cmpI l m ≤ 1 := by
    intro l
    induction l with
    | nil => intro m; cases m <;> simp [cmpI]
    | cons a l ih =>
      intro m
      cases m with
      | nil => simp [cmpI]
      | cons b m =>
        have := ih m
        simp only [cmpI]
        split
        · omega
        · split <;> omega
  have hr := hr x0 x1
  refine ⟨[_], [toV1 (.int .i64) (cmpI x0 x1)], S, rfl, Bel.refl _ _, fun b hb => ⟨hS b hb, .inl hb⟩, ⟨⟨.int .i64, cmpI x0 x1, _, rfl, ⟨rfl, ?_, ?_⟩, rfl⟩, trivial⟩, _, rfl, h⟩
  · show (-9223372036854775808 : Int) ≤ cmpI x0 x1; omega
  · show cmpI x0 x1 ≤ (9223372036854775807 : Int); omega

-- coppicer/ends.order$1
def VC77 (a : Int) (b : Int) (a2 : (List Int)) (K : Int → Prop) : Prop :=
  ((0 ≤ a ∧ a ≤ (a2.length : Int)) ∧ (0 ≤ b ∧ b ≤ (a2.length : Int)) ∧ VC78 (a2.drop (a).toNat) (a2.drop (b).toNat) (fun (ret12v : Int) => K ret12v))

set_option maxHeartbeats 4000000 in
theorem link77 (a : Int) (b : Int) (a2 : (List Int)) (K : Int → Prop) (h : VC77 a b a2 K) : ACalls Try.prog 77 [toV1 (.int .i64) a, toV1 (.int .i64) b, .c (.ad (.sl (.int .u8)) a2)] (fun res => ∃ y, res = (fun y => [toV1 (.int .i64) y]) y ∧ K y) := by
  refine acalls_of_aw [(.int .i64)] [.t 5] Try.func77 rfl rfl rfl ?_
  unfold VC77 at h
  refine aw_seq ?_
  refine aw_region ?_
  refine awl_runp 1 [0, 1, 2] [] (ob := (True ∧ True)) (st' := (⟨13, [(0, [], .v (.c (.p (.int .i64) a))), (1, [], .v (.c (.p (.int .i64) b))), (2, [], .v (.c (.ad (.sl (.int .u8)) a2)))], []⟩ : St)) (by kernel_rfl) ⟨trivial, trivial⟩ ?_
  refine awl_nil ?_
  refine thenQ_n ?_
  refine aw_seq ?_
  refine awd_begin [] (by kernel_rfl) ?_
  obtain ⟨o1, o2, h⟩ := h
  refine awd_runp (by kernel_rfl) [0, 1, 2, 3, 4, 5] [8, 11] [] (ob := (True ∧ True ∧ (0 ≤ a ∧ a ≤ (a2.length : Int)) ∧ True ∧ True ∧ (0 ≤ b ∧ b ≤ (a2.length : Int)) ∧ True)) (done' := [5, 4, 3, 2, 1, 0]) (st' := (⟨13, [(8, [], .v (.c (.p (.sl (.int .u8)) (a2.drop (a).toNat)))), (11, [], .v (.c (.p (.sl (.int .u8)) (a2.drop (b).toNat))))], []⟩ : St)) (by kernel_rfl) ⟨trivial, trivial, o1, trivial, trivial, o2, trivial⟩ ?_
  refine awd_one (i := 6) (by kernel_rfl) ?_
  refine adop_callk (p := []) (l := [toV1 (.sl (.int .u8)) (a2.drop (a).toNat), toV1 (.sl (.int .u8)) (a2.drop (b).toNat)]) (cl := []) false [.d (.sl (.int .u8)), .d (.sl (.int .u8))] [12] [] (fun (ret12v : Int) => K ret12v) (fun ret12v => [toV1 (.int .i64) ret12v]) (fun ret12v => (⟨13, [(12, [], .v (.c (.p (.int .i64) ret12v)))], []⟩ : St)) rfl (by kernel_rfl) rfl (by kernel_rfl) rfl (by kernel_rfl) Try.call78 (by kernel_rfl) (fun ret12v => by kernel_rfl) (fun e => by cases e) (fun hg => link78 (a2.drop (a).toNat) (a2.drop (b).toNat) _ h) (fun hg => noF hg) (fun ret12v h => ?_)
  have h : K ret12v := h
  refine awd_runp (by kernel_rfl) [7] [5] [] (ob := (True ∧ True)) (done' := [7, 6, 5, 4, 3, 2, 1, 0]) (st' := (⟨13, [(5, [], .v (.c (.p (.int .i64) ret12v)))], []⟩ : St)) (by kernel_rfl) ⟨trivial, trivial⟩ ?_
  refine awd_done (by kernel_rfl) ?_
  refine thenQ_n ?_
  refine aw_ret ?_
  exact retQ_r (σ := Int) (R := (fun y => [toV1 (.int .i64) y])) (ob := (True ∧ True)) ret12v (by kernel_rfl) ⟨trivial, trivial⟩ h

-- coppicer/ends.order
def VC64_k1 (w : (List Int)) (K : (List Int) → Prop) (out : (List Int)) : Prop :=
  SortVC out (fun (x : Int × Int) (K : Int → Prop) => VC77 x.1 x.2 w K) (fun (srtv : List Int) => K srtv)

def VC64_l1 (w : (List Int)) (K : (List Int) → Prop) (v10 : Int) (out : (List Int)) (X1 : Int × (List Int) → Prop) : Prop :=
  (((decide (v10 < ((List.replicate ((w.length : Int)).toNat (0 : Int)).length : Int))) = true → (inIdx v10 out.length ∧ (InR (v10 + (1 : Int)) ∧ X1 ((v10 + (1 : Int)), (out.set ((v10).toNat) v10))))) ∧ ((decide (v10 < ((List.replicate ((w.length : Int)).toNat (0 : Int)).length : Int))) = false → VC64_k1 w K out))

def VC64 (w : (List Int)) (K : (List Int) → Prop) : Prop :=
  (room (w.length : Int) ∧ Loop (σ := Int × (List Int)) (fun s X => VC64_l1 w K s.1 s.2 X) ((0 : Int), (List.replicate ((w.length : Int)).toNat (0 : Int))))

set_option maxHeartbeats 4000000 in
theorem link64 (w : (List Int)) (K : (List Int) → Prop) (h : VC64 w K) : ACalls Try.prog 64 [toV1 (.sl (.int .u8)) w] (fun res => ∃ y, res = (fun y => [toV1 (.sl (.int .i64)) y]) y ∧ K y) := by
  refine acalls_of_aw [(.sl (.int .i64))] [.t 2] Try.func64 rfl rfl rfl ?_
  unfold VC64 at h
  refine aw_seq ?_
  refine aw_region ?_
  refine awl_runp 2 [1] [1] (ob := (True ∧ True ∧ True)) (st' := (⟨22, [(1, [], .v (.c (.ptr 1 0)))], [(1, [], .box [.p (.sl (.int .u8)) w])]⟩ : St)) (by kernel_rfl) ⟨trivial, trivial, trivial⟩ ?_
  refine awl_nil ?_
  refine thenQ_n ?_
  refine aw_seq ?_
  refine aw_region ?_
  obtain ⟨o1, h⟩ := h
  refine awl_runp 4 [1, 3] [1, 7] (ob := (True ∧ True ∧ room (w.length : Int) ∧ True ∧ True)) (st' := (⟨22, [(1, [], .v (.c (.ptr 1 0))), (3, [], .v (.c (.own 7)))], [(1, [], .box [.p (.sl (.int .u8)) w]), (7, [], .arr 3 (.int .i64) (List.replicate ((w.length : Int)).toNat (0 : Int)))]⟩ : St)) (by kernel_rfl) ⟨trivial, trivial, o1, trivial, trivial⟩ ?_
  refine awl_nil ?_
  refine thenQ_n ?_
  refine aw_seq ?_
  refine aw_seq ?_
  refine aw_region ?_
  refine awl_runp 3 [1, 3, 9, 10] [1, 7] (ob := (True ∧ True ∧ True ∧ True)) (st' := (⟨22, [(1, [], .v (.c (.ptr 1 0))), (3, [], .v (.c (.own 7))), (9, [], .v (.c (.p (.int .i64) ((List.replicate ((w.length : Int)).toNat (0 : Int)).length : Int)))), (10, [], .v (.c (.p (.int .i64) (0 : Int))))], [(1, [], .box [.p (.sl (.int .u8)) w]), (7, [], .arr 3 (.int .i64) (List.replicate ((w.length : Int)).toNat (0 : Int)))]⟩ : St)) (by kernel_rfl) ⟨trivial, trivial, trivial, trivial⟩ ?_
  refine awl_nil ?_
  refine thenQ_n ?_
  refine withJoin (σ := (List Int)) (fun s => (⟨22, [(1, [], .v (.c (.ptr 1 0))), (3, [], .v (.c (.own 7)))], [(1, [], .box [.p (.sl (.int .u8)) w]), (7, [], .arr 3 (.int .i64) s)]⟩ : St)) (fun s => VC64_k1 w K s) (fun out h => ?_) (fun rest1 => ?_)
  · have h : VC64_k1 w K out := h
    unfold VC64_k1 at h
    refine thenQ_n ?_
    refine aw_seq ?_
    refine aw_region ?_
    refine awl_runp 1 [1, 3, 18] [1, 7] (ob := (True ∧ True)) (st' := (⟨22, [(1, [], .v (.c (.ptr 1 0))), (3, [], .v (.c (.own 7))), (18, [], .v (.c (.own 7)))], [(1, [], .box [.p (.sl (.int .u8)) w]), (7, [], .arr 3 (.int .i64) out)]⟩ : St)) (by kernel_rfl) ⟨trivial, trivial⟩ ?_
    refine awl_conv [.freezeB 1 (.sl (.int .u8))] (st' := (⟨22, [(1, [], .v (.c (.ad (.sl (.int .u8)) w))), (3, [], .v (.c (.own 7))), (18, [], .v (.c (.own 7)))], [(7, [], .arr 3 (.int .i64) out)]⟩ : St)) (by kernel_rfl) ?_
    refine awl_runp 1 [3, 18, 19] [7] (ob := (True ∧ True)) (st' := (⟨22, [(3, [], .v (.c (.own 7))), (18, [], .v (.c (.own 7))), (19, [], .v (.c (.fn 77 [(⟨(.sl (.int .u8)), w⟩ : Dat)])))], [(7, [], .arr 3 (.int .i64) out)]⟩ : St)) (by kernel_rfl) ⟨trivial, trivial⟩ ?_
    refine awl_lcall (σ := List Int) [7] [7] [.c (.own 7), .c (.fn 77 [(⟨(.sl (.int .u8)), w⟩ : Dat)])] [] (fun _ => .tup []) (fun srtv => [(7, [], .arr 3 (.int .i64) srtv)]) (fun (srtv : List Int) => K srtv) [(7, [], .arr 3 (.int .i64) out)] (fun srtv => (⟨22, [(20, [], .tup []), (3, [], .v (.c (.own 7))), (18, [], .v (.c (.own 7))), (19, [], .v (.c (.fn 77 [(⟨(.sl (.int .u8)), w⟩ : Dat)])))], [(7, [], .arr 3 (.int .i64) srtv)]⟩ : St)) rfl rfl (by kernel_rfl) rfl (by kernel_rfl) Try.call76 (by kernel_rfl) (by kernel_rfl) (by kernel_rfl) (fun _ _ => rfl) (fun _ => by kernel_rfl) (lcalls_sortF Try.sort76 (.int .i64) rfl 3 7 _ _ (⟨Try.call77, fun x K h => link77 x.1 x.2 w K h⟩) h) (fun srtv h => ?_)
    have h : K srtv := h
    refine awl_conv [.prune [3] [7]] (st' := (⟨22, [(3, [], .v (.c (.own 7)))], [(7, [], .arr 3 (.int .i64) srtv)]⟩ : St)) (by kernel_rfl) ?_
    refine awl_nil ?_
    refine thenQ_n ?_
    refine aw_seq ?_
    refine aw_region ?_
    refine awl_runp 2 [2] [7] (ob := (True ∧ True ∧ True)) (st' := (⟨22, [(2, [], .v (.c (.own 7)))], [(7, [], .arr 3 (.int .i64) srtv)]⟩ : St)) (by kernel_rfl) ⟨trivial, trivial, trivial⟩ ?_
    refine awl_nil ?_
    refine thenQ_n ?_
    refine aw_conv [.freeze 7] (st' := (⟨22, [(2, [], .v (.c (.p (.sl (.int .i64)) srtv)))], []⟩ : St)) (by kernel_rfl) ?_
    refine aw_ret ?_
    exact retQ_r (σ := (List Int)) (R := (fun y => [toV1 (.sl (.int .i64)) y])) (ob := (True ∧ True)) srtv (by kernel_rfl) ⟨trivial, trivial⟩ h
  · refine aw_block ?_
    refine aw_loop (σ := Int × (List Int)) (fun s => (⟨22, [(1, [], .v (.c (.ptr 1 0))), (3, [], .v (.c (.own 7))), (9, [], .v (.c (.p (.int .i64) ((List.replicate ((w.length : Int)).toNat (0 : Int)).length : Int)))), (10, [], .v (.c (.p (.int .i64) s.1)))], [(1, [], .box [.p (.sl (.int .u8)) w]), (7, [], .arr 3 (.int .i64) s.2)]⟩ : St)) (fun s X => VC64_l1 w K s.1 s.2 X) (s0 := ((0 : Int), (List.replicate ((w.length : Int)).toNat (0 : Int)))) (fun s X1 h => ?_) h
    obtain ⟨v10, out⟩ := s
    have h : VC64_l1 w K v10 out X1 := h
    unfold VC64_l1 at h
    refine aw_seq ?_
    refine aw_region ?_
    refine awl_runp 1 [1, 3, 9, 10, 11] [1, 7] (ob := (True ∧ True)) (st' := (⟨22, [(1, [], .v (.c (.ptr 1 0))), (3, [], .v (.c (.own 7))), (9, [], .v (.c (.p (.int .i64) ((List.replicate ((w.length : Int)).toNat (0 : Int)).length : Int)))), (10, [], .v (.c (.p (.int .i64) v10))), (11, [], .v (.c (.p .bool (decide (v10 < ((List.replicate ((w.length : Int)).toNat (0 : Int)).length : Int))))))], [(1, [], .box [.p (.sl (.int .u8)) w]), (7, [], .arr 3 (.int .i64) out)]⟩ : St)) (by kernel_rfl) ⟨trivial, trivial⟩ ?_
    refine awl_nil ?_
    refine thenQ_n ?_
    refine aw_seq ?_
    refine aw_cond (b := (decide (v10 < ((List.replicate ((w.length : Int)).toNat (0 : Int)).length : Int)))) (by kernel_rfl) (fun hb => ?_) (fun hb => ?_)
    · have h := h.1 hb
      refine aw_skip ?_
      refine thenQ_n ?_
      refine aw_seq ?_
      refine aw_block ?_
      refine aw_seq ?_
      refine aw_region ?_
      refine awl_runp 2 [1, 3, 4, 9, 10] [1, 7] (ob := (True ∧ True ∧ True)) (st' := (⟨22, [(1, [], .v (.c (.ptr 1 0))), (3, [], .v (.c (.own 7))), (4, [], .v (.c (.p (.int .i64) v10))), (9, [], .v (.c (.p (.int .i64) ((List.replicate ((w.length : Int)).toNat (0 : Int)).length : Int)))), (10, [], .v (.c (.p (.int .i64) v10)))], [(1, [], .box [.p (.sl (.int .u8)) w]), (7, [], .arr 3 (.int .i64) out)]⟩ : St)) (by kernel_rfl) ⟨trivial, trivial, trivial⟩ ?_
      refine awl_nil ?_
      refine thenQ_n ?_
      refine aw_region ?_
      obtain ⟨o1, h⟩ := h
      refine awl_runp 5 [1, 3, 9, 10] [1, 7] (ob := (True ∧ True ∧ True ∧ inIdx v10 out.length ∧ True ∧ True)) (st' := (⟨22, [(1, [], .v (.c (.ptr 1 0))), (3, [], .v (.c (.own 7))), (9, [], .v (.c (.p (.int .i64) ((List.replicate ((w.length : Int)).toNat (0 : Int)).length : Int)))), (10, [], .v (.c (.p (.int .i64) v10)))], [(1, [], .box [.p (.sl (.int .u8)) w]), (7, [], .arr 3 (.int .i64) (out.set ((v10).toNat) v10))]⟩ : St)) (by kernel_rfl) ⟨trivial, trivial, trivial, o1, trivial, trivial⟩ ?_
      refine awl_nil ?_
      refine blockQ_n ?_
      refine thenQ_n ?_
      refine aw_region ?_
      obtain ⟨o1, h⟩ := h
      refine awl_runp 2 [1, 3, 9, 10] [1, 7] (ob := (InR (v10 + (1 : Int)) ∧ True ∧ True)) (st' := (⟨22, [(1, [], .v (.c (.ptr 1 0))), (3, [], .v (.c (.own 7))), (9, [], .v (.c (.p (.int .i64) ((List.replicate ((w.length : Int)).toNat (0 : Int)).length : Int)))), (10, [], .v (.c (.p (.int .i64) (v10 + (1 : Int)))))], [(1, [], .box [.p (.sl (.int .u8)) w]), (7, [], .arr 3 (.int .i64) (out.set ((v10).toNat) v10))]⟩ : St)) (by kernel_rfl) ⟨o1, trivial, trivial⟩ ?_
      refine awl_nil ?_
      exact thenQ_n ⟨((v10 + (1 : Int)), (out.set ((v10).toNat) v10)), rfl, h⟩
    · have h := h.2 hb
      refine aw_conv [.prune [1, 3] [1, 7]] (st' := (⟨22, [(1, [], .v (.c (.ptr 1 0))), (3, [], .v (.c (.own 7)))], [(1, [], .box [.p (.sl (.int .u8)) w]), (7, [], .arr 3 (.int .i64) out)]⟩ : St)) (by kernel_rfl) ?_
      refine aw_exit ?_
      refine thenQ_x ?_
      refine thenQ_x ?_
      refine blockQ_hit ?_
      exact rest1 out h

-- coppicer/ends.Order
def VC34 (w : (List Int)) (K : (List Int) × Int → Prop) : Prop :=
  VC63 [w] (fun (ret7v : Int) => (((!decide (ret7v = (0 : Int))) = true → K (([] : (List Int)), ret7v)) ∧ ((!decide (ret7v = (0 : Int))) = false → VC64 w (fun (ret12v : (List Int)) => K (ret12v, (0 : Int))))))

set_option maxHeartbeats 4000000 in
theorem link34 (w : (List Int)) (K : (List Int) × Int → Prop) (h : VC34 w K) : ACalls Try.prog 34 [toV1 (.sl (.int .u8)) w] (fun res => ∃ y, res = (fun y => [toV1 (.sl (.int .i64)) y.1, toV1 (.int .i64) y.2]) y ∧ K y) := by
  refine acalls_of_aw [(.sl (.int .i64)), (.int .i64)] [.t 2, .t 3] Try.func34 rfl rfl rfl ?_
  unfold VC34 at h
  refine aw_seq ?_
  refine aw_region ?_
  refine awl_runp 2 [0] [] (ob := (True ∧ True ∧ True)) (st' := (⟨13, [(0, [], .v (.c (.p (.sl (.int .u8)) w)))], []⟩ : St)) (by kernel_rfl) ⟨trivial, trivial, trivial⟩ ?_
  refine awl_nil ?_
  refine thenQ_n ?_
  refine aw_seq ?_
  refine aw_seq ?_
  refine aw_region ?_
  refine awl_runp 2 [0, 6] [6] (ob := (True ∧ True ∧ True)) (st' := (⟨13, [(0, [], .v (.c (.p (.sl (.int .u8)) w))), (6, [], .v (.c (.own 6)))], [(6, [], .arr 22 (.sl (.int .u8)) [w])]⟩ : St)) (by kernel_rfl) ⟨trivial, trivial, trivial⟩ ?_
  refine awl_callk (p := []) (l := [toV1 (.sl (.sl (.int .u8))) [w]]) (cl := []) true [.d (.sl (.sl (.int .u8)))] [0, 7] [] (fun (ret7v : Int) => (((!decide (ret7v = (0 : Int))) = true → K (([] : (List Int)), ret7v)) ∧ ((!decide (ret7v = (0 : Int))) = false → VC64 w (fun (ret12v : (List Int)) => K (ret12v, (0 : Int)))))) (fun ret7v => [toV1 (.int .i64) ret7v]) (fun ret7v => (⟨13, [(0, [], .v (.c (.p (.sl (.int .u8)) w))), (7, [], .v (.c (.p (.int .i64) ret7v)))], []⟩ : St)) (by kernel_rfl) rfl (by kernel_rfl) rfl (by kernel_rfl) Try.call63 (by kernel_rfl) (fun ret7v => by kernel_rfl) (fun _ _ => rfl) (fun hg => link63 [w] _ h) (fun hg => noF hg) (fun ret7v h => ?_)
  have h : (((!decide (ret7v = (0 : Int))) = true → K (([] : (List Int)), ret7v)) ∧ ((!decide (ret7v = (0 : Int))) = false → VC64 w (fun (ret12v : (List Int)) => K (ret12v, (0 : Int))))) := h
  refine awl_runp 1 [0, 4] [] (ob := (True ∧ True)) (st' := (⟨13, [(0, [], .v (.c (.p (.sl (.int .u8)) w))), (4, [], .v (.c (.p (.int .i64) ret7v)))], []⟩ : St)) (by kernel_rfl) ⟨trivial, trivial⟩ ?_
  refine awl_nil ?_
  refine thenQ_n ?_
  refine aw_seq ?_
  refine aw_region ?_
  refine awl_runp 2 [0, 4, 9] [] (ob := (True ∧ True ∧ True)) (st' := (⟨13, [(0, [], .v (.c (.p (.sl (.int .u8)) w))), (4, [], .v (.c (.p (.int .i64) ret7v))), (9, [], .v (.c (.p .bool (!decide (ret7v = (0 : Int))))))], []⟩ : St)) (by kernel_rfl) ⟨trivial, trivial, trivial⟩ ?_
  refine awl_nil ?_
  refine thenQ_n ?_
  refine aw_cond (b := (!decide (ret7v = (0 : Int)))) (by kernel_rfl) (fun hb => ?_) (fun hb => ?_)
  · have h := h.1 hb
    refine aw_seq ?_
    refine aw_region ?_
    refine awl_runp 3 [2, 3] [] (ob := (True ∧ True ∧ True ∧ True)) (st' := (⟨13, [(2, [], .v (.c (.nils))), (3, [], .v (.c (.p (.int .i64) ret7v)))], []⟩ : St)) (by kernel_rfl) ⟨trivial, trivial, trivial, trivial⟩ ?_
    refine awl_nil ?_
    refine thenQ_n ?_
    refine aw_ret ?_
    refine thenQ_r ?_
    exact retQ_r (σ := (List Int) × Int) (R := (fun y => [toV1 (.sl (.int .i64)) y.1, toV1 (.int .i64) y.2])) (ob := (True ∧ True ∧ True)) (([] : (List Int)), ret7v) (by kernel_rfl) ⟨trivial, trivial, trivial⟩ h
  · have h := h.2 hb
    refine aw_skip ?_
    refine thenQ_n ?_
    refine aw_seq ?_
    refine aw_region ?_
    refine awl_runp 1 [11] [] (ob := (True ∧ True)) (st' := (⟨13, [(11, [], .v (.c (.p (.sl (.int .u8)) w)))], []⟩ : St)) (by kernel_rfl) ⟨trivial, trivial⟩ ?_
    refine awl_callk (p := []) (l := [toV1 (.sl (.int .u8)) w]) (cl := []) false [.d (.sl (.int .u8))] [12] [] (fun (ret12v : (List Int)) => K (ret12v, (0 : Int))) (fun ret12v => [toV1 (.sl (.int .i64)) ret12v]) (fun ret12v => (⟨13, [(12, [], .v (.c (.p (.sl (.int .i64)) ret12v)))], []⟩ : St)) (by kernel_rfl) rfl (by kernel_rfl) rfl (by kernel_rfl) Try.call64 (by kernel_rfl) (fun ret12v => by kernel_rfl) (fun e => by cases e) (fun hg => link64 w _ h) (fun hg => noF hg) (fun ret12v h => ?_)
    have h : K (ret12v, (0 : Int)) := h
    refine awl_runp 2 [2, 3] [] (ob := (True ∧ True ∧ True)) (st' := (⟨13, [(2, [], .v (.c (.p (.sl (.int .i64)) ret12v))), (3, [], .v (.c (.p (.int .i64) (0 : Int))))], []⟩ : St)) (by kernel_rfl) ⟨trivial, trivial, trivial⟩ ?_
    refine awl_nil ?_
    refine thenQ_n ?_
    refine aw_ret ?_
    exact retQ_r (σ := (List Int) × Int) (R := (fun y => [toV1 (.sl (.int .i64)) y.1, toV1 (.int .i64) y.2])) (ob := (True ∧ True ∧ True)) (ret12v, (0 : Int)) (by kernel_rfl) ⟨trivial, trivial, trivial⟩ h

-- coppicer/ends.common
def VC65_k1 (K : (List Int) → Prop) (out : (List Int)) : Prop :=
  K out

def VC65_k2 (i : Int) (out : (List Int)) (X1 : Int × (List Int) → Prop) (n : Int) : Prop :=
  (roomN (out.length + [n].length) ∧ (InR (i + (1 : Int)) ∧ X1 ((i + (1 : Int)), (out ++ [n]))))

def VC65_l2 (w : (List Int)) (ov : (List Int)) (i : Int) (out : (List Int)) (X1 : Int × (List Int) → Prop) (n : Int) (X2 : Int → Prop) : Prop :=
  ((((decide (n < ((w.drop ((ov.getD ((i - (1 : Int))).toNat (0 : Int))).toNat).length : Int))) && (decide (n < ((w.drop ((ov.getD (i).toNat (0 : Int))).toNat).length : Int)))) = true → inIdx n (w.drop ((ov.getD ((i - (1 : Int))).toNat (0 : Int))).toNat).length) ∧ (((decide (n < ((w.drop ((ov.getD ((i - (1 : Int))).toNat (0 : Int))).toNat).length : Int))) && (decide (n < ((w.drop ((ov.getD (i).toNat (0 : Int))).toNat).length : Int)))) = true → inIdx n (w.drop ((ov.getD (i).toNat (0 : Int))).toNat).length) ∧ (((((decide (n < ((w.drop ((ov.getD ((i - (1 : Int))).toNat (0 : Int))).toNat).length : Int))) && (decide (n < ((w.drop ((ov.getD (i).toNat (0 : Int))).toNat).length : Int)))) && (decide (((w.drop ((ov.getD ((i - (1 : Int))).toNat (0 : Int))).toNat).getD (n).toNat (0 : Int)) = ((w.drop ((ov.getD (i).toNat (0 : Int))).toNat).getD (n).toNat (0 : Int))))) = true → (InR (n + (1 : Int)) ∧ X2 (n + (1 : Int)))) ∧ ((((decide (n < ((w.drop ((ov.getD ((i - (1 : Int))).toNat (0 : Int))).toNat).length : Int))) && (decide (n < ((w.drop ((ov.getD (i).toNat (0 : Int))).toNat).length : Int)))) && (decide (((w.drop ((ov.getD ((i - (1 : Int))).toNat (0 : Int))).toNat).getD (n).toNat (0 : Int)) = ((w.drop ((ov.getD (i).toNat (0 : Int))).toNat).getD (n).toNat (0 : Int))))) = false → VC65_k2 i out X1 n)))

def VC65_l1 (w : (List Int)) (ov : (List Int)) (K : (List Int) → Prop) (i : Int) (out : (List Int)) (X1 : Int × (List Int) → Prop) : Prop :=
  (((decide (i < (ov.length : Int))) = true → (InR (i - (1 : Int)) ∧ inIdx (i - (1 : Int)) ov.length ∧ (0 ≤ (ov.getD ((i - (1 : Int))).toNat (0 : Int)) ∧ (ov.getD ((i - (1 : Int))).toNat (0 : Int)) ≤ (w.length : Int)) ∧ inIdx i ov.length ∧ (0 ≤ (ov.getD (i).toNat (0 : Int)) ∧ (ov.getD (i).toNat (0 : Int)) ≤ (w.length : Int)) ∧ Loop (σ := Int) (fun s X => VC65_l2 w ov i out X1 s X) (0 : Int))) ∧ ((decide (i < (ov.length : Int))) = false → VC65_k1 K out))

def VC65 (w : (List Int)) (ov : (List Int)) (K : (List Int) → Prop) : Prop :=
  Loop (σ := Int × (List Int)) (fun s X => VC65_l1 w ov K s.1 s.2 X) ((1 : Int), ([] : List Int))

set_option maxHeartbeats 4000000 in
theorem link65 (w : (List Int)) (ov : (List Int)) (K : (List Int) → Prop) (h : VC65 w ov K) : ACalls Try.prog 65 [toV1 (.sl (.int .u8)) w, toV1 (.sl (.int .i64)) ov] (fun res => ∃ y, res = (fun y => [toV1 (.sl (.int .i64)) y]) y ∧ K y) := by
  refine acalls_of_aw [(.sl (.int .i64))] [.t 4] Try.func65 rfl rfl rfl ?_
  unfold VC65 at h
  refine aw_seq ?_
  refine aw_region ?_
  refine awl_runp 1 [0, 1] [] (ob := (True ∧ True)) (st' := (⟨57, [(0, [], .v (.c (.p (.sl (.int .u8)) w))), (1, [], .v (.c (.p (.sl (.int .i64)) ov)))], []⟩ : St)) (by kernel_rfl) ⟨trivial, trivial⟩ ?_
  refine awl_nil ?_
  refine thenQ_n ?_
  refine aw_seq ?_
  refine aw_region ?_
  refine awl_runp 1 [0, 1, 5] [] (ob := (True ∧ True)) (st' := (⟨57, [(0, [], .v (.c (.p (.sl (.int .u8)) w))), (1, [], .v (.c (.p (.sl (.int .i64)) ov))), (5, [], .v (.c (.nils)))], []⟩ : St)) (by kernel_rfl) ⟨trivial, trivial⟩ ?_
  refine awl_nil ?_
  refine thenQ_n ?_
  refine aw_seq ?_
  refine aw_seq ?_
  refine aw_region ?_
  refine awl_runp 1 [0, 1, 5, 6] [] (ob := (True ∧ True)) (st' := (⟨57, [(0, [], .v (.c (.p (.sl (.int .u8)) w))), (1, [], .v (.c (.p (.sl (.int .i64)) ov))), (5, [], .v (.c (.nils))), (6, [], .v (.c (.p (.int .i64) (1 : Int))))], []⟩ : St)) (by kernel_rfl) ⟨trivial, trivial⟩ ?_
  refine awl_nil ?_
  refine thenQ_n ?_
  refine withJoin (σ := (List Int)) (fun s => (⟨57, [(5, [], .v (.c (.own 5005)))], [(5005, [], .arr 3 (.int .i64) s)]⟩ : St)) (fun s => VC65_k1 K s) (fun out h => ?_) (fun rest1 => ?_)
  · have h : VC65_k1 K out := h
    unfold VC65_k1 at h
    refine thenQ_n ?_
    refine aw_seq ?_
    refine aw_region ?_
    refine awl_runp 2 [4] [5005] (ob := (True ∧ True ∧ True)) (st' := (⟨57, [(4, [], .v (.c (.own 5005)))], [(5005, [], .arr 3 (.int .i64) out)]⟩ : St)) (by kernel_rfl) ⟨trivial, trivial, trivial⟩ ?_
    refine awl_nil ?_
    refine thenQ_n ?_
    refine aw_conv [.freeze 5005] (st' := (⟨57, [(4, [], .v (.c (.p (.sl (.int .i64)) out)))], []⟩ : St)) (by kernel_rfl) ?_
    refine aw_ret ?_
    exact retQ_r (σ := (List Int)) (R := (fun y => [toV1 (.sl (.int .i64)) y])) (ob := (True ∧ True)) out (by kernel_rfl) ⟨trivial, trivial⟩ h
  · refine aw_block ?_
    refine aw_conv [.nilOwn 5 5005 3 (.int .i64), .prune [0, 1, 5, 6] [5005]] (st' := (⟨57, [(0, [], .v (.c (.p (.sl (.int .u8)) w))), (1, [], .v (.c (.p (.sl (.int .i64)) ov))), (5, [], .v (.c (.own 5005))), (6, [], .v (.c (.p (.int .i64) (1 : Int))))], [(5005, [], .arr 3 (.int .i64) ([] : List Int))]⟩ : St)) (by kernel_rfl) ?_
    refine aw_loop (σ := Int × (List Int)) (fun s => (⟨57, [(0, [], .v (.c (.p (.sl (.int .u8)) w))), (1, [], .v (.c (.p (.sl (.int .i64)) ov))), (5, [], .v (.c (.own 5005))), (6, [], .v (.c (.p (.int .i64) s.1)))], [(5005, [], .arr 3 (.int .i64) s.2)]⟩ : St)) (fun s X => VC65_l1 w ov K s.1 s.2 X) (s0 := ((1 : Int), ([] : List Int))) (fun s X1 h => ?_) h
    obtain ⟨i, out⟩ := s
    have h : VC65_l1 w ov K i out X1 := h
    unfold VC65_l1 at h
    refine aw_seq ?_
    refine aw_seq ?_
    refine aw_region ?_
    refine awl_runp 4 [0, 1, 5, 6, 13] [5005] (ob := (True ∧ True ∧ True ∧ True ∧ True)) (st' := (⟨57, [(0, [], .v (.c (.p (.sl (.int .u8)) w))), (1, [], .v (.c (.p (.sl (.int .i64)) ov))), (5, [], .v (.c (.own 5005))), (6, [], .v (.c (.p (.int .i64) i))), (13, [], .v (.c (.p .bool (decide (i < (ov.length : Int))))))], [(5005, [], .arr 3 (.int .i64) out)]⟩ : St)) (by kernel_rfl) ⟨trivial, trivial, trivial, trivial, trivial⟩ ?_
    refine awl_nil ?_
    refine thenQ_n ?_
    refine aw_cond (b := (decide (i < (ov.length : Int)))) (by kernel_rfl) (fun hb => ?_) (fun hb => ?_)
    · have h := h.1 hb
      refine aw_skip ?_
      refine thenQ_n ?_
      refine aw_seq ?_
      refine aw_block ?_
      refine aw_seq ?_
      refine awd_begin [] (by kernel_rfl) ?_
      obtain ⟨o1, o2, o3, o4, o5, h⟩ := h
      refine awd_runp (by kernel_rfl) [0, 1, 2, 3, 4, 5, 6, 7, 8, 9, 10, 11, 12, 13, 14] [0, 1, 5, 6, 7, 8] [5005] (ob := (True ∧ True ∧ True ∧ InR (i - (1 : Int)) ∧ inIdx (i - (1 : Int)) ov.length ∧ True ∧ (0 ≤ (ov.getD ((i - (1 : Int))).toNat (0 : Int)) ∧ (ov.getD ((i - (1 : Int))).toNat (0 : Int)) ≤ (w.length : Int)) ∧ True ∧ True ∧ True ∧ inIdx i ov.length ∧ True ∧ (0 ≤ (ov.getD (i).toNat (0 : Int)) ∧ (ov.getD (i).toNat (0 : Int)) ≤ (w.length : Int)) ∧ True ∧ True ∧ True)) (done' := [14, 13, 12, 11, 10, 9, 8, 7, 6, 5, 4, 3, 2, 1, 0]) (st' := (⟨57, [(0, [], .v (.c (.p (.sl (.int .u8)) w))), (1, [], .v (.c (.p (.sl (.int .i64)) ov))), (5, [], .v (.c (.own 5005))), (6, [], .v (.c (.p (.int .i64) i))), (7, [], .v (.c (.p (.sl (.int .u8)) (w.drop ((ov.getD ((i - (1 : Int))).toNat (0 : Int))).toNat)))), (8, [], .v (.c (.p (.sl (.int .u8)) (w.drop ((ov.getD (i).toNat (0 : Int))).toNat))))], [(5005, [], .arr 3 (.int .i64) out)]⟩ : St)) (by kernel_rfl) ⟨trivial, trivial, trivial, o1, o2, trivial, o3, trivial, trivial, trivial, o4, trivial, o5, trivial, trivial, trivial⟩ ?_
      refine awd_done (by kernel_rfl) ?_
      refine thenQ_n ?_
      refine aw_seq ?_
      refine aw_region ?_
      refine awl_runp 1 [0, 1, 5, 6, 7, 8, 9] [5005] (ob := (True ∧ True)) (st' := (⟨57, [(0, [], .v (.c (.p (.sl (.int .u8)) w))), (1, [], .v (.c (.p (.sl (.int .i64)) ov))), (5, [], .v (.c (.own 5005))), (6, [], .v (.c (.p (.int .i64) i))), (7, [], .v (.c (.p (.sl (.int .u8)) (w.drop ((ov.getD ((i - (1 : Int))).toNat (0 : Int))).toNat)))), (8, [], .v (.c (.p (.sl (.int .u8)) (w.drop ((ov.getD (i).toNat (0 : Int))).toNat)))), (9, [], .v (.c (.p (.int .i64) (0 : Int))))], [(5005, [], .arr 3 (.int .i64) out)]⟩ : St)) (by kernel_rfl) ⟨trivial, trivial⟩ ?_
      refine awl_nil ?_
      refine thenQ_n ?_
      refine aw_seq ?_
      refine withJoin (σ := Int) (fun s => (⟨57, [(0, [], .v (.c (.p (.sl (.int .u8)) w))), (1, [], .v (.c (.p (.sl (.int .i64)) ov))), (5, [], .v (.c (.own 5005))), (6, [], .v (.c (.p (.int .i64) i))), (9, [], .v (.c (.p (.int .i64) s)))], [(5005, [], .arr 3 (.int .i64) out)]⟩ : St)) (fun s => VC65_k2 i out X1 s) (fun n h => ?_) (fun rest2 => ?_)
      · have h : VC65_k2 i out X1 n := h
        unfold VC65_k2 at h
        refine thenQ_n ?_
        refine aw_region ?_
        obtain ⟨o1, h⟩ := h
        refine awl_runp 5 [0, 1, 5, 6] [55] (ob := (True ∧ True ∧ True ∧ roomN (out.length + [n].length) ∧ True ∧ True)) (st' := (⟨57, [(0, [], .v (.c (.p (.sl (.int .u8)) w))), (1, [], .v (.c (.p (.sl (.int .i64)) ov))), (5, [], .v (.c (.own 55))), (6, [], .v (.c (.p (.int .i64) i)))], [(55, [], .arr 3 (.int .i64) (out ++ [n]))]⟩ : St)) (by kernel_rfl) ⟨trivial, trivial, trivial, o1, trivial, trivial⟩ ?_
        refine awl_nil ?_
        refine blockQ_n ?_
        refine thenQ_n ?_
        refine aw_region ?_
        obtain ⟨o1, h⟩ := h
        refine awl_runp 3 [0, 1, 5, 6] [55] (ob := (True ∧ InR (i + (1 : Int)) ∧ True ∧ True)) (st' := (⟨57, [(0, [], .v (.c (.p (.sl (.int .u8)) w))), (1, [], .v (.c (.p (.sl (.int .i64)) ov))), (5, [], .v (.c (.own 55))), (6, [], .v (.c (.p (.int .i64) (i + (1 : Int)))))], [(55, [], .arr 3 (.int .i64) (out ++ [n]))]⟩ : St)) (by kernel_rfl) ⟨trivial, o1, trivial, trivial⟩ ?_
        refine awl_conv [.ren 55 20055, .ren 20055 5005] (st' := (⟨57, [(0, [], .v (.c (.p (.sl (.int .u8)) w))), (1, [], .v (.c (.p (.sl (.int .i64)) ov))), (5, [], .v (.c (.own 5005))), (6, [], .v (.c (.p (.int .i64) (i + (1 : Int)))))], [(5005, [], .arr 3 (.int .i64) (out ++ [n]))]⟩ : St)) (by kernel_rfl) ?_
        refine awl_nil ?_
        exact thenQ_n ⟨((i + (1 : Int)), (out ++ [n])), rfl, h⟩
      · refine aw_block ?_
        refine aw_loop (σ := Int) (fun s => (⟨57, [(0, [], .v (.c (.p (.sl (.int .u8)) w))), (1, [], .v (.c (.p (.sl (.int .i64)) ov))), (5, [], .v (.c (.own 5005))), (6, [], .v (.c (.p (.int .i64) i))), (7, [], .v (.c (.p (.sl (.int .u8)) (w.drop ((ov.getD ((i - (1 : Int))).toNat (0 : Int))).toNat)))), (8, [], .v (.c (.p (.sl (.int .u8)) (w.drop ((ov.getD (i).toNat (0 : Int))).toNat)))), (9, [], .v (.c (.p (.int .i64) s)))], [(5005, [], .arr 3 (.int .i64) out)]⟩ : St)) (fun s X => VC65_l2 w ov i out X1 s X) (s0 := (0 : Int)) (fun n X2 h => ?_) h
        have h : VC65_l2 w ov i out X1 n X2 := h
        unfold VC65_l2 at h
        refine aw_seq ?_
        refine aw_seq ?_
        refine awd_begin [] (by kernel_rfl) ?_
        obtain ⟨o1, o2, h⟩ := h
        refine awd_runp (by kernel_rfl) [0, 1, 2, 3, 4, 5, 6, 7, 8, 9, 10, 11, 12, 13, 14, 15, 16, 17, 18, 19, 20] [0, 1, 5, 6, 7, 8, 9, 49] [5005] (ob := (True ∧ True ∧ True ∧ True ∧ True ∧ ((decide (n < ((w.drop ((ov.getD ((i - (1 : Int))).toNat (0 : Int))).toNat).length : Int))) = true → True) ∧ ((decide (n < ((w.drop ((ov.getD ((i - (1 : Int))).toNat (0 : Int))).toNat).length : Int))) = true → True) ∧ ((decide (n < ((w.drop ((ov.getD ((i - (1 : Int))).toNat (0 : Int))).toNat).length : Int))) = true → True) ∧ ((decide (n < ((w.drop ((ov.getD ((i - (1 : Int))).toNat (0 : Int))).toNat).length : Int))) = true → True) ∧ True ∧ True ∧ (((decide (n < ((w.drop ((ov.getD ((i - (1 : Int))).toNat (0 : Int))).toNat).length : Int))) && (decide (n < ((w.drop ((ov.getD (i).toNat (0 : Int))).toNat).length : Int)))) = true → True) ∧ (((decide (n < ((w.drop ((ov.getD ((i - (1 : Int))).toNat (0 : Int))).toNat).length : Int))) && (decide (n < ((w.drop ((ov.getD (i).toNat (0 : Int))).toNat).length : Int)))) = true → True) ∧ (((decide (n < ((w.drop ((ov.getD ((i - (1 : Int))).toNat (0 : Int))).toNat).length : Int))) && (decide (n < ((w.drop ((ov.getD (i).toNat (0 : Int))).toNat).length : Int)))) = true → inIdx n (w.drop ((ov.getD ((i - (1 : Int))).toNat (0 : Int))).toNat).length) ∧ (((decide (n < ((w.drop ((ov.getD ((i - (1 : Int))).toNat (0 : Int))).toNat).length : Int))) && (decide (n < ((w.drop ((ov.getD (i).toNat (0 : Int))).toNat).length : Int)))) = true → True) ∧ (((decide (n < ((w.drop ((ov.getD ((i - (1 : Int))).toNat (0 : Int))).toNat).length : Int))) && (decide (n < ((w.drop ((ov.getD (i).toNat (0 : Int))).toNat).length : Int)))) = true → True) ∧ (((decide (n < ((w.drop ((ov.getD ((i - (1 : Int))).toNat (0 : Int))).toNat).length : Int))) && (decide (n < ((w.drop ((ov.getD (i).toNat (0 : Int))).toNat).length : Int)))) = true → True) ∧ (((decide (n < ((w.drop ((ov.getD ((i - (1 : Int))).toNat (0 : Int))).toNat).length : Int))) && (decide (n < ((w.drop ((ov.getD (i).toNat (0 : Int))).toNat).length : Int)))) = true → inIdx n (w.drop ((ov.getD (i).toNat (0 : Int))).toNat).length) ∧ (((decide (n < ((w.drop ((ov.getD ((i - (1 : Int))).toNat (0 : Int))).toNat).length : Int))) && (decide (n < ((w.drop ((ov.getD (i).toNat (0 : Int))).toNat).length : Int)))) = true → True) ∧ (((decide (n < ((w.drop ((ov.getD ((i - (1 : Int))).toNat (0 : Int))).toNat).length : Int))) && (decide (n < ((w.drop ((ov.getD (i).toNat (0 : Int))).toNat).length : Int)))) = true → True) ∧ True ∧ True)) (done' := [20, 19, 18, 17, 16, 15, 14, 13, 12, 11, 10, 9, 8, 7, 6, 5, 4, 3, 2, 1, 0]) (st' := (⟨57, [(0, [], .v (.c (.p (.sl (.int .u8)) w))), (1, [], .v (.c (.p (.sl (.int .i64)) ov))), (5, [], .v (.c (.own 5005))), (6, [], .v (.c (.p (.int .i64) i))), (7, [], .v (.c (.p (.sl (.int .u8)) (w.drop ((ov.getD ((i - (1 : Int))).toNat (0 : Int))).toNat)))), (8, [], .v (.c (.p (.sl (.int .u8)) (w.drop ((ov.getD (i).toNat (0 : Int))).toNat)))), (9, [], .v (.c (.p (.int .i64) n))), (49, [], .v (.c (.p .bool (((decide (n < ((w.drop ((ov.getD ((i - (1 : Int))).toNat (0 : Int))).toNat).length : Int))) && (decide (n < ((w.drop ((ov.getD (i).toNat (0 : Int))).toNat).length : Int)))) && (decide (((w.drop ((ov.getD ((i - (1 : Int))).toNat (0 : Int))).toNat).getD (n).toNat (0 : Int)) = ((w.drop ((ov.getD (i).toNat (0 : Int))).toNat).getD (n).toNat (0 : Int))))))))], [(5005, [], .arr 3 (.int .i64) out)]⟩ : St)) (by kernel_rfl) ⟨trivial, trivial, trivial, trivial, trivial, (fun _ => trivial), (fun _ => trivial), (fun _ => trivial), (fun _ => trivial), trivial, trivial, (fun _ => trivial), (fun _ => trivial), o1, (fun _ => trivial), (fun _ => trivial), (fun _ => trivial), o2, (fun _ => trivial), (fun _ => trivial), trivial, trivial⟩ ?_
        refine awd_done (by kernel_rfl) ?_
        refine thenQ_n ?_
        refine aw_cond (b := (((decide (n < ((w.drop ((ov.getD ((i - (1 : Int))).toNat (0 : Int))).toNat).length : Int))) && (decide (n < ((w.drop ((ov.getD (i).toNat (0 : Int))).toNat).length : Int)))) && (decide (((w.drop ((ov.getD ((i - (1 : Int))).toNat (0 : Int))).toNat).getD (n).toNat (0 : Int)) = ((w.drop ((ov.getD (i).toNat (0 : Int))).toNat).getD (n).toNat (0 : Int)))))) (by kernel_rfl) (fun hb => ?_) (fun hb => ?_)
        · have h := h.1 hb
          refine aw_skip ?_
          refine thenQ_n ?_
          refine aw_block ?_
          refine aw_region ?_
          obtain ⟨o1, h⟩ := h
          refine awl_runp 3 [0, 1, 5, 6, 7, 8, 9] [5005] (ob := (True ∧ InR (n + (1 : Int)) ∧ True ∧ True)) (st' := (⟨57, [(0, [], .v (.c (.p (.sl (.int .u8)) w))), (1, [], .v (.c (.p (.sl (.int .i64)) ov))), (5, [], .v (.c (.own 5005))), (6, [], .v (.c (.p (.int .i64) i))), (7, [], .v (.c (.p (.sl (.int .u8)) (w.drop ((ov.getD ((i - (1 : Int))).toNat (0 : Int))).toNat)))), (8, [], .v (.c (.p (.sl (.int .u8)) (w.drop ((ov.getD (i).toNat (0 : Int))).toNat)))), (9, [], .v (.c (.p (.int .i64) (n + (1 : Int)))))], [(5005, [], .arr 3 (.int .i64) out)]⟩ : St)) (by kernel_rfl) ⟨trivial, o1, trivial, trivial⟩ ?_
          refine awl_nil ?_
          refine blockQ_n ?_
          exact thenQ_n ⟨(n + (1 : Int)), rfl, h⟩
        · have h := h.2 hb
          refine aw_conv [.prune [0, 1, 5, 6, 9] [5005]] (st' := (⟨57, [(0, [], .v (.c (.p (.sl (.int .u8)) w))), (1, [], .v (.c (.p (.sl (.int .i64)) ov))), (5, [], .v (.c (.own 5005))), (6, [], .v (.c (.p (.int .i64) i))), (9, [], .v (.c (.p (.int .i64) n)))], [(5005, [], .arr 3 (.int .i64) out)]⟩ : St)) (by kernel_rfl) ?_
          refine aw_exit ?_
          refine thenQ_x ?_
          refine thenQ_x ?_
          refine blockQ_hit ?_
          exact rest2 n h
    · have h := h.2 hb
      refine aw_conv [.prune [5] [5005]] (st' := (⟨57, [(5, [], .v (.c (.own 5005)))], [(5005, [], .arr 3 (.int .i64) out)]⟩ : St)) (by kernel_rfl) ?_
      refine aw_exit ?_
      refine thenQ_x ?_
      refine thenQ_x ?_
      refine blockQ_hit ?_
      exact rest1 out h

-- coppicer/ends.Common
def VC35 (w : (List Int)) (K : (List Int) × Int → Prop) : Prop :=
  VC63 [w] (fun (ret7v : Int) => (((!decide (ret7v = (0 : Int))) = true → K (([] : (List Int)), ret7v)) ∧ ((!decide (ret7v = (0 : Int))) = false → VC64 w (fun (ret13v : (List Int)) => VC65 w ret13v (fun (ret14v : (List Int)) => K (ret14v, (0 : Int)))))))

set_option maxHeartbeats 4000000 in
theorem link35 (w : (List Int)) (K : (List Int) × Int → Prop) (h : VC35 w K) : ACalls Try.prog 35 [toV1 (.sl (.int .u8)) w] (fun res => ∃ y, res = (fun y => [toV1 (.sl (.int .i64)) y.1, toV1 (.int .i64) y.2]) y ∧ K y) := by
  refine acalls_of_aw [(.sl (.int .i64)), (.int .i64)] [.t 2, .t 3] Try.func35 rfl rfl rfl ?_
  unfold VC35 at h
  refine aw_seq ?_
  refine aw_region ?_
  refine awl_runp 2 [0] [] (ob := (True ∧ True ∧ True)) (st' := (⟨15, [(0, [], .v (.c (.p (.sl (.int .u8)) w)))], []⟩ : St)) (by kernel_rfl) ⟨trivial, trivial, trivial⟩ ?_
  refine awl_nil ?_
  refine thenQ_n ?_
  refine aw_seq ?_
  refine aw_seq ?_
  refine aw_region ?_
  refine awl_runp 2 [0, 6] [6] (ob := (True ∧ True ∧ True)) (st' := (⟨15, [(0, [], .v (.c (.p (.sl (.int .u8)) w))), (6, [], .v (.c (.own 6)))], [(6, [], .arr 22 (.sl (.int .u8)) [w])]⟩ : St)) (by kernel_rfl) ⟨trivial, trivial, trivial⟩ ?_
  refine awl_callk (p := []) (l := [toV1 (.sl (.sl (.int .u8))) [w]]) (cl := []) true [.d (.sl (.sl (.int .u8)))] [0, 7] [] (fun (ret7v : Int) => (((!decide (ret7v = (0 : Int))) = true → K (([] : (List Int)), ret7v)) ∧ ((!decide (ret7v = (0 : Int))) = false → VC64 w (fun (ret13v : (List Int)) => VC65 w ret13v (fun (ret14v : (List Int)) => K (ret14v, (0 : Int))))))) (fun ret7v => [toV1 (.int .i64) ret7v]) (fun ret7v => (⟨15, [(0, [], .v (.c (.p (.sl (.int .u8)) w))), (7, [], .v (.c (.p (.int .i64) ret7v)))], []⟩ : St)) (by kernel_rfl) rfl (by kernel_rfl) rfl (by kernel_rfl) Try.call63 (by kernel_rfl) (fun ret7v => by kernel_rfl) (fun _ _ => rfl) (fun hg => link63 [w] _ h) (fun hg => noF hg) (fun ret7v h => ?_)
  have h : (((!decide (ret7v = (0 : Int))) = true → K (([] : (List Int)), ret7v)) ∧ ((!decide (ret7v = (0 : Int))) = false → VC64 w (fun (ret13v : (List Int)) => VC65 w ret13v (fun (ret14v : (List Int)) => K (ret14v, (0 : Int)))))) := h
  refine awl_runp 1 [0, 4] [] (ob := (True ∧ True)) (st' := (⟨15, [(0, [], .v (.c (.p (.sl (.int .u8)) w))), (4, [], .v (.c (.p (.int .i64) ret7v)))], []⟩ : St)) (by kernel_rfl) ⟨trivial, trivial⟩ ?_
  refine awl_nil ?_
  refine thenQ_n ?_
  refine aw_seq ?_
  refine aw_region ?_
  refine awl_runp 2 [0, 4, 9] [] (ob := (True ∧ True ∧ True)) (st' := (⟨15, [(0, [], .v (.c (.p (.sl (.int .u8)) w))), (4, [], .v (.c (.p (.int .i64) ret7v))), (9, [], .v (.c (.p .bool (!decide (ret7v = (0 : Int))))))], []⟩ : St)) (by kernel_rfl) ⟨trivial, trivial, trivial⟩ ?_
  refine awl_nil ?_
  refine thenQ_n ?_
  refine aw_cond (b := (!decide (ret7v = (0 : Int)))) (by kernel_rfl) (fun hb => ?_) (fun hb => ?_)
  · have h := h.1 hb
    refine aw_seq ?_
    refine aw_region ?_
    refine awl_runp 3 [2, 3] [] (ob := (True ∧ True ∧ True ∧ True)) (st' := (⟨15, [(2, [], .v (.c (.nils))), (3, [], .v (.c (.p (.int .i64) ret7v)))], []⟩ : St)) (by kernel_rfl) ⟨trivial, trivial, trivial, trivial⟩ ?_
    refine awl_nil ?_
    refine thenQ_n ?_
    refine aw_ret ?_
    refine thenQ_r ?_
    exact retQ_r (σ := (List Int) × Int) (R := (fun y => [toV1 (.sl (.int .i64)) y.1, toV1 (.int .i64) y.2])) (ob := (True ∧ True ∧ True)) (([] : (List Int)), ret7v) (by kernel_rfl) ⟨trivial, trivial, trivial⟩ h
  · have h := h.2 hb
    refine aw_skip ?_
    refine thenQ_n ?_
    refine aw_seq ?_
    refine aw_region ?_
    refine awl_runp 2 [11, 12] [] (ob := (True ∧ True ∧ True)) (st' := (⟨15, [(11, [], .v (.c (.p (.sl (.int .u8)) w))), (12, [], .v (.c (.p (.sl (.int .u8)) w)))], []⟩ : St)) (by kernel_rfl) ⟨trivial, trivial, trivial⟩ ?_
    refine awl_callk (p := []) (l := [toV1 (.sl (.int .u8)) w]) (cl := []) false [.d (.sl (.int .u8))] [11, 13] [] (fun (ret13v : (List Int)) => VC65 w ret13v (fun (ret14v : (List Int)) => K (ret14v, (0 : Int)))) (fun ret13v => [toV1 (.sl (.int .i64)) ret13v]) (fun ret13v => (⟨15, [(11, [], .v (.c (.p (.sl (.int .u8)) w))), (13, [], .v (.c (.p (.sl (.int .i64)) ret13v)))], []⟩ : St)) (by kernel_rfl) rfl (by kernel_rfl) rfl (by kernel_rfl) Try.call64 (by kernel_rfl) (fun ret13v => by kernel_rfl) (fun e => by cases e) (fun hg => link64 w _ h) (fun hg => noF hg) (fun ret13v h => ?_)
    have h : VC65 w ret13v (fun (ret14v : (List Int)) => K (ret14v, (0 : Int))) := h
    refine awl_callk (p := []) (l := [toV1 (.sl (.int .u8)) w, toV1 (.sl (.int .i64)) ret13v]) (cl := []) false [.d (.sl (.int .u8)), .d (.sl (.int .i64))] [14] [] (fun (ret14v : (List Int)) => K (ret14v, (0 : Int))) (fun ret14v => [toV1 (.sl (.int .i64)) ret14v]) (fun ret14v => (⟨15, [(14, [], .v (.c (.p (.sl (.int .i64)) ret14v)))], []⟩ : St)) (by kernel_rfl) rfl (by kernel_rfl) rfl (by kernel_rfl) Try.call65 (by kernel_rfl) (fun ret14v => by kernel_rfl) (fun e => by cases e) (fun hg => link65 w ret13v _ h) (fun hg => noF hg) (fun ret14v h => ?_)
    have h : K (ret14v, (0 : Int)) := h
    refine awl_runp 2 [2, 3] [] (ob := (True ∧ True ∧ True)) (st' := (⟨15, [(2, [], .v (.c (.p (.sl (.int .i64)) ret14v))), (3, [], .v (.c (.p (.int .i64) (0 : Int))))], []⟩ : St)) (by kernel_rfl) ⟨trivial, trivial, trivial⟩ ?_
    refine awl_nil ?_
    refine thenQ_n ?_
    refine aw_ret ?_
    exact retQ_r (σ := (List Int) × Int) (R := (fun y => [toV1 (.sl (.int .i64)) y.1, toV1 (.int .i64) y.2])) (ob := (True ∧ True ∧ True)) (ret14v, (0 : Int)) (by kernel_rfl) ⟨trivial, trivial, trivial⟩ h

-- coppicer/coppicerkeep.long
def VC36_k1 (K : Bool → Prop) : Prop :=
  K false

def VC36_l1 (words : (List (List Int))) (K : Bool → Prop) (v7 : Int) (X1 : Int → Prop) : Prop :=
  (((decide (v7 < (words.length : Int))) = true → (inIdx v7 words.length ∧ (((decide ((60 : Int) < ((words.getD (v7).toNat ([] : (List Int))).length : Int))) = true → K true) ∧ ((decide ((60 : Int) < ((words.getD (v7).toNat ([] : (List Int))).length : Int))) = false → (InR (v7 + (1 : Int)) ∧ X1 (v7 + (1 : Int))))))) ∧ ((decide (v7 < (words.length : Int))) = false → VC36_k1 K))

def VC36 (words : (List (List Int))) (K : Bool → Prop) : Prop :=
  Loop (σ := Int) (fun s X => VC36_l1 words K s X) (0 : Int)

set_option maxHeartbeats 4000000 in
theorem link36 (words : (List (List Int))) (K : Bool → Prop) (h : VC36 words K) : ACalls Try.prog 36 [toV1 (.sl (.sl (.int .u8))) words] (fun res => ∃ y, res = (fun y => [toV1 .bool y]) y ∧ K y) := by
  refine acalls_of_aw [.bool] [.t 2] Try.func36 rfl rfl rfl ?_
  unfold VC36 at h
  refine aw_seq ?_
  refine aw_region ?_
  refine awl_runp 1 [0] [] (ob := (True ∧ True)) (st' := (⟨15, [(0, [], .v (.c (.p (.sl (.sl (.int .u8))) words)))], []⟩ : St)) (by kernel_rfl) ⟨trivial, trivial⟩ ?_
  refine awl_nil ?_
  refine thenQ_n ?_
  refine aw_seq ?_
  refine aw_seq ?_
  refine aw_region ?_
  refine awl_runp 3 [5, 6, 7] [] (ob := (True ∧ True ∧ True ∧ True)) (st' := (⟨15, [(5, [], .v (.c (.p (.sl (.sl (.int .u8))) words))), (6, [], .v (.c (.p (.int .i64) (words.length : Int)))), (7, [], .v (.c (.p (.int .i64) (0 : Int))))], []⟩ : St)) (by kernel_rfl) ⟨trivial, trivial, trivial, trivial⟩ ?_
  refine awl_nil ?_
  refine thenQ_n ?_
  refine withJoin (σ := Unit) (fun s => (⟨15, [], []⟩ : St)) (fun s => VC36_k1 K) (fun s h => ?_) (fun rest1 => ?_)
  · have h : VC36_k1 K := h
    unfold VC36_k1 at h
    refine thenQ_n ?_
    refine aw_seq ?_
    refine aw_region ?_
    refine awl_runp 1 [2] [] (ob := (True ∧ True)) (st' := (⟨15, [(2, [], .v (.c (.p .bool false)))], []⟩ : St)) (by kernel_rfl) ⟨trivial, trivial⟩ ?_
    refine awl_nil ?_
    refine thenQ_n ?_
    refine aw_ret ?_
    exact retQ_r (σ := Bool) (R := (fun y => [toV1 .bool y])) (ob := (True ∧ True)) false (by kernel_rfl) ⟨trivial, trivial⟩ h
  · refine aw_block ?_
    refine aw_loop (σ := Int) (fun s => (⟨15, [(5, [], .v (.c (.p (.sl (.sl (.int .u8))) words))), (6, [], .v (.c (.p (.int .i64) (words.length : Int)))), (7, [], .v (.c (.p (.int .i64) s)))], []⟩ : St)) (fun s X => VC36_l1 words K s X) (s0 := (0 : Int)) (fun v7 X1 h => ?_) h
    have h : VC36_l1 words K v7 X1 := h
    unfold VC36_l1 at h
    refine aw_seq ?_
    refine aw_region ?_
    refine awl_runp 1 [5, 6, 7, 8] [] (ob := (True ∧ True)) (st' := (⟨15, [(5, [], .v (.c (.p (.sl (.sl (.int .u8))) words))), (6, [], .v (.c (.p (.int .i64) (words.length : Int)))), (7, [], .v (.c (.p (.int .i64) v7))), (8, [], .v (.c (.p .bool (decide (v7 < (words.length : Int))))))], []⟩ : St)) (by kernel_rfl) ⟨trivial, trivial⟩ ?_
    refine awl_nil ?_
    refine thenQ_n ?_
    refine aw_seq ?_
    refine aw_cond (b := (decide (v7 < (words.length : Int)))) (by kernel_rfl) (fun hb => ?_) (fun hb => ?_)
    · have h := h.1 hb
      refine aw_skip ?_
      refine thenQ_n ?_
      refine aw_seq ?_
      refine aw_block ?_
      refine aw_seq ?_
      refine aw_region ?_
      obtain ⟨o1, h⟩ := h
      refine awl_runp 3 [4, 5, 6, 7] [] (ob := (inIdx v7 words.length ∧ True ∧ True ∧ True)) (st' := (⟨15, [(4, [], .v (.c (.p (.sl (.int .u8)) (words.getD (v7).toNat ([] : (List Int)))))), (5, [], .v (.c (.p (.sl (.sl (.int .u8))) words))), (6, [], .v (.c (.p (.int .i64) (words.length : Int)))), (7, [], .v (.c (.p (.int .i64) v7)))], []⟩ : St)) (by kernel_rfl) ⟨o1, trivial, trivial, trivial⟩ ?_
      refine awl_nil ?_
      refine thenQ_n ?_
      refine aw_seq ?_
      refine aw_region ?_
      refine awl_runp 3 [5, 6, 7, 13] [] (ob := (True ∧ True ∧ True ∧ True)) (st' := (⟨15, [(5, [], .v (.c (.p (.sl (.sl (.int .u8))) words))), (6, [], .v (.c (.p (.int .i64) (words.length : Int)))), (7, [], .v (.c (.p (.int .i64) v7))), (13, [], .v (.c (.p .bool (decide ((60 : Int) < ((words.getD (v7).toNat ([] : (List Int))).length : Int))))))], []⟩ : St)) (by kernel_rfl) ⟨trivial, trivial, trivial, trivial⟩ ?_
      refine awl_nil ?_
      refine thenQ_n ?_
      refine aw_cond (b := (decide ((60 : Int) < ((words.getD (v7).toNat ([] : (List Int))).length : Int)))) (by kernel_rfl) (fun hb => ?_) (fun hb => ?_)
      · have h := h.1 hb
        refine aw_seq ?_
        refine aw_region ?_
        refine awl_runp 1 [2] [] (ob := (True ∧ True)) (st' := (⟨15, [(2, [], .v (.c (.p .bool true)))], []⟩ : St)) (by kernel_rfl) ⟨trivial, trivial⟩ ?_
        refine awl_nil ?_
        refine thenQ_n ?_
        refine aw_ret ?_
        refine blockQ_r ?_
        refine thenQ_r ?_
        refine thenQ_r ?_
        refine blockQ_r ?_
        refine thenQ_r ?_
        exact retQ_r (σ := Bool) (R := (fun y => [toV1 .bool y])) (ob := (True ∧ True)) true (by kernel_rfl) ⟨trivial, trivial⟩ h
      · have h := h.2 hb
        refine aw_skip ?_
        refine blockQ_n ?_
        refine thenQ_n ?_
        refine aw_region ?_
        obtain ⟨o1, h⟩ := h
        refine awl_runp 2 [5, 6, 7] [] (ob := (InR (v7 + (1 : Int)) ∧ True ∧ True)) (st' := (⟨15, [(5, [], .v (.c (.p (.sl (.sl (.int .u8))) words))), (6, [], .v (.c (.p (.int .i64) (words.length : Int)))), (7, [], .v (.c (.p (.int .i64) (v7 + (1 : Int)))))], []⟩ : St)) (by kernel_rfl) ⟨o1, trivial, trivial⟩ ?_
        refine awl_nil ?_
        exact thenQ_n ⟨(v7 + (1 : Int)), rfl, h⟩
    · have h := h.2 hb
      refine aw_conv [.prune [] []] (st' := (⟨15, [], []⟩ : St)) (by kernel_rfl) ?_
      refine aw_exit ?_
      refine thenQ_x ?_
      refine thenQ_x ?_
      refine blockQ_hit ?_
      exact rest1 () h

-- coppicer/coppicerref.Less
def VC37_k1 (a : (List Int)) (b : (List Int)) (K : Bool → Prop) : Prop :=
  K (decide ((a.length : Int) < (b.length : Int)))

def VC37_l1 (a : (List Int)) (b : (List Int)) (K : Bool → Prop) (i : Int) (X1 : Int → Prop) : Prop :=
  ((((decide (i < (a.length : Int))) && (decide (i < (b.length : Int)))) = true → (inIdx i a.length ∧ inIdx i b.length ∧ (((!decide ((a.getD (i).toNat (0 : Int)) = (b.getD (i).toNat (0 : Int)))) = true → (inIdx i a.length ∧ inIdx i b.length ∧ K (decide ((a.getD (i).toNat (0 : Int)) < (b.getD (i).toNat (0 : Int)))))) ∧ ((!decide ((a.getD (i).toNat (0 : Int)) = (b.getD (i).toNat (0 : Int)))) = false → (InR (i + (1 : Int)) ∧ X1 (i + (1 : Int))))))) ∧ (((decide (i < (a.length : Int))) && (decide (i < (b.length : Int)))) = false → VC37_k1 a b K))

def VC37 (a : (List Int)) (b : (List Int)) (K : Bool → Prop) : Prop :=
  Loop (σ := Int) (fun s X => VC37_l1 a b K s X) (0 : Int)

set_option maxHeartbeats 4000000 in
theorem link37 (a : (List Int)) (b : (List Int)) (K : Bool → Prop) (h : VC37 a b K) : ACalls Try.prog 37 [toV1 (.sl (.int .u8)) a, toV1 (.sl (.int .u8)) b] (fun res => ∃ y, res = (fun y => [toV1 .bool y]) y ∧ K y) := by
  refine acalls_of_aw [.bool] [.t 4] Try.func37 rfl rfl rfl ?_
  unfold VC37 at h
  refine aw_seq ?_
  refine aw_region ?_
  refine awl_runp 1 [0, 1] [] (ob := (True ∧ True)) (st' := (⟨41, [(0, [], .v (.c (.p (.sl (.int .u8)) a))), (1, [], .v (.c (.p (.sl (.int .u8)) b)))], []⟩ : St)) (by kernel_rfl) ⟨trivial, trivial⟩ ?_
  refine awl_nil ?_
  refine thenQ_n ?_
  refine aw_seq ?_
  refine aw_seq ?_
  refine aw_region ?_
  refine awl_runp 1 [0, 1, 5] [] (ob := (True ∧ True)) (st' := (⟨41, [(0, [], .v (.c (.p (.sl (.int .u8)) a))), (1, [], .v (.c (.p (.sl (.int .u8)) b))), (5, [], .v (.c (.p (.int .i64) (0 : Int))))], []⟩ : St)) (by kernel_rfl) ⟨trivial, trivial⟩ ?_
  refine awl_nil ?_
  refine thenQ_n ?_
  refine withJoin (σ := Unit) (fun s => (⟨41, [(0, [], .v (.c (.p (.sl (.int .u8)) a))), (1, [], .v (.c (.p (.sl (.int .u8)) b)))], []⟩ : St)) (fun s => VC37_k1 a b K) (fun s h => ?_) (fun rest1 => ?_)
  · have h : VC37_k1 a b K := h
    unfold VC37_k1 at h
    refine thenQ_n ?_
    refine aw_seq ?_
    refine aw_region ?_
    refine awl_runp 6 [4] [] (ob := (True ∧ True ∧ True ∧ True ∧ True ∧ True ∧ True)) (st' := (⟨41, [(4, [], .v (.c (.p .bool (decide ((a.length : Int) < (b.length : Int))))))], []⟩ : St)) (by kernel_rfl) ⟨trivial, trivial, trivial, trivial, trivial, trivial, trivial⟩ ?_
    refine awl_nil ?_
    refine thenQ_n ?_
    refine aw_ret ?_
    exact retQ_r (σ := Bool) (R := (fun y => [toV1 .bool y])) (ob := (True ∧ True)) (decide ((a.length : Int) < (b.length : Int))) (by kernel_rfl) ⟨trivial, trivial⟩ h
  · refine aw_block ?_
    refine aw_loop (σ := Int) (fun s => (⟨41, [(0, [], .v (.c (.p (.sl (.int .u8)) a))), (1, [], .v (.c (.p (.sl (.int .u8)) b))), (5, [], .v (.c (.p (.int .i64) s)))], []⟩ : St)) (fun s X => VC37_l1 a b K s X) (s0 := (0 : Int)) (fun i X1 h => ?_) h
    have h : VC37_l1 a b K i X1 := h
    unfold VC37_l1 at h
    refine aw_seq ?_
    refine aw_seq ?_
    refine aw_region ?_
    refine awl_runp 10 [0, 1, 5, 15] [] (ob := (True ∧ True ∧ True ∧ True ∧ True ∧ ((decide (i < (a.length : Int))) = true → True) ∧ ((decide (i < (a.length : Int))) = true → True) ∧ ((decide (i < (a.length : Int))) = true → True) ∧ ((decide (i < (a.length : Int))) = true → True) ∧ True ∧ True)) (st' := (⟨41, [(0, [], .v (.c (.p (.sl (.int .u8)) a))), (1, [], .v (.c (.p (.sl (.int .u8)) b))), (5, [], .v (.c (.p (.int .i64) i))), (15, [], .v (.c (.p .bool ((decide (i < (a.length : Int))) && (decide (i < (b.length : Int)))))))], []⟩ : St)) (by kernel_rfl) ⟨trivial, trivial, trivial, trivial, trivial, (fun _ => trivial), (fun _ => trivial), (fun _ => trivial), (fun _ => trivial), trivial, trivial⟩ ?_
    refine awl_nil ?_
    refine thenQ_n ?_
    refine aw_cond (b := ((decide (i < (a.length : Int))) && (decide (i < (b.length : Int))))) (by kernel_rfl) (fun hb => ?_) (fun hb => ?_)
    · have h := h.1 hb
      refine aw_skip ?_
      refine thenQ_n ?_
      refine aw_seq ?_
      refine aw_block ?_
      refine aw_seq ?_
      refine awd_begin [] (by kernel_rfl) ?_
      obtain ⟨o1, o2, h⟩ := h
      refine awd_runp (by kernel_rfl) [0, 1, 2, 3, 4, 5, 6, 7, 8] [0, 1, 5, 26] [] (ob := (True ∧ True ∧ inIdx i a.length ∧ True ∧ True ∧ True ∧ inIdx i b.length ∧ True ∧ True ∧ True)) (done' := [8, 7, 6, 5, 4, 3, 2, 1, 0]) (st' := (⟨41, [(0, [], .v (.c (.p (.sl (.int .u8)) a))), (1, [], .v (.c (.p (.sl (.int .u8)) b))), (5, [], .v (.c (.p (.int .i64) i))), (26, [], .v (.c (.p .bool (!decide ((a.getD (i).toNat (0 : Int)) = (b.getD (i).toNat (0 : Int)))))))], []⟩ : St)) (by kernel_rfl) ⟨trivial, trivial, o1, trivial, trivial, trivial, o2, trivial, trivial, trivial⟩ ?_
      refine awd_done (by kernel_rfl) ?_
      refine thenQ_n ?_
      refine aw_cond (b := (!decide ((a.getD (i).toNat (0 : Int)) = (b.getD (i).toNat (0 : Int))))) (by kernel_rfl) (fun hb => ?_) (fun hb => ?_)
      · have h := h.1 hb
        refine aw_seq ?_
        refine awd_begin [] (by kernel_rfl) ?_
        obtain ⟨o1, o2, h⟩ := h
        refine awd_runp (by kernel_rfl) [0, 1, 2, 3, 4, 5, 6, 7, 8, 9] [4] [] (ob := (True ∧ True ∧ inIdx i a.length ∧ True ∧ True ∧ True ∧ inIdx i b.length ∧ True ∧ True ∧ True ∧ True)) (done' := [9, 8, 7, 6, 5, 4, 3, 2, 1, 0]) (st' := (⟨41, [(4, [], .v (.c (.p .bool (decide ((a.getD (i).toNat (0 : Int)) < (b.getD (i).toNat (0 : Int)))))))], []⟩ : St)) (by kernel_rfl) ⟨trivial, trivial, o1, trivial, trivial, trivial, o2, trivial, trivial, trivial, trivial⟩ ?_
        refine awd_done (by kernel_rfl) ?_
        refine thenQ_n ?_
        refine aw_ret ?_
        refine blockQ_r ?_
        refine thenQ_r ?_
        refine thenQ_r ?_
        refine blockQ_r ?_
        refine thenQ_r ?_
        exact retQ_r (σ := Bool) (R := (fun y => [toV1 .bool y])) (ob := (True ∧ True)) (decide ((a.getD (i).toNat (0 : Int)) < (b.getD (i).toNat (0 : Int)))) (by kernel_rfl) ⟨trivial, trivial⟩ h
      · have h := h.2 hb
        refine aw_skip ?_
        refine blockQ_n ?_
        refine thenQ_n ?_
        refine aw_region ?_
        obtain ⟨o1, h⟩ := h
        refine awl_runp 3 [0, 1, 5] [] (ob := (True ∧ InR (i + (1 : Int)) ∧ True ∧ True)) (st' := (⟨41, [(0, [], .v (.c (.p (.sl (.int .u8)) a))), (1, [], .v (.c (.p (.sl (.int .u8)) b))), (5, [], .v (.c (.p (.int .i64) (i + (1 : Int)))))], []⟩ : St)) (by kernel_rfl) ⟨trivial, o1, trivial, trivial⟩ ?_
        refine awl_nil ?_
        exact thenQ_n ⟨(i + (1 : Int)), rfl, h⟩
    · have h := h.2 hb
      refine aw_conv [.prune [0, 1] []] (st' := (⟨41, [(0, [], .v (.c (.p (.sl (.int .u8)) a))), (1, [], .v (.c (.p (.sl (.int .u8)) b)))], []⟩ : St)) (by kernel_rfl) ?_
      refine aw_exit ?_
      refine thenQ_x ?_
      refine thenQ_x ?_
      refine blockQ_hit ?_
      exact rest1 () h

-- coppicer/coppicerref.Alike
def VC38_k1 (K : Int → Prop) (n : Int) : Prop :=
  K n

def VC38_l1 (a : (List Int)) (b : (List Int)) (K : Int → Prop) (n : Int) (X1 : Int → Prop) : Prop :=
  ((((decide (n < (a.length : Int))) && (decide (n < (b.length : Int)))) = true → inIdx n a.length) ∧ (((decide (n < (a.length : Int))) && (decide (n < (b.length : Int)))) = true → inIdx n b.length) ∧ (((((decide (n < (a.length : Int))) && (decide (n < (b.length : Int)))) && (decide ((a.getD (n).toNat (0 : Int)) = (b.getD (n).toNat (0 : Int))))) = true → (InR (n + (1 : Int)) ∧ X1 (n + (1 : Int)))) ∧ ((((decide (n < (a.length : Int))) && (decide (n < (b.length : Int)))) && (decide ((a.getD (n).toNat (0 : Int)) = (b.getD (n).toNat (0 : Int))))) = false → VC38_k1 K n)))

def VC38 (a : (List Int)) (b : (List Int)) (K : Int → Prop) : Prop :=
  Loop (σ := Int) (fun s X => VC38_l1 a b K s X) (0 : Int)

set_option maxHeartbeats 4000000 in
theorem link38 (a : (List Int)) (b : (List Int)) (K : Int → Prop) (h : VC38 a b K) : ACalls Try.prog 38 [toV1 (.sl (.int .u8)) a, toV1 (.sl (.int .u8)) b] (fun res => ∃ y, res = (fun y => [toV1 (.int .i64) y]) y ∧ K y) := by
  refine acalls_of_aw [(.int .i64)] [.t 4] Try.func38 rfl rfl rfl ?_
  unfold VC38 at h
  refine aw_seq ?_
  refine aw_region ?_
  refine awl_runp 1 [0, 1] [] (ob := (True ∧ True)) (st' := (⟨30, [(0, [], .v (.c (.p (.sl (.int .u8)) a))), (1, [], .v (.c (.p (.sl (.int .u8)) b)))], []⟩ : St)) (by kernel_rfl) ⟨trivial, trivial⟩ ?_
  refine awl_nil ?_
  refine thenQ_n ?_
  refine aw_seq ?_
  refine aw_region ?_
  refine awl_runp 1 [0, 1, 5] [] (ob := (True ∧ True)) (st' := (⟨30, [(0, [], .v (.c (.p (.sl (.int .u8)) a))), (1, [], .v (.c (.p (.sl (.int .u8)) b))), (5, [], .v (.c (.p (.int .i64) (0 : Int))))], []⟩ : St)) (by kernel_rfl) ⟨trivial, trivial⟩ ?_
  refine awl_nil ?_
  refine thenQ_n ?_
  refine aw_seq ?_
  refine withJoin (σ := Int) (fun s => (⟨30, [(5, [], .v (.c (.p (.int .i64) s)))], []⟩ : St)) (fun s => VC38_k1 K s) (fun n h => ?_) (fun rest1 => ?_)
  · have h : VC38_k1 K n := h
    unfold VC38_k1 at h
    refine thenQ_n ?_
    refine aw_seq ?_
    refine aw_region ?_
    refine awl_runp 2 [4] [] (ob := (True ∧ True ∧ True)) (st' := (⟨30, [(4, [], .v (.c (.p (.int .i64) n)))], []⟩ : St)) (by kernel_rfl) ⟨trivial, trivial, trivial⟩ ?_
    refine awl_nil ?_
    refine thenQ_n ?_
    refine aw_ret ?_
    exact retQ_r (σ := Int) (R := (fun y => [toV1 (.int .i64) y])) (ob := (True ∧ True)) n (by kernel_rfl) ⟨trivial, trivial⟩ h
  · refine aw_block ?_
    refine aw_loop (σ := Int) (fun s => (⟨30, [(0, [], .v (.c (.p (.sl (.int .u8)) a))), (1, [], .v (.c (.p (.sl (.int .u8)) b))), (5, [], .v (.c (.p (.int .i64) s)))], []⟩ : St)) (fun s X => VC38_l1 a b K s X) (s0 := (0 : Int)) (fun n X1 h => ?_) h
    have h : VC38_l1 a b K n X1 := h
    unfold VC38_l1 at h
    refine aw_seq ?_
    refine aw_seq ?_
    refine awd_begin [] (by kernel_rfl) ?_
    obtain ⟨o1, o2, h⟩ := h
    refine awd_runp (by kernel_rfl) [0, 1, 2, 3, 4, 5, 6, 7, 8, 9, 10, 11, 12, 13, 14, 15, 16, 17, 18, 19, 20] [0, 1, 5, 26] [] (ob := (True ∧ True ∧ True ∧ True ∧ True ∧ ((decide (n < (a.length : Int))) = true → True) ∧ ((decide (n < (a.length : Int))) = true → True) ∧ ((decide (n < (a.length : Int))) = true → True) ∧ ((decide (n < (a.length : Int))) = true → True) ∧ True ∧ True ∧ (((decide (n < (a.length : Int))) && (decide (n < (b.length : Int)))) = true → True) ∧ (((decide (n < (a.length : Int))) && (decide (n < (b.length : Int)))) = true → True) ∧ (((decide (n < (a.length : Int))) && (decide (n < (b.length : Int)))) = true → inIdx n a.length) ∧ (((decide (n < (a.length : Int))) && (decide (n < (b.length : Int)))) = true → True) ∧ (((decide (n < (a.length : Int))) && (decide (n < (b.length : Int)))) = true → True) ∧ (((decide (n < (a.length : Int))) && (decide (n < (b.length : Int)))) = true → True) ∧ (((decide (n < (a.length : Int))) && (decide (n < (b.length : Int)))) = true → inIdx n b.length) ∧ (((decide (n < (a.length : Int))) && (decide (n < (b.length : Int)))) = true → True) ∧ (((decide (n < (a.length : Int))) && (decide (n < (b.length : Int)))) = true → True) ∧ True ∧ True)) (done' := [20, 19, 18, 17, 16, 15, 14, 13, 12, 11, 10, 9, 8, 7, 6, 5, 4, 3, 2, 1, 0]) (st' := (⟨30, [(0, [], .v (.c (.p (.sl (.int .u8)) a))), (1, [], .v (.c (.p (.sl (.int .u8)) b))), (5, [], .v (.c (.p (.int .i64) n))), (26, [], .v (.c (.p .bool (((decide (n < (a.length : Int))) && (decide (n < (b.length : Int)))) && (decide ((a.getD (n).toNat (0 : Int)) = (b.getD (n).toNat (0 : Int))))))))], []⟩ : St)) (by kernel_rfl) ⟨trivial, trivial, trivial, trivial, trivial, (fun _ => trivial), (fun _ => trivial), (fun _ => trivial), (fun _ => trivial), trivial, trivial, (fun _ => trivial), (fun _ => trivial), o1, (fun _ => trivial), (fun _ => trivial), (fun _ => trivial), o2, (fun _ => trivial), (fun _ => trivial), trivial, trivial⟩ ?_
    refine awd_done (by kernel_rfl) ?_
    refine thenQ_n ?_
    refine aw_cond (b := (((decide (n < (a.length : Int))) && (decide (n < (b.length : Int)))) && (decide ((a.getD (n).toNat (0 : Int)) = (b.getD (n).toNat (0 : Int)))))) (by kernel_rfl) (fun hb => ?_) (fun hb => ?_)
    · have h := h.1 hb
      refine aw_skip ?_
      refine thenQ_n ?_
      refine aw_block ?_
      refine aw_region ?_
      obtain ⟨o1, h⟩ := h
      refine awl_runp 3 [0, 1, 5] [] (ob := (True ∧ InR (n + (1 : Int)) ∧ True ∧ True)) (st' := (⟨30, [(0, [], .v (.c (.p (.sl (.int .u8)) a))), (1, [], .v (.c (.p (.sl (.int .u8)) b))), (5, [], .v (.c (.p (.int .i64) (n + (1 : Int)))))], []⟩ : St)) (by kernel_rfl) ⟨trivial, o1, trivial, trivial⟩ ?_
      refine awl_nil ?_
      refine blockQ_n ?_
      exact thenQ_n ⟨(n + (1 : Int)), rfl, h⟩
    · have h := h.2 hb
      refine aw_conv [.prune [5] []] (st' := (⟨30, [(5, [], .v (.c (.p (.int .i64) n)))], []⟩ : St)) (by kernel_rfl) ?_
      refine aw_exit ?_
      refine thenQ_x ?_
      refine thenQ_x ?_
      refine blockQ_hit ?_
      exact rest1 n h

-- coppicer/coppicerkeep.EndsRise
def VC12_k1 (K : Bool → Prop) : Prop :=
  K true

def VC12_l1 (w : (List Int)) (K : Bool → Prop) (ret10v : (List Int) × Int) (ret15v : (List Int) × Int) (k : Int) (X1 : Int → Prop) : Prop :=
  (((decide (k < (ret10v.1.length : Int))) = true → (inIdx k ret10v.1.length ∧ ((decide ((ret10v.1.getD (k).toNat (0 : Int)) < (0 : Int))) = false → inIdx k ret10v.1.length) ∧ (((decide ((ret10v.1.getD (k).toNat (0 : Int)) < (0 : Int))) || (decide ((w.length : Int) ≤ (ret10v.1.getD (k).toNat (0 : Int))))) = false → InR (k - (1 : Int))) ∧ (((decide ((ret10v.1.getD (k).toNat (0 : Int)) < (0 : Int))) || (decide ((w.length : Int) ≤ (ret10v.1.getD (k).toNat (0 : Int))))) = false → inIdx (k - (1 : Int)) ret10v.1.length) ∧ ((((decide ((ret10v.1.getD (k).toNat (0 : Int)) < (0 : Int))) || (decide ((w.length : Int) ≤ (ret10v.1.getD (k).toNat (0 : Int))))) || (decide ((ret10v.1.getD ((k - (1 : Int))).toNat (0 : Int)) < (0 : Int)))) = false → InR (k - (1 : Int))) ∧ ((((decide ((ret10v.1.getD (k).toNat (0 : Int)) < (0 : Int))) || (decide ((w.length : Int) ≤ (ret10v.1.getD (k).toNat (0 : Int))))) || (decide ((ret10v.1.getD ((k - (1 : Int))).toNat (0 : Int)) < (0 : Int)))) = false → inIdx (k - (1 : Int)) ret10v.1.length) ∧ (((((decide ((ret10v.1.getD (k).toNat (0 : Int)) < (0 : Int))) || (decide ((w.length : Int) ≤ (ret10v.1.getD (k).toNat (0 : Int))))) || (decide ((ret10v.1.getD ((k - (1 : Int))).toNat (0 : Int)) < (0 : Int)))) || (decide ((w.length : Int) ≤ (ret10v.1.getD ((k - (1 : Int))).toNat (0 : Int))))) = false → InR (k - (1 : Int))) ∧ (((((decide ((ret10v.1.getD (k).toNat (0 : Int)) < (0 : Int))) || (decide ((w.length : Int) ≤ (ret10v.1.getD (k).toNat (0 : Int))))) || (decide ((ret10v.1.getD ((k - (1 : Int))).toNat (0 : Int)) < (0 : Int)))) || (decide ((w.length : Int) ≤ (ret10v.1.getD ((k - (1 : Int))).toNat (0 : Int))))) = false → inIdx (k - (1 : Int)) ret10v.1.length) ∧ (((((decide ((ret10v.1.getD (k).toNat (0 : Int)) < (0 : Int))) || (decide ((w.length : Int) ≤ (ret10v.1.getD (k).toNat (0 : Int))))) || (decide ((ret10v.1.getD ((k - (1 : Int))).toNat (0 : Int)) < (0 : Int)))) || (decide ((w.length : Int) ≤ (ret10v.1.getD ((k - (1 : Int))).toNat (0 : Int))))) = false → (0 ≤ (ret10v.1.getD ((k - (1 : Int))).toNat (0 : Int)) ∧ (ret10v.1.getD ((k - (1 : Int))).toNat (0 : Int)) ≤ (w.length : Int))) ∧ (((((decide ((ret10v.1.getD (k).toNat (0 : Int)) < (0 : Int))) || (decide ((w.length : Int) ≤ (ret10v.1.getD (k).toNat (0 : Int))))) || (decide ((ret10v.1.getD ((k - (1 : Int))).toNat (0 : Int)) < (0 : Int)))) || (decide ((w.length : Int) ≤ (ret10v.1.getD ((k - (1 : Int))).toNat (0 : Int))))) = false → inIdx k ret10v.1.length) ∧ (((((decide ((ret10v.1.getD (k).toNat (0 : Int)) < (0 : Int))) || (decide ((w.length : Int) ≤ (ret10v.1.getD (k).toNat (0 : Int))))) || (decide ((ret10v.1.getD ((k - (1 : Int))).toNat (0 : Int)) < (0 : Int)))) || (decide ((w.length : Int) ≤ (ret10v.1.getD ((k - (1 : Int))).toNat (0 : Int))))) = false → (0 ≤ (ret10v.1.getD (k).toNat (0 : Int)) ∧ (ret10v.1.getD (k).toNat (0 : Int)) ≤ (w.length : Int))) ∧ gcall (α := Bool) (!((((decide ((ret10v.1.getD (k).toNat (0 : Int)) < (0 : Int))) || (decide ((w.length : Int) ≤ (ret10v.1.getD (k).toNat (0 : Int))))) || (decide ((ret10v.1.getD ((k - (1 : Int))).toNat (0 : Int)) < (0 : Int)))) || (decide ((w.length : Int) ≤ (ret10v.1.getD ((k - (1 : Int))).toNat (0 : Int)))))) (VC37 (w.drop ((ret10v.1.getD ((k - (1 : Int))).toNat (0 : Int))).toNat) (w.drop ((ret10v.1.getD (k).toNat (0 : Int))).toNat)) false (fun (ret105v : Bool) => (((((((decide ((ret10v.1.getD (k).toNat (0 : Int)) < (0 : Int))) || (decide ((w.length : Int) ≤ (ret10v.1.getD (k).toNat (0 : Int))))) || (decide ((ret10v.1.getD ((k - (1 : Int))).toNat (0 : Int)) < (0 : Int)))) || (decide ((w.length : Int) ≤ (ret10v.1.getD ((k - (1 : Int))).toNat (0 : Int))))) || (!ret105v)) = false → InR (k - (1 : Int))) ∧ ((((((decide ((ret10v.1.getD (k).toNat (0 : Int)) < (0 : Int))) || (decide ((w.length : Int) ≤ (ret10v.1.getD (k).toNat (0 : Int))))) || (decide ((ret10v.1.getD ((k - (1 : Int))).toNat (0 : Int)) < (0 : Int)))) || (decide ((w.length : Int) ≤ (ret10v.1.getD ((k - (1 : Int))).toNat (0 : Int))))) || (!ret105v)) = false → inIdx (k - (1 : Int)) ret10v.1.length) ∧ ((((((decide ((ret10v.1.getD (k).toNat (0 : Int)) < (0 : Int))) || (decide ((w.length : Int) ≤ (ret10v.1.getD (k).toNat (0 : Int))))) || (decide ((ret10v.1.getD ((k - (1 : Int))).toNat (0 : Int)) < (0 : Int)))) || (decide ((w.length : Int) ≤ (ret10v.1.getD ((k - (1 : Int))).toNat (0 : Int))))) || (!ret105v)) = false → (0 ≤ (ret10v.1.getD ((k - (1 : Int))).toNat (0 : Int)) ∧ (ret10v.1.getD ((k - (1 : Int))).toNat (0 : Int)) ≤ (w.length : Int))) ∧ ((((((decide ((ret10v.1.getD (k).toNat (0 : Int)) < (0 : Int))) || (decide ((w.length : Int) ≤ (ret10v.1.getD (k).toNat (0 : Int))))) || (decide ((ret10v.1.getD ((k - (1 : Int))).toNat (0 : Int)) < (0 : Int)))) || (decide ((w.length : Int) ≤ (ret10v.1.getD ((k - (1 : Int))).toNat (0 : Int))))) || (!ret105v)) = false → inIdx k ret10v.1.length) ∧ ((((((decide ((ret10v.1.getD (k).toNat (0 : Int)) < (0 : Int))) || (decide ((w.length : Int) ≤ (ret10v.1.getD (k).toNat (0 : Int))))) || (decide ((ret10v.1.getD ((k - (1 : Int))).toNat (0 : Int)) < (0 : Int)))) || (decide ((w.length : Int) ≤ (ret10v.1.getD ((k - (1 : Int))).toNat (0 : Int))))) || (!ret105v)) = false → (0 ≤ (ret10v.1.getD (k).toNat (0 : Int)) ∧ (ret10v.1.getD (k).toNat (0 : Int)) ≤ (w.length : Int))) ∧ ((((((decide ((ret10v.1.getD (k).toNat (0 : Int)) < (0 : Int))) || (decide ((w.length : Int) ≤ (ret10v.1.getD (k).toNat (0 : Int))))) || (decide ((ret10v.1.getD ((k - (1 : Int))).toNat (0 : Int)) < (0 : Int)))) || (decide ((w.length : Int) ≤ (ret10v.1.getD ((k - (1 : Int))).toNat (0 : Int))))) || (!ret105v)) = false → InR (k - (1 : Int))) ∧ ((((((decide ((ret10v.1.getD (k).toNat (0 : Int)) < (0 : Int))) || (decide ((w.length : Int) ≤ (ret10v.1.getD (k).toNat (0 : Int))))) || (decide ((ret10v.1.getD ((k - (1 : Int))).toNat (0 : Int)) < (0 : Int)))) || (decide ((w.length : Int) ≤ (ret10v.1.getD ((k - (1 : Int))).toNat (0 : Int))))) || (!ret105v)) = false → inIdx (k - (1 : Int)) ret15v.1.length) ∧ gcall (α := Int) (!(((((decide ((ret10v.1.getD (k).toNat (0 : Int)) < (0 : Int))) || (decide ((w.length : Int) ≤ (ret10v.1.getD (k).toNat (0 : Int))))) || (decide ((ret10v.1.getD ((k - (1 : Int))).toNat (0 : Int)) < (0 : Int)))) || (decide ((w.length : Int) ≤ (ret10v.1.getD ((k - (1 : Int))).toNat (0 : Int))))) || (!ret105v))) (VC38 (w.drop ((ret10v.1.getD ((k - (1 : Int))).toNat (0 : Int))).toNat) (w.drop ((ret10v.1.getD (k).toNat (0 : Int))).toNat)) (0 : Int) (fun (ret122v : Int) => ((((((((decide ((ret10v.1.getD (k).toNat (0 : Int)) < (0 : Int))) || (decide ((w.length : Int) ≤ (ret10v.1.getD (k).toNat (0 : Int))))) || (decide ((ret10v.1.getD ((k - (1 : Int))).toNat (0 : Int)) < (0 : Int)))) || (decide ((w.length : Int) ≤ (ret10v.1.getD ((k - (1 : Int))).toNat (0 : Int))))) || (!ret105v)) || (!decide (ret122v = (ret15v.1.getD ((k - (1 : Int))).toNat (0 : Int))))) = true → K false) ∧ (((((((decide ((ret10v.1.getD (k).toNat (0 : Int)) < (0 : Int))) || (decide ((w.length : Int) ≤ (ret10v.1.getD (k).toNat (0 : Int))))) || (decide ((ret10v.1.getD ((k - (1 : Int))).toNat (0 : Int)) < (0 : Int)))) || (decide ((w.length : Int) ≤ (ret10v.1.getD ((k - (1 : Int))).toNat (0 : Int))))) || (!ret105v)) || (!decide (ret122v = (ret15v.1.getD ((k - (1 : Int))).toNat (0 : Int))))) = false → (InR (k + (1 : Int)) ∧ X1 (k + (1 : Int)))))))))) ∧ ((decide (k < (ret10v.1.length : Int))) = false → VC12_k1 K))

def VC12 (w : (List Int)) (K : Bool → Prop) : Prop :=
  VC34 w (fun (ret10v : (List Int) × Int) => VC35 w (fun (ret15v : (List Int) × Int) => VC36 [w] (fun (ret20v : Bool) => ((ret20v = true → K ((!decide (ret10v.2 = (0 : Int))) && (!decide (ret15v.2 = (0 : Int))))) ∧ (ret20v = false → (((((!decide (ret10v.2 = (0 : Int))) || (!decide (ret15v.2 = (0 : Int)))) || (!decide ((ret10v.1.length : Int) = (w.length : Int)))) = false → ((decide ((0 : Int) < (w.length : Int))) = true → InR ((w.length : Int) - (1 : Int)))) ∧ ((((((!decide (ret10v.2 = (0 : Int))) || (!decide (ret15v.2 = (0 : Int)))) || (!decide ((ret10v.1.length : Int) = (w.length : Int)))) || ((decide ((0 : Int) < (w.length : Int))) && (!decide ((ret15v.1.length : Int) = ((w.length : Int) - (1 : Int)))))) = true → K false) ∧ (((((!decide (ret10v.2 = (0 : Int))) || (!decide (ret15v.2 = (0 : Int)))) || (!decide ((ret10v.1.length : Int) = (w.length : Int)))) || ((decide ((0 : Int) < (w.length : Int))) && (!decide ((ret15v.1.length : Int) = ((w.length : Int) - (1 : Int)))))) = false → Loop (σ := Int) (fun s X => VC12_l1 w K ret10v ret15v s X) (1 : Int)))))))))

set_option maxHeartbeats 4000000 in
theorem link12 (w : (List Int)) (K : Bool → Prop) (h : VC12 w K) : ACalls Try.prog 12 [toV1 (.sl (.int .u8)) w] (fun res => ∃ y, res = (fun y => [toV1 .bool y]) y ∧ K y) := by
  refine acalls_of_aw [.bool] [.t 2] Try.func12 rfl rfl rfl ?_
  unfold VC12 at h
  refine aw_seq ?_
  refine aw_region ?_
  refine awl_runp 1 [0] [] (ob := (True ∧ True)) (st' := (⟨130, [(0, [], .v (.c (.p (.sl (.int .u8)) w)))], []⟩ : St)) (by kernel_rfl) ⟨trivial, trivial⟩ ?_
  refine awl_nil ?_
  refine thenQ_n ?_
  refine aw_seq ?_
  refine aw_region ?_
  refine awl_runp 1 [0, 9] [] (ob := (True ∧ True)) (st' := (⟨130, [(0, [], .v (.c (.p (.sl (.int .u8)) w))), (9, [], .v (.c (.p (.sl (.int .u8)) w)))], []⟩ : St)) (by kernel_rfl) ⟨trivial, trivial⟩ ?_
  refine awl_callk (p := []) (l := [toV1 (.sl (.int .u8)) w]) (cl := []) false [.d (.sl (.int .u8))] [0, 10] [] (fun (ret10v : (List Int) × Int) => VC35 w (fun (ret15v : (List Int) × Int) => VC36 [w] (fun (ret20v : Bool) => ((ret20v = true → K ((!decide (ret10v.2 = (0 : Int))) && (!decide (ret15v.2 = (0 : Int))))) ∧ (ret20v = false → (((((!decide (ret10v.2 = (0 : Int))) || (!decide (ret15v.2 = (0 : Int)))) || (!decide ((ret10v.1.length : Int) = (w.length : Int)))) = false → ((decide ((0 : Int) < (w.length : Int))) = true → InR ((w.length : Int) - (1 : Int)))) ∧ ((((((!decide (ret10v.2 = (0 : Int))) || (!decide (ret15v.2 = (0 : Int)))) || (!decide ((ret10v.1.length : Int) = (w.length : Int)))) || ((decide ((0 : Int) < (w.length : Int))) && (!decide ((ret15v.1.length : Int) = ((w.length : Int) - (1 : Int)))))) = true → K false) ∧ (((((!decide (ret10v.2 = (0 : Int))) || (!decide (ret15v.2 = (0 : Int)))) || (!decide ((ret10v.1.length : Int) = (w.length : Int)))) || ((decide ((0 : Int) < (w.length : Int))) && (!decide ((ret15v.1.length : Int) = ((w.length : Int) - (1 : Int)))))) = false → Loop (σ := Int) (fun s X => VC12_l1 w K ret10v ret15v s X) (1 : Int))))))))) (fun ret10v => [toV1 (.sl (.int .i64)) ret10v.1, toV1 (.int .i64) ret10v.2]) (fun ret10v => (⟨130, [(0, [], .v (.c (.p (.sl (.int .u8)) w))), (10, [], .tup [.c (.p (.sl (.int .i64)) ret10v.1), .c (.p (.int .i64) ret10v.2)])], []⟩ : St)) (by kernel_rfl) rfl (by kernel_rfl) rfl (by kernel_rfl) Try.call34 (by kernel_rfl) (fun ret10v => by kernel_rfl) (fun e => by cases e) (fun hg => link34 w _ h) (fun hg => noF hg) (fun ret10v h => ?_)
  have h : VC35 w (fun (ret15v : (List Int) × Int) => VC36 [w] (fun (ret20v : Bool) => ((ret20v = true → K ((!decide (ret10v.2 = (0 : Int))) && (!decide (ret15v.2 = (0 : Int))))) ∧ (ret20v = false → (((((!decide (ret10v.2 = (0 : Int))) || (!decide (ret15v.2 = (0 : Int)))) || (!decide ((ret10v.1.length : Int) = (w.length : Int)))) = false → ((decide ((0 : Int) < (w.length : Int))) = true → InR ((w.length : Int) - (1 : Int)))) ∧ ((((((!decide (ret10v.2 = (0 : Int))) || (!decide (ret15v.2 = (0 : Int)))) || (!decide ((ret10v.1.length : Int) = (w.length : Int)))) || ((decide ((0 : Int) < (w.length : Int))) && (!decide ((ret15v.1.length : Int) = ((w.length : Int) - (1 : Int)))))) = true → K false) ∧ (((((!decide (ret10v.2 = (0 : Int))) || (!decide (ret15v.2 = (0 : Int)))) || (!decide ((ret10v.1.length : Int) = (w.length : Int)))) || ((decide ((0 : Int) < (w.length : Int))) && (!decide ((ret15v.1.length : Int) = ((w.length : Int) - (1 : Int)))))) = false → Loop (σ := Int) (fun s X => VC12_l1 w K ret10v ret15v s X) (1 : Int)))))))) := h
  refine awl_runp 5 [0, 3, 4] [] (ob := (True ∧ True ∧ True ∧ True ∧ True ∧ True)) (st' := (⟨130, [(0, [], .v (.c (.p (.sl (.int .u8)) w))), (3, [], .v (.c (.p (.sl (.int .i64)) ret10v.1))), (4, [], .v (.c (.p (.int .i64) ret10v.2)))], []⟩ : St)) (by kernel_rfl) ⟨trivial, trivial, trivial, trivial, trivial, trivial⟩ ?_
  refine awl_nil ?_
  refine thenQ_n ?_
  refine aw_seq ?_
  refine aw_region ?_
  refine awl_runp 1 [0, 3, 4, 14] [] (ob := (True ∧ True)) (st' := (⟨130, [(0, [], .v (.c (.p (.sl (.int .u8)) w))), (3, [], .v (.c (.p (.sl (.int .i64)) ret10v.1))), (4, [], .v (.c (.p (.int .i64) ret10v.2))), (14, [], .v (.c (.p (.sl (.int .u8)) w)))], []⟩ : St)) (by kernel_rfl) ⟨trivial, trivial⟩ ?_
  refine awl_callk (p := []) (l := [toV1 (.sl (.int .u8)) w]) (cl := []) false [.d (.sl (.int .u8))] [0, 3, 4, 15] [] (fun (ret15v : (List Int) × Int) => VC36 [w] (fun (ret20v : Bool) => ((ret20v = true → K ((!decide (ret10v.2 = (0 : Int))) && (!decide (ret15v.2 = (0 : Int))))) ∧ (ret20v = false → (((((!decide (ret10v.2 = (0 : Int))) || (!decide (ret15v.2 = (0 : Int)))) || (!decide ((ret10v.1.length : Int) = (w.length : Int)))) = false → ((decide ((0 : Int) < (w.length : Int))) = true → InR ((w.length : Int) - (1 : Int)))) ∧ ((((((!decide (ret10v.2 = (0 : Int))) || (!decide (ret15v.2 = (0 : Int)))) || (!decide ((ret10v.1.length : Int) = (w.length : Int)))) || ((decide ((0 : Int) < (w.length : Int))) && (!decide ((ret15v.1.length : Int) = ((w.length : Int) - (1 : Int)))))) = true → K false) ∧ (((((!decide (ret10v.2 = (0 : Int))) || (!decide (ret15v.2 = (0 : Int)))) || (!decide ((ret10v.1.length : Int) = (w.length : Int)))) || ((decide ((0 : Int) < (w.length : Int))) && (!decide ((ret15v.1.length : Int) = ((w.length : Int) - (1 : Int)))))) = false → Loop (σ := Int) (fun s X => VC12_l1 w K ret10v ret15v s X) (1 : Int)))))))) (fun ret15v => [toV1 (.sl (.int .i64)) ret15v.1, toV1 (.int .i64) ret15v.2]) (fun ret15v => (⟨130, [(0, [], .v (.c (.p (.sl (.int .u8)) w))), (3, [], .v (.c (.p (.sl (.int .i64)) ret10v.1))), (4, [], .v (.c (.p (.int .i64) ret10v.2))), (15, [], .tup [.c (.p (.sl (.int .i64)) ret15v.1), .c (.p (.int .i64) ret15v.2)])], []⟩ : St)) (by kernel_rfl) rfl (by kernel_rfl) rfl (by kernel_rfl) Try.call35 (by kernel_rfl) (fun ret15v => by kernel_rfl) (fun e => by cases e) (fun hg => link35 w _ h) (fun hg => noF hg) (fun ret15v h => ?_)
  have h : VC36 [w] (fun (ret20v : Bool) => ((ret20v = true → K ((!decide (ret10v.2 = (0 : Int))) && (!decide (ret15v.2 = (0 : Int))))) ∧ (ret20v = false → (((((!decide (ret10v.2 = (0 : Int))) || (!decide (ret15v.2 = (0 : Int)))) || (!decide ((ret10v.1.length : Int) = (w.length : Int)))) = false → ((decide ((0 : Int) < (w.length : Int))) = true → InR ((w.length : Int) - (1 : Int)))) ∧ ((((((!decide (ret10v.2 = (0 : Int))) || (!decide (ret15v.2 = (0 : Int)))) || (!decide ((ret10v.1.length : Int) = (w.length : Int)))) || ((decide ((0 : Int) < (w.length : Int))) && (!decide ((ret15v.1.length : Int) = ((w.length : Int) - (1 : Int)))))) = true → K false) ∧ (((((!decide (ret10v.2 = (0 : Int))) || (!decide (ret15v.2 = (0 : Int)))) || (!decide ((ret10v.1.length : Int) = (w.length : Int)))) || ((decide ((0 : Int) < (w.length : Int))) && (!decide ((ret15v.1.length : Int) = ((w.length : Int) - (1 : Int)))))) = false → Loop (σ := Int) (fun s X => VC12_l1 w K ret10v ret15v s X) (1 : Int))))))) := h
  refine awl_runp 5 [0, 3, 4, 5, 6] [] (ob := (True ∧ True ∧ True ∧ True ∧ True ∧ True)) (st' := (⟨130, [(0, [], .v (.c (.p (.sl (.int .u8)) w))), (3, [], .v (.c (.p (.sl (.int .i64)) ret10v.1))), (4, [], .v (.c (.p (.int .i64) ret10v.2))), (5, [], .v (.c (.p (.sl (.int .i64)) ret15v.1))), (6, [], .v (.c (.p (.int .i64) ret15v.2)))], []⟩ : St)) (by kernel_rfl) ⟨trivial, trivial, trivial, trivial, trivial, trivial⟩ ?_
  refine awl_nil ?_
  refine thenQ_n ?_
  refine aw_seq ?_
  refine aw_seq ?_
  refine aw_region ?_
  refine awl_runp 2 [0, 3, 4, 5, 6, 19] [19] (ob := (True ∧ True ∧ True)) (st' := (⟨130, [(0, [], .v (.c (.p (.sl (.int .u8)) w))), (3, [], .v (.c (.p (.sl (.int .i64)) ret10v.1))), (4, [], .v (.c (.p (.int .i64) ret10v.2))), (5, [], .v (.c (.p (.sl (.int .i64)) ret15v.1))), (6, [], .v (.c (.p (.int .i64) ret15v.2))), (19, [], .v (.c (.own 19)))], [(19, [], .arr 22 (.sl (.int .u8)) [w])]⟩ : St)) (by kernel_rfl) ⟨trivial, trivial, trivial⟩ ?_
  refine awl_callk (p := []) (l := [toV1 (.sl (.sl (.int .u8))) [w]]) (cl := []) true [.d (.sl (.sl (.int .u8)))] [0, 3, 4, 5, 6, 20] [] (fun (ret20v : Bool) => ((ret20v = true → K ((!decide (ret10v.2 = (0 : Int))) && (!decide (ret15v.2 = (0 : Int))))) ∧ (ret20v = false → (((((!decide (ret10v.2 = (0 : Int))) || (!decide (ret15v.2 = (0 : Int)))) || (!decide ((ret10v.1.length : Int) = (w.length : Int)))) = false → ((decide ((0 : Int) < (w.length : Int))) = true → InR ((w.length : Int) - (1 : Int)))) ∧ ((((((!decide (ret10v.2 = (0 : Int))) || (!decide (ret15v.2 = (0 : Int)))) || (!decide ((ret10v.1.length : Int) = (w.length : Int)))) || ((decide ((0 : Int) < (w.length : Int))) && (!decide ((ret15v.1.length : Int) = ((w.length : Int) - (1 : Int)))))) = true → K false) ∧ (((((!decide (ret10v.2 = (0 : Int))) || (!decide (ret15v.2 = (0 : Int)))) || (!decide ((ret10v.1.length : Int) = (w.length : Int)))) || ((decide ((0 : Int) < (w.length : Int))) && (!decide ((ret15v.1.length : Int) = ((w.length : Int) - (1 : Int)))))) = false → Loop (σ := Int) (fun s X => VC12_l1 w K ret10v ret15v s X) (1 : Int))))))) (fun ret20v => [toV1 .bool ret20v]) (fun ret20v => (⟨130, [(0, [], .v (.c (.p (.sl (.int .u8)) w))), (3, [], .v (.c (.p (.sl (.int .i64)) ret10v.1))), (4, [], .v (.c (.p (.int .i64) ret10v.2))), (5, [], .v (.c (.p (.sl (.int .i64)) ret15v.1))), (6, [], .v (.c (.p (.int .i64) ret15v.2))), (20, [], .v (.c (.p .bool ret20v)))], []⟩ : St)) (by kernel_rfl) rfl (by kernel_rfl) rfl (by kernel_rfl) Try.call36 (by kernel_rfl) (fun ret20v => by kernel_rfl) (fun _ _ => rfl) (fun hg => link36 [w] _ h) (fun hg => noF hg) (fun ret20v h => ?_)
  have h : ((ret20v = true → K ((!decide (ret10v.2 = (0 : Int))) && (!decide (ret15v.2 = (0 : Int))))) ∧ (ret20v = false → (((((!decide (ret10v.2 = (0 : Int))) || (!decide (ret15v.2 = (0 : Int)))) || (!decide ((ret10v.1.length : Int) = (w.length : Int)))) = false → ((decide ((0 : Int) < (w.length : Int))) = true → InR ((w.length : Int) - (1 : Int)))) ∧ ((((((!decide (ret10v.2 = (0 : Int))) || (!decide (ret15v.2 = (0 : Int)))) || (!decide ((ret10v.1.length : Int) = (w.length : Int)))) || ((decide ((0 : Int) < (w.length : Int))) && (!decide ((ret15v.1.length : Int) = ((w.length : Int) - (1 : Int)))))) = true → K false) ∧ (((((!decide (ret10v.2 = (0 : Int))) || (!decide (ret15v.2 = (0 : Int)))) || (!decide ((ret10v.1.length : Int) = (w.length : Int)))) || ((decide ((0 : Int) < (w.length : Int))) && (!decide ((ret15v.1.length : Int) = ((w.length : Int) - (1 : Int)))))) = false → Loop (σ := Int) (fun s X => VC12_l1 w K ret10v ret15v s X) (1 : Int)))))) := h
  refine awl_nil ?_
  refine thenQ_n ?_
  refine aw_cond (b := ret20v) (by kernel_rfl) (fun hb => ?_) (fun hb => ?_)
  · have h := h.1 hb
    refine aw_seq ?_
    refine aw_region ?_
    refine awl_runp 7 [2] [] (ob := (True ∧ True ∧ True ∧ ((!decide (ret10v.2 = (0 : Int))) = true → True) ∧ ((!decide (ret10v.2 = (0 : Int))) = true → True) ∧ True ∧ True ∧ True)) (st' := (⟨130, [(2, [], .v (.c (.p .bool ((!decide (ret10v.2 = (0 : Int))) && (!decide (ret15v.2 = (0 : Int)))))))], []⟩ : St)) (by kernel_rfl) ⟨trivial, trivial, trivial, (fun _ => trivial), (fun _ => trivial), trivial, trivial, trivial⟩ ?_
    refine awl_nil ?_
    refine thenQ_n ?_
    refine aw_ret ?_
    refine thenQ_r ?_
    exact retQ_r (σ := Bool) (R := (fun y => [toV1 .bool y])) (ob := (True ∧ True)) ((!decide (ret10v.2 = (0 : Int))) && (!decide (ret15v.2 = (0 : Int)))) (by kernel_rfl) ⟨trivial, trivial⟩ h
  · have h := h.2 hb
    refine aw_skip ?_
    refine thenQ_n ?_
    refine aw_seq ?_
    refine aw_seq ?_
    refine aw_region ?_
    obtain ⟨o1, h⟩ := h
    refine awl_runp 26 [0, 3, 5, 52] [] (ob := (True ∧ True ∧ True ∧ ((!decide (ret10v.2 = (0 : Int))) = false → True) ∧ ((!decide (ret10v.2 = (0 : Int))) = false → True) ∧ True ∧ True ∧ (((!decide (ret10v.2 = (0 : Int))) || (!decide (ret15v.2 = (0 : Int)))) = false → True) ∧ (((!decide (ret10v.2 = (0 : Int))) || (!decide (ret15v.2 = (0 : Int)))) = false → True) ∧ (((!decide (ret10v.2 = (0 : Int))) || (!decide (ret15v.2 = (0 : Int)))) = false → True) ∧ (((!decide (ret10v.2 = (0 : Int))) || (!decide (ret15v.2 = (0 : Int)))) = false → True) ∧ (((!decide (ret10v.2 = (0 : Int))) || (!decide (ret15v.2 = (0 : Int)))) = false → True) ∧ True ∧ True ∧ ((((!decide (ret10v.2 = (0 : Int))) || (!decide (ret15v.2 = (0 : Int)))) || (!decide ((ret10v.1.length : Int) = (w.length : Int)))) = false → True) ∧ ((((!decide (ret10v.2 = (0 : Int))) || (!decide (ret15v.2 = (0 : Int)))) || (!decide ((ret10v.1.length : Int) = (w.length : Int)))) = false → True) ∧ ((((!decide (ret10v.2 = (0 : Int))) || (!decide (ret15v.2 = (0 : Int)))) || (!decide ((ret10v.1.length : Int) = (w.length : Int)))) = false → True) ∧ ((((!decide (ret10v.2 = (0 : Int))) || (!decide (ret15v.2 = (0 : Int)))) || (!decide ((ret10v.1.length : Int) = (w.length : Int)))) = false → True) ∧ ((((!decide (ret10v.2 = (0 : Int))) || (!decide (ret15v.2 = (0 : Int)))) || (!decide ((ret10v.1.length : Int) = (w.length : Int)))) = false → ((decide ((0 : Int) < (w.length : Int))) = true → True)) ∧ ((((!decide (ret10v.2 = (0 : Int))) || (!decide (ret15v.2 = (0 : Int)))) || (!decide ((ret10v.1.length : Int) = (w.length : Int)))) = false → ((decide ((0 : Int) < (w.length : Int))) = true → True)) ∧ ((((!decide (ret10v.2 = (0 : Int))) || (!decide (ret15v.2 = (0 : Int)))) || (!decide ((ret10v.1.length : Int) = (w.length : Int)))) = false → ((decide ((0 : Int) < (w.length : Int))) = true → True)) ∧ ((((!decide (ret10v.2 = (0 : Int))) || (!decide (ret15v.2 = (0 : Int)))) || (!decide ((ret10v.1.length : Int) = (w.length : Int)))) = false → ((decide ((0 : Int) < (w.length : Int))) = true → True)) ∧ ((((!decide (ret10v.2 = (0 : Int))) || (!decide (ret15v.2 = (0 : Int)))) || (!decide ((ret10v.1.length : Int) = (w.length : Int)))) = false → ((decide ((0 : Int) < (w.length : Int))) = true → InR ((w.length : Int) - (1 : Int)))) ∧ ((((!decide (ret10v.2 = (0 : Int))) || (!decide (ret15v.2 = (0 : Int)))) || (!decide ((ret10v.1.length : Int) = (w.length : Int)))) = false → ((decide ((0 : Int) < (w.length : Int))) = true → True)) ∧ ((((!decide (ret10v.2 = (0 : Int))) || (!decide (ret15v.2 = (0 : Int)))) || (!decide ((ret10v.1.length : Int) = (w.length : Int)))) = false → True) ∧ True ∧ True)) (st' := (⟨130, [(0, [], .v (.c (.p (.sl (.int .u8)) w))), (3, [], .v (.c (.p (.sl (.int .i64)) ret10v.1))), (5, [], .v (.c (.p (.sl (.int .i64)) ret15v.1))), (52, [], .v (.c (.p .bool ((((!decide (ret10v.2 = (0 : Int))) || (!decide (ret15v.2 = (0 : Int)))) || (!decide ((ret10v.1.length : Int) = (w.length : Int)))) || ((decide ((0 : Int) < (w.length : Int))) && (!decide ((ret15v.1.length : Int) = ((w.length : Int) - (1 : Int)))))))))], []⟩ : St)) (by kernel_rfl) ⟨trivial, trivial, trivial, (fun _ => trivial), (fun _ => trivial), trivial, trivial, (fun _ => trivial), (fun _ => trivial), (fun _ => trivial), (fun _ => trivial), (fun _ => trivial), trivial, trivial, (fun _ => trivial), (fun _ => trivial), (fun _ => trivial), (fun _ => trivial), (fun _ _ => trivial), (fun _ _ => trivial), (fun _ _ => trivial), (fun _ _ => trivial), o1, (fun _ _ => trivial), (fun _ => trivial), trivial, trivial⟩ ?_
    refine awl_nil ?_
    refine thenQ_n ?_
    refine aw_cond (b := ((((!decide (ret10v.2 = (0 : Int))) || (!decide (ret15v.2 = (0 : Int)))) || (!decide ((ret10v.1.length : Int) = (w.length : Int)))) || ((decide ((0 : Int) < (w.length : Int))) && (!decide ((ret15v.1.length : Int) = ((w.length : Int) - (1 : Int))))))) (by kernel_rfl) (fun hb => ?_) (fun hb => ?_)
    · have h := h.1 hb
      refine aw_seq ?_
      refine aw_region ?_
      refine awl_runp 1 [2] [] (ob := (True ∧ True)) (st' := (⟨130, [(2, [], .v (.c (.p .bool false)))], []⟩ : St)) (by kernel_rfl) ⟨trivial, trivial⟩ ?_
      refine awl_nil ?_
      refine thenQ_n ?_
      refine aw_ret ?_
      refine thenQ_r ?_
      exact retQ_r (σ := Bool) (R := (fun y => [toV1 .bool y])) (ob := (True ∧ True)) false (by kernel_rfl) ⟨trivial, trivial⟩ h
    · have h := h.2 hb
      refine aw_skip ?_
      refine thenQ_n ?_
      refine aw_seq ?_
      refine aw_seq ?_
      refine aw_region ?_
      refine awl_runp 1 [0, 3, 5, 7] [] (ob := (True ∧ True)) (st' := (⟨130, [(0, [], .v (.c (.p (.sl (.int .u8)) w))), (3, [], .v (.c (.p (.sl (.int .i64)) ret10v.1))), (5, [], .v (.c (.p (.sl (.int .i64)) ret15v.1))), (7, [], .v (.c (.p (.int .i64) (1 : Int))))], []⟩ : St)) (by kernel_rfl) ⟨trivial, trivial⟩ ?_
      refine awl_nil ?_
      refine thenQ_n ?_
      refine withJoin (σ := Unit) (fun s => (⟨130, [], []⟩ : St)) (fun s => VC12_k1 K) (fun s h => ?_) (fun rest1 => ?_)
      · have h : VC12_k1 K := h
        unfold VC12_k1 at h
        refine thenQ_n ?_
        refine aw_seq ?_
        refine aw_region ?_
        refine awl_runp 1 [2] [] (ob := (True ∧ True)) (st' := (⟨130, [(2, [], .v (.c (.p .bool true)))], []⟩ : St)) (by kernel_rfl) ⟨trivial, trivial⟩ ?_
        refine awl_nil ?_
        refine thenQ_n ?_
        refine aw_ret ?_
        exact retQ_r (σ := Bool) (R := (fun y => [toV1 .bool y])) (ob := (True ∧ True)) true (by kernel_rfl) ⟨trivial, trivial⟩ h
      · refine aw_block ?_
        refine aw_loop (σ := Int) (fun s => (⟨130, [(0, [], .v (.c (.p (.sl (.int .u8)) w))), (3, [], .v (.c (.p (.sl (.int .i64)) ret10v.1))), (5, [], .v (.c (.p (.sl (.int .i64)) ret15v.1))), (7, [], .v (.c (.p (.int .i64) s)))], []⟩ : St)) (fun s X => VC12_l1 w K ret10v ret15v s X) (s0 := (1 : Int)) (fun k X1 h => ?_) h
        have h : VC12_l1 w K ret10v ret15v k X1 := h
        unfold VC12_l1 at h
        refine aw_seq ?_
        refine aw_seq ?_
        refine aw_region ?_
        refine awl_runp 4 [0, 3, 5, 7, 56] [] (ob := (True ∧ True ∧ True ∧ True ∧ True)) (st' := (⟨130, [(0, [], .v (.c (.p (.sl (.int .u8)) w))), (3, [], .v (.c (.p (.sl (.int .i64)) ret10v.1))), (5, [], .v (.c (.p (.sl (.int .i64)) ret15v.1))), (7, [], .v (.c (.p (.int .i64) k))), (56, [], .v (.c (.p .bool (decide (k < (ret10v.1.length : Int))))))], []⟩ : St)) (by kernel_rfl) ⟨trivial, trivial, trivial, trivial, trivial⟩ ?_
        refine awl_nil ?_
        refine thenQ_n ?_
        refine aw_cond (b := (decide (k < (ret10v.1.length : Int)))) (by kernel_rfl) (fun hb => ?_) (fun hb => ?_)
        · have h := h.1 hb
          refine aw_skip ?_
          refine thenQ_n ?_
          refine aw_seq ?_
          refine aw_block ?_
          refine aw_seq ?_
          refine awd_begin [] (by kernel_rfl) ?_
          obtain ⟨o1, o2, o3, o4, o5, o6, o7, o8, o9, o10, o11, h⟩ := h
          refine awd_runp (by kernel_rfl) [0, 1, 2, 3, 4, 5, 6, 7, 8, 9, 10, 11, 12, 13, 14, 15, 16, 17, 18, 19, 20, 21, 22, 23, 24, 25, 26, 27, 28, 29, 30, 31, 32, 33, 34, 35, 36, 37, 38, 39, 40, 41, 42, 43, 44, 45] [0, 3, 5, 7, 91, 98, 104] [] (ob := (True ∧ True ∧ inIdx k ret10v.1.length ∧ True ∧ True ∧ True ∧ ((decide ((ret10v.1.getD (k).toNat (0 : Int)) < (0 : Int))) = false → True) ∧ ((decide ((ret10v.1.getD (k).toNat (0 : Int)) < (0 : Int))) = false → True) ∧ ((decide ((ret10v.1.getD (k).toNat (0 : Int)) < (0 : Int))) = false → inIdx k ret10v.1.length) ∧ ((decide ((ret10v.1.getD (k).toNat (0 : Int)) < (0 : Int))) = false → True) ∧ ((decide ((ret10v.1.getD (k).toNat (0 : Int)) < (0 : Int))) = false → True) ∧ ((decide ((ret10v.1.getD (k).toNat (0 : Int)) < (0 : Int))) = false → True) ∧ ((decide ((ret10v.1.getD (k).toNat (0 : Int)) < (0 : Int))) = false → True) ∧ True ∧ True ∧ (((decide ((ret10v.1.getD (k).toNat (0 : Int)) < (0 : Int))) || (decide ((w.length : Int) ≤ (ret10v.1.getD (k).toNat (0 : Int))))) = false → True) ∧ (((decide ((ret10v.1.getD (k).toNat (0 : Int)) < (0 : Int))) || (decide ((w.length : Int) ≤ (ret10v.1.getD (k).toNat (0 : Int))))) = false → True) ∧ (((decide ((ret10v.1.getD (k).toNat (0 : Int)) < (0 : Int))) || (decide ((w.length : Int) ≤ (ret10v.1.getD (k).toNat (0 : Int))))) = false → InR (k - (1 : Int))) ∧ (((decide ((ret10v.1.getD (k).toNat (0 : Int)) < (0 : Int))) || (decide ((w.length : Int) ≤ (ret10v.1.getD (k).toNat (0 : Int))))) = false → inIdx (k - (1 : Int)) ret10v.1.length) ∧ (((decide ((ret10v.1.getD (k).toNat (0 : Int)) < (0 : Int))) || (decide ((w.length : Int) ≤ (ret10v.1.getD (k).toNat (0 : Int))))) = false → True) ∧ (((decide ((ret10v.1.getD (k).toNat (0 : Int)) < (0 : Int))) || (decide ((w.length : Int) ≤ (ret10v.1.getD (k).toNat (0 : Int))))) = false → True) ∧ True ∧ True ∧ ((((decide ((ret10v.1.getD (k).toNat (0 : Int)) < (0 : Int))) || (decide ((w.length : Int) ≤ (ret10v.1.getD (k).toNat (0 : Int))))) || (decide ((ret10v.1.getD ((k - (1 : Int))).toNat (0 : Int)) < (0 : Int)))) = false → True) ∧ ((((decide ((ret10v.1.getD (k).toNat (0 : Int)) < (0 : Int))) || (decide ((w.length : Int) ≤ (ret10v.1.getD (k).toNat (0 : Int))))) || (decide ((ret10v.1.getD ((k - (1 : Int))).toNat (0 : Int)) < (0 : Int)))) = false → True) ∧ ((((decide ((ret10v.1.getD (k).toNat (0 : Int)) < (0 : Int))) || (decide ((w.length : Int) ≤ (ret10v.1.getD (k).toNat (0 : Int))))) || (decide ((ret10v.1.getD ((k - (1 : Int))).toNat (0 : Int)) < (0 : Int)))) = false → InR (k - (1 : Int))) ∧ ((((decide ((ret10v.1.getD (k).toNat (0 : Int)) < (0 : Int))) || (decide ((w.length : Int) ≤ (ret10v.1.getD (k).toNat (0 : Int))))) || (decide ((ret10v.1.getD ((k - (1 : Int))).toNat (0 : Int)) < (0 : Int)))) = false → inIdx (k - (1 : Int)) ret10v.1.length) ∧ ((((decide ((ret10v.1.getD (k).toNat (0 : Int)) < (0 : Int))) || (decide ((w.length : Int) ≤ (ret10v.1.getD (k).toNat (0 : Int))))) || (decide ((ret10v.1.getD ((k - (1 : Int))).toNat (0 : Int)) < (0 : Int)))) = false → True) ∧ ((((decide ((ret10v.1.getD (k).toNat (0 : Int)) < (0 : Int))) || (decide ((w.length : Int) ≤ (ret10v.1.getD (k).toNat (0 : Int))))) || (decide ((ret10v.1.getD ((k - (1 : Int))).toNat (0 : Int)) < (0 : Int)))) = false → True) ∧ ((((decide ((ret10v.1.getD (k).toNat (0 : Int)) < (0 : Int))) || (decide ((w.length : Int) ≤ (ret10v.1.getD (k).toNat (0 : Int))))) || (decide ((ret10v.1.getD ((k - (1 : Int))).toNat (0 : Int)) < (0 : Int)))) = false → True) ∧ ((((decide ((ret10v.1.getD (k).toNat (0 : Int)) < (0 : Int))) || (decide ((w.length : Int) ≤ (ret10v.1.getD (k).toNat (0 : Int))))) || (decide ((ret10v.1.getD ((k - (1 : Int))).toNat (0 : Int)) < (0 : Int)))) = false → True) ∧ True ∧ True ∧ (((((decide ((ret10v.1.getD (k).toNat (0 : Int)) < (0 : Int))) || (decide ((w.length : Int) ≤ (ret10v.1.getD (k).toNat (0 : Int))))) || (decide ((ret10v.1.getD ((k - (1 : Int))).toNat (0 : Int)) < (0 : Int)))) || (decide ((w.length : Int) ≤ (ret10v.1.getD ((k - (1 : Int))).toNat (0 : Int))))) = false → True) ∧ (((((decide ((ret10v.1.getD (k).toNat (0 : Int)) < (0 : Int))) || (decide ((w.length : Int) ≤ (ret10v.1.getD (k).toNat (0 : Int))))) || (decide ((ret10v.1.getD ((k - (1 : Int))).toNat (0 : Int)) < (0 : Int)))) || (decide ((w.length : Int) ≤ (ret10v.1.getD ((k - (1 : Int))).toNat (0 : Int))))) = false → True) ∧ (((((decide ((ret10v.1.getD (k).toNat (0 : Int)) < (0 : Int))) || (decide ((w.length : Int) ≤ (ret10v.1.getD (k).toNat (0 : Int))))) || (decide ((ret10v.1.getD ((k - (1 : Int))).toNat (0 : Int)) < (0 : Int)))) || (decide ((w.length : Int) ≤ (ret10v.1.getD ((k - (1 : Int))).toNat (0 : Int))))) = false → True) ∧ (((((decide ((ret10v.1.getD (k).toNat (0 : Int)) < (0 : Int))) || (decide ((w.length : Int) ≤ (ret10v.1.getD (k).toNat (0 : Int))))) || (decide ((ret10v.1.getD ((k - (1 : Int))).toNat (0 : Int)) < (0 : Int)))) || (decide ((w.length : Int) ≤ (ret10v.1.getD ((k - (1 : Int))).toNat (0 : Int))))) = false → InR (k - (1 : Int))) ∧ (((((decide ((ret10v.1.getD (k).toNat (0 : Int)) < (0 : Int))) || (decide ((w.length : Int) ≤ (ret10v.1.getD (k).toNat (0 : Int))))) || (decide ((ret10v.1.getD ((k - (1 : Int))).toNat (0 : Int)) < (0 : Int)))) || (decide ((w.length : Int) ≤ (ret10v.1.getD ((k - (1 : Int))).toNat (0 : Int))))) = false → inIdx (k - (1 : Int)) ret10v.1.length) ∧ (((((decide ((ret10v.1.getD (k).toNat (0 : Int)) < (0 : Int))) || (decide ((w.length : Int) ≤ (ret10v.1.getD (k).toNat (0 : Int))))) || (decide ((ret10v.1.getD ((k - (1 : Int))).toNat (0 : Int)) < (0 : Int)))) || (decide ((w.length : Int) ≤ (ret10v.1.getD ((k - (1 : Int))).toNat (0 : Int))))) = false → True) ∧ (((((decide ((ret10v.1.getD (k).toNat (0 : Int)) < (0 : Int))) || (decide ((w.length : Int) ≤ (ret10v.1.getD (k).toNat (0 : Int))))) || (decide ((ret10v.1.getD ((k - (1 : Int))).toNat (0 : Int)) < (0 : Int)))) || (decide ((w.length : Int) ≤ (ret10v.1.getD ((k - (1 : Int))).toNat (0 : Int))))) = false → (0 ≤ (ret10v.1.getD ((k - (1 : Int))).toNat (0 : Int)) ∧ (ret10v.1.getD ((k - (1 : Int))).toNat (0 : Int)) ≤ (w.length : Int))) ∧ (((((decide ((ret10v.1.getD (k).toNat (0 : Int)) < (0 : Int))) || (decide ((w.length : Int) ≤ (ret10v.1.getD (k).toNat (0 : Int))))) || (decide ((ret10v.1.getD ((k - (1 : Int))).toNat (0 : Int)) < (0 : Int)))) || (decide ((w.length : Int) ≤ (ret10v.1.getD ((k - (1 : Int))).toNat (0 : Int))))) = false → True) ∧ (((((decide ((ret10v.1.getD (k).toNat (0 : Int)) < (0 : Int))) || (decide ((w.length : Int) ≤ (ret10v.1.getD (k).toNat (0 : Int))))) || (decide ((ret10v.1.getD ((k - (1 : Int))).toNat (0 : Int)) < (0 : Int)))) || (decide ((w.length : Int) ≤ (ret10v.1.getD ((k - (1 : Int))).toNat (0 : Int))))) = false → True) ∧ (((((decide ((ret10v.1.getD (k).toNat (0 : Int)) < (0 : Int))) || (decide ((w.length : Int) ≤ (ret10v.1.getD (k).toNat (0 : Int))))) || (decide ((ret10v.1.getD ((k - (1 : Int))).toNat (0 : Int)) < (0 : Int)))) || (decide ((w.length : Int) ≤ (ret10v.1.getD ((k - (1 : Int))).toNat (0 : Int))))) = false → True) ∧ (((((decide ((ret10v.1.getD (k).toNat (0 : Int)) < (0 : Int))) || (decide ((w.length : Int) ≤ (ret10v.1.getD (k).toNat (0 : Int))))) || (decide ((ret10v.1.getD ((k - (1 : Int))).toNat (0 : Int)) < (0 : Int)))) || (decide ((w.length : Int) ≤ (ret10v.1.getD ((k - (1 : Int))).toNat (0 : Int))))) = false → inIdx k ret10v.1.length) ∧ (((((decide ((ret10v.1.getD (k).toNat (0 : Int)) < (0 : Int))) || (decide ((w.length : Int) ≤ (ret10v.1.getD (k).toNat (0 : Int))))) || (decide ((ret10v.1.getD ((k - (1 : Int))).toNat (0 : Int)) < (0 : Int)))) || (decide ((w.length : Int) ≤ (ret10v.1.getD ((k - (1 : Int))).toNat (0 : Int))))) = false → True) ∧ (((((decide ((ret10v.1.getD (k).toNat (0 : Int)) < (0 : Int))) || (decide ((w.length : Int) ≤ (ret10v.1.getD (k).toNat (0 : Int))))) || (decide ((ret10v.1.getD ((k - (1 : Int))).toNat (0 : Int)) < (0 : Int)))) || (decide ((w.length : Int) ≤ (ret10v.1.getD ((k - (1 : Int))).toNat (0 : Int))))) = false → (0 ≤ (ret10v.1.getD (k).toNat (0 : Int)) ∧ (ret10v.1.getD (k).toNat (0 : Int)) ≤ (w.length : Int))) ∧ True)) (done' := [45, 44, 43, 42, 41, 40, 39, 38, 37, 36, 35, 34, 33, 32, 31, 30, 29, 28, 27, 26, 25, 24, 23, 22, 21, 20, 19, 18, 17, 16, 15, 14, 13, 12, 11, 10, 9, 8, 7, 6, 5, 4, 3, 2, 1, 0]) (st' := (⟨130, [(0, [], .v (.c (.p (.sl (.int .u8)) w))), (3, [], .v (.c (.p (.sl (.int .i64)) ret10v.1))), (5, [], .v (.c (.p (.sl (.int .i64)) ret15v.1))), (7, [], .v (.c (.p (.int .i64) k))), (91, [], .v (.c (.p .bool ((((decide ((ret10v.1.getD (k).toNat (0 : Int)) < (0 : Int))) || (decide ((w.length : Int) ≤ (ret10v.1.getD (k).toNat (0 : Int))))) || (decide ((ret10v.1.getD ((k - (1 : Int))).toNat (0 : Int)) < (0 : Int)))) || (decide ((w.length : Int) ≤ (ret10v.1.getD ((k - (1 : Int))).toNat (0 : Int)))))))), (98, [(91, false)], .v (.c (.p (.sl (.int .u8)) (w.drop ((ret10v.1.getD ((k - (1 : Int))).toNat (0 : Int))).toNat)))), (104, [(91, false)], .v (.c (.p (.sl (.int .u8)) (w.drop ((ret10v.1.getD (k).toNat (0 : Int))).toNat))))], []⟩ : St)) (by kernel_rfl) ⟨trivial, trivial, o1, trivial, trivial, trivial, (fun _ => trivial), (fun _ => trivial), o2, (fun _ => trivial), (fun _ => trivial), (fun _ => trivial), (fun _ => trivial), trivial, trivial, (fun _ => trivial), (fun _ => trivial), o3, o4, (fun _ => trivial), (fun _ => trivial), trivial, trivial, (fun _ => trivial), (fun _ => trivial), o5, o6, (fun _ => trivial), (fun _ => trivial), (fun _ => trivial), (fun _ => trivial), trivial, trivial, (fun _ => trivial), (fun _ => trivial), (fun _ => trivial), o7, o8, (fun _ => trivial), o9, (fun _ => trivial), (fun _ => trivial), (fun _ => trivial), o10, (fun _ => trivial), o11, trivial⟩ ?_
          refine awd_one (i := 46) (by kernel_rfl) ?_
          refine adop_callk (p := [(91, false)]) (l := [toV1 (.sl (.int .u8)) (w.drop ((ret10v.1.getD ((k - (1 : Int))).toNat (0 : Int))).toNat), toV1 (.sl (.int .u8)) (w.drop ((ret10v.1.getD (k).toNat (0 : Int))).toNat)]) (cl := []) false [.d (.sl (.int .u8)), .d (.sl (.int .u8))] [0, 3, 5, 7, 91, 105] [] (fun (ret105v : Bool) => (((((((decide ((ret10v.1.getD (k).toNat (0 : Int)) < (0 : Int))) || (decide ((w.length : Int) ≤ (ret10v.1.getD (k).toNat (0 : Int))))) || (decide ((ret10v.1.getD ((k - (1 : Int))).toNat (0 : Int)) < (0 : Int)))) || (decide ((w.length : Int) ≤ (ret10v.1.getD ((k - (1 : Int))).toNat (0 : Int))))) || (!ret105v)) = false → InR (k - (1 : Int))) ∧ ((((((decide ((ret10v.1.getD (k).toNat (0 : Int)) < (0 : Int))) || (decide ((w.length : Int) ≤ (ret10v.1.getD (k).toNat (0 : Int))))) || (decide ((ret10v.1.getD ((k - (1 : Int))).toNat (0 : Int)) < (0 : Int)))) || (decide ((w.length : Int) ≤ (ret10v.1.getD ((k - (1 : Int))).toNat (0 : Int))))) || (!ret105v)) = false → inIdx (k - (1 : Int)) ret10v.1.length) ∧ ((((((decide ((ret10v.1.getD (k).toNat (0 : Int)) < (0 : Int))) || (decide ((w.length : Int) ≤ (ret10v.1.getD (k).toNat (0 : Int))))) || (decide ((ret10v.1.getD ((k - (1 : Int))).toNat (0 : Int)) < (0 : Int)))) || (decide ((w.length : Int) ≤ (ret10v.1.getD ((k - (1 : Int))).toNat (0 : Int))))) || (!ret105v)) = false → (0 ≤ (ret10v.1.getD ((k - (1 : Int))).toNat (0 : Int)) ∧ (ret10v.1.getD ((k - (1 : Int))).toNat (0 : Int)) ≤ (w.length : Int))) ∧ ((((((decide ((ret10v.1.getD (k).toNat (0 : Int)) < (0 : Int))) || (decide ((w.length : Int) ≤ (ret10v.1.getD (k).toNat (0 : Int))))) || (decide ((ret10v.1.getD ((k - (1 : Int))).toNat (0 : Int)) < (0 : Int)))) || (decide ((w.length : Int) ≤ (ret10v.1.getD ((k - (1 : Int))).toNat (0 : Int))))) || (!ret105v)) = false → inIdx k ret10v.1.length) ∧ ((((((decide ((ret10v.1.getD (k).toNat (0 : Int)) < (0 : Int))) || (decide ((w.length : Int) ≤ (ret10v.1.getD (k).toNat (0 : Int))))) || (decide ((ret10v.1.getD ((k - (1 : Int))).toNat (0 : Int)) < (0 : Int)))) || (decide ((w.length : Int) ≤ (ret10v.1.getD ((k - (1 : Int))).toNat (0 : Int))))) || (!ret105v)) = false → (0 ≤ (ret10v.1.getD (k).toNat (0 : Int)) ∧ (ret10v.1.getD (k).toNat (0 : Int)) ≤ (w.length : Int))) ∧ ((((((decide ((ret10v.1.getD (k).toNat (0 : Int)) < (0 : Int))) || (decide ((w.length : Int) ≤ (ret10v.1.getD (k).toNat (0 : Int))))) || (decide ((ret10v.1.getD ((k - (1 : Int))).toNat (0 : Int)) < (0 : Int)))) || (decide ((w.length : Int) ≤ (ret10v.1.getD ((k - (1 : Int))).toNat (0 : Int))))) || (!ret105v)) = false → InR (k - (1 : Int))) ∧ ((((((decide ((ret10v.1.getD (k).toNat (0 : Int)) < (0 : Int))) || (decide ((w.length : Int) ≤ (ret10v.1.getD (k).toNat (0 : Int))))) || (decide ((ret10v.1.getD ((k - (1 : Int))).toNat (0 : Int)) < (0 : Int)))) || (decide ((w.length : Int) ≤ (ret10v.1.getD ((k - (1 : Int))).toNat (0 : Int))))) || (!ret105v)) = false → inIdx (k - (1 : Int)) ret15v.1.length) ∧ gcall (α := Int) (!(((((decide ((ret10v.1.getD (k).toNat (0 : Int)) < (0 : Int))) || (decide ((w.length : Int) ≤ (ret10v.1.getD (k).toNat (0 : Int))))) || (decide ((ret10v.1.getD ((k - (1 : Int))).toNat (0 : Int)) < (0 : Int)))) || (decide ((w.length : Int) ≤ (ret10v.1.getD ((k - (1 : Int))).toNat (0 : Int))))) || (!ret105v))) (VC38 (w.drop ((ret10v.1.getD ((k - (1 : Int))).toNat (0 : Int))).toNat) (w.drop ((ret10v.1.getD (k).toNat (0 : Int))).toNat)) (0 : Int) (fun (ret122v : Int) => ((((((((decide ((ret10v.1.getD (k).toNat (0 : Int)) < (0 : Int))) || (decide ((w.length : Int) ≤ (ret10v.1.getD (k).toNat (0 : Int))))) || (decide ((ret10v.1.getD ((k - (1 : Int))).toNat (0 : Int)) < (0 : Int)))) || (decide ((w.length : Int) ≤ (ret10v.1.getD ((k - (1 : Int))).toNat (0 : Int))))) || (!ret105v)) || (!decide (ret122v = (ret15v.1.getD ((k - (1 : Int))).toNat (0 : Int))))) = true → K false) ∧ (((((((decide ((ret10v.1.getD (k).toNat (0 : Int)) < (0 : Int))) || (decide ((w.length : Int) ≤ (ret10v.1.getD (k).toNat (0 : Int))))) || (decide ((ret10v.1.getD ((k - (1 : Int))).toNat (0 : Int)) < (0 : Int)))) || (decide ((w.length : Int) ≤ (ret10v.1.getD ((k - (1 : Int))).toNat (0 : Int))))) || (!ret105v)) || (!decide (ret122v = (ret15v.1.getD ((k - (1 : Int))).toNat (0 : Int))))) = false → (InR (k + (1 : Int)) ∧ X1 (k + (1 : Int)))))))) (fun ret105v => [toV1 .bool ret105v]) (fun ret105v => (⟨130, [(0, [], .v (.c (.p (.sl (.int .u8)) w))), (3, [], .v (.c (.p (.sl (.int .i64)) ret10v.1))), (5, [], .v (.c (.p (.sl (.int .i64)) ret15v.1))), (7, [], .v (.c (.p (.int .i64) k))), (91, [], .v (.c (.p .bool ((((decide ((ret10v.1.getD (k).toNat (0 : Int)) < (0 : Int))) || (decide ((w.length : Int) ≤ (ret10v.1.getD (k).toNat (0 : Int))))) || (decide ((ret10v.1.getD ((k - (1 : Int))).toNat (0 : Int)) < (0 : Int)))) || (decide ((w.length : Int) ≤ (ret10v.1.getD ((k - (1 : Int))).toNat (0 : Int)))))))), (105, [(91, false)], .v (.c (.p .bool ret105v)))], []⟩ : St)) rfl (by kernel_rfl) rfl (by kernel_rfl) rfl (by kernel_rfl) Try.call37 (by kernel_rfl) (fun ret105v => by kernel_rfl) (fun e => by cases e) (fun hg => link37 (w.drop ((ret10v.1.getD ((k - (1 : Int))).toNat (0 : Int))).toNat) (w.drop ((ret10v.1.getD (k).toNat (0 : Int))).toNat) _ (by have := gcall_T h (show (!((((decide ((ret10v.1.getD (k).toNat (0 : Int)) < (0 : Int))) || (decide ((w.length : Int) ≤ (ret10v.1.getD (k).toNat (0 : Int))))) || (decide ((ret10v.1.getD ((k - (1 : Int))).toNat (0 : Int)) < (0 : Int)))) || (decide ((w.length : Int) ≤ (ret10v.1.getD ((k - (1 : Int))).toNat (0 : Int)))))) = true from hg); exact this)) (fun hg => ⟨false, by have := gcall_F h (show (!((((decide ((ret10v.1.getD (k).toNat (0 : Int)) < (0 : Int))) || (decide ((w.length : Int) ≤ (ret10v.1.getD (k).toNat (0 : Int))))) || (decide ((ret10v.1.getD ((k - (1 : Int))).toNat (0 : Int)) < (0 : Int)))) || (decide ((w.length : Int) ≤ (ret10v.1.getD ((k - (1 : Int))).toNat (0 : Int)))))) = false from hg); exact this⟩) (fun ret105v h => ?_)
          have h : (((((((decide ((ret10v.1.getD (k).toNat (0 : Int)) < (0 : Int))) || (decide ((w.length : Int) ≤ (ret10v.1.getD (k).toNat (0 : Int))))) || (decide ((ret10v.1.getD ((k - (1 : Int))).toNat (0 : Int)) < (0 : Int)))) || (decide ((w.length : Int) ≤ (ret10v.1.getD ((k - (1 : Int))).toNat (0 : Int))))) || (!ret105v)) = false → InR (k - (1 : Int))) ∧ ((((((decide ((ret10v.1.getD (k).toNat (0 : Int)) < (0 : Int))) || (decide ((w.length : Int) ≤ (ret10v.1.getD (k).toNat (0 : Int))))) || (decide ((ret10v.1.getD ((k - (1 : Int))).toNat (0 : Int)) < (0 : Int)))) || (decide ((w.length : Int) ≤ (ret10v.1.getD ((k - (1 : Int))).toNat (0 : Int))))) || (!ret105v)) = false → inIdx (k - (1 : Int)) ret10v.1.length) ∧ ((((((decide ((ret10v.1.getD (k).toNat (0 : Int)) < (0 : Int))) || (decide ((w.length : Int) ≤ (ret10v.1.getD (k).toNat (0 : Int))))) || (decide ((ret10v.1.getD ((k - (1 : Int))).toNat (0 : Int)) < (0 : Int)))) || (decide ((w.length : Int) ≤ (ret10v.1.getD ((k - (1 : Int))).toNat (0 : Int))))) || (!ret105v)) = false → (0 ≤ (ret10v.1.getD ((k - (1 : Int))).toNat (0 : Int)) ∧ (ret10v.1.getD ((k - (1 : Int))).toNat (0 : Int)) ≤ (w.length : Int))) ∧ ((((((decide ((ret10v.1.getD (k).toNat (0 : Int)) < (0 : Int))) || (decide ((w.length : Int) ≤ (ret10v.1.getD (k).toNat (0 : Int))))) || (decide ((ret10v.1.getD ((k - (1 : Int))).toNat (0 : Int)) < (0 : Int)))) || (decide ((w.length : Int) ≤ (ret10v.1.getD ((k - (1 : Int))).toNat (0 : Int))))) || (!ret105v)) = false → inIdx k ret10v.1.length) ∧ ((((((decide ((ret10v.1.getD (k).toNat (0 : Int)) < (0 : Int))) || (decide ((w.length : Int) ≤ (ret10v.1.getD (k).toNat (0 : Int))))) || (decide ((ret10v.1.getD ((k - (1 : Int))).toNat (0 : Int)) < (0 : Int)))) || (decide ((w.length : Int) ≤ (ret10v.1.getD ((k - (1 : Int))).toNat (0 : Int))))) || (!ret105v)) = false → (0 ≤ (ret10v.1.getD (k).toNat (0 : Int)) ∧ (ret10v.1.getD (k).toNat (0 : Int)) ≤ (w.length : Int))) ∧ ((((((decide ((ret10v.1.getD (k).toNat (0 : Int)) < (0 : Int))) || (decide ((w.length : Int) ≤ (ret10v.1.getD (k).toNat (0 : Int))))) || (decide ((ret10v.1.getD ((k - (1 : Int))).toNat (0 : Int)) < (0 : Int)))) || (decide ((w.length : Int) ≤ (ret10v.1.getD ((k - (1 : Int))).toNat (0 : Int))))) || (!ret105v)) = false → InR (k - (1 : Int))) ∧ ((((((decide ((ret10v.1.getD (k).toNat (0 : Int)) < (0 : Int))) || (decide ((w.length : Int) ≤ (ret10v.1.getD (k).toNat (0 : Int))))) || (decide ((ret10v.1.getD ((k - (1 : Int))).toNat (0 : Int)) < (0 : Int)))) || (decide ((w.length : Int) ≤ (ret10v.1.getD ((k - (1 : Int))).toNat (0 : Int))))) || (!ret105v)) = false → inIdx (k - (1 : Int)) ret15v.1.length) ∧ gcall (α := Int) (!(((((decide ((ret10v.1.getD (k).toNat (0 : Int)) < (0 : Int))) || (decide ((w.length : Int) ≤ (ret10v.1.getD (k).toNat (0 : Int))))) || (decide ((ret10v.1.getD ((k - (1 : Int))).toNat (0 : Int)) < (0 : Int)))) || (decide ((w.length : Int) ≤ (ret10v.1.getD ((k - (1 : Int))).toNat (0 : Int))))) || (!ret105v))) (VC38 (w.drop ((ret10v.1.getD ((k - (1 : Int))).toNat (0 : Int))).toNat) (w.drop ((ret10v.1.getD (k).toNat (0 : Int))).toNat)) (0 : Int) (fun (ret122v : Int) => ((((((((decide ((ret10v.1.getD (k).toNat (0 : Int)) < (0 : Int))) || (decide ((w.length : Int) ≤ (ret10v.1.getD (k).toNat (0 : Int))))) || (decide ((ret10v.1.getD ((k - (1 : Int))).toNat (0 : Int)) < (0 : Int)))) || (decide ((w.length : Int) ≤ (ret10v.1.getD ((k - (1 : Int))).toNat (0 : Int))))) || (!ret105v)) || (!decide (ret122v = (ret15v.1.getD ((k - (1 : Int))).toNat (0 : Int))))) = true → K false) ∧ (((((((decide ((ret10v.1.getD (k).toNat (0 : Int)) < (0 : Int))) || (decide ((w.length : Int) ≤ (ret10v.1.getD (k).toNat (0 : Int))))) || (decide ((ret10v.1.getD ((k - (1 : Int))).toNat (0 : Int)) < (0 : Int)))) || (decide ((w.length : Int) ≤ (ret10v.1.getD ((k - (1 : Int))).toNat (0 : Int))))) || (!ret105v)) || (!decide (ret122v = (ret15v.1.getD ((k - (1 : Int))).toNat (0 : Int))))) = false → (InR (k + (1 : Int)) ∧ X1 (k + (1 : Int))))))) := h
          obtain ⟨o1, o2, o3, o4, o5, o6, o7, h⟩ := h
          refine awd_runp (by kernel_rfl) [47, 48, 49, 50, 51, 52, 53, 54, 55, 56, 57, 58, 59, 60, 61, 62, 64, 65, 66, 67, 68] [0, 3, 5, 7, 108, 115, 121, 127] [] (ob := ((((((decide ((ret10v.1.getD (k).toNat (0 : Int)) < (0 : Int))) || (decide ((w.length : Int) ≤ (ret10v.1.getD (k).toNat (0 : Int))))) || (decide ((ret10v.1.getD ((k - (1 : Int))).toNat (0 : Int)) < (0 : Int)))) || (decide ((w.length : Int) ≤ (ret10v.1.getD ((k - (1 : Int))).toNat (0 : Int))))) = false → True) ∧ True ∧ True ∧ ((((((decide ((ret10v.1.getD (k).toNat (0 : Int)) < (0 : Int))) || (decide ((w.length : Int) ≤ (ret10v.1.getD (k).toNat (0 : Int))))) || (decide ((ret10v.1.getD ((k - (1 : Int))).toNat (0 : Int)) < (0 : Int)))) || (decide ((w.length : Int) ≤ (ret10v.1.getD ((k - (1 : Int))).toNat (0 : Int))))) || (!ret105v)) = false → True) ∧ ((((((decide ((ret10v.1.getD (k).toNat (0 : Int)) < (0 : Int))) || (decide ((w.length : Int) ≤ (ret10v.1.getD (k).toNat (0 : Int))))) || (decide ((ret10v.1.getD ((k - (1 : Int))).toNat (0 : Int)) < (0 : Int)))) || (decide ((w.length : Int) ≤ (ret10v.1.getD ((k - (1 : Int))).toNat (0 : Int))))) || (!ret105v)) = false → True) ∧ ((((((decide ((ret10v.1.getD (k).toNat (0 : Int)) < (0 : Int))) || (decide ((w.length : Int) ≤ (ret10v.1.getD (k).toNat (0 : Int))))) || (decide ((ret10v.1.getD ((k - (1 : Int))).toNat (0 : Int)) < (0 : Int)))) || (decide ((w.length : Int) ≤ (ret10v.1.getD ((k - (1 : Int))).toNat (0 : Int))))) || (!ret105v)) = false → True) ∧ ((((((decide ((ret10v.1.getD (k).toNat (0 : Int)) < (0 : Int))) || (decide ((w.length : Int) ≤ (ret10v.1.getD (k).toNat (0 : Int))))) || (decide ((ret10v.1.getD ((k - (1 : Int))).toNat (0 : Int)) < (0 : Int)))) || (decide ((w.length : Int) ≤ (ret10v.1.getD ((k - (1 : Int))).toNat (0 : Int))))) || (!ret105v)) = false → InR (k - (1 : Int))) ∧ ((((((decide ((ret10v.1.getD (k).toNat (0 : Int)) < (0 : Int))) || (decide ((w.length : Int) ≤ (ret10v.1.getD (k).toNat (0 : Int))))) || (decide ((ret10v.1.getD ((k - (1 : Int))).toNat (0 : Int)) < (0 : Int)))) || (decide ((w.length : Int) ≤ (ret10v.1.getD ((k - (1 : Int))).toNat (0 : Int))))) || (!ret105v)) = false → inIdx (k - (1 : Int)) ret10v.1.length) ∧ ((((((decide ((ret10v.1.getD (k).toNat (0 : Int)) < (0 : Int))) || (decide ((w.length : Int) ≤ (ret10v.1.getD (k).toNat (0 : Int))))) || (decide ((ret10v.1.getD ((k - (1 : Int))).toNat (0 : Int)) < (0 : Int)))) || (decide ((w.length : Int) ≤ (ret10v.1.getD ((k - (1 : Int))).toNat (0 : Int))))) || (!ret105v)) = false → True) ∧ ((((((decide ((ret10v.1.getD (k).toNat (0 : Int)) < (0 : Int))) || (decide ((w.length : Int) ≤ (ret10v.1.getD (k).toNat (0 : Int))))) || (decide ((ret10v.1.getD ((k - (1 : Int))).toNat (0 : Int)) < (0 : Int)))) || (decide ((w.length : Int) ≤ (ret10v.1.getD ((k - (1 : Int))).toNat (0 : Int))))) || (!ret105v)) = false → (0 ≤ (ret10v.1.getD ((k - (1 : Int))).toNat (0 : Int)) ∧ (ret10v.1.getD ((k - (1 : Int))).toNat (0 : Int)) ≤ (w.length : Int))) ∧ ((((((decide ((ret10v.1.getD (k).toNat (0 : Int)) < (0 : Int))) || (decide ((w.length : Int) ≤ (ret10v.1.getD (k).toNat (0 : Int))))) || (decide ((ret10v.1.getD ((k - (1 : Int))).toNat (0 : Int)) < (0 : Int)))) || (decide ((w.length : Int) ≤ (ret10v.1.getD ((k - (1 : Int))).toNat (0 : Int))))) || (!ret105v)) = false → True) ∧ ((((((decide ((ret10v.1.getD (k).toNat (0 : Int)) < (0 : Int))) || (decide ((w.length : Int) ≤ (ret10v.1.getD (k).toNat (0 : Int))))) || (decide ((ret10v.1.getD ((k - (1 : Int))).toNat (0 : Int)) < (0 : Int)))) || (decide ((w.length : Int) ≤ (ret10v.1.getD ((k - (1 : Int))).toNat (0 : Int))))) || (!ret105v)) = false → True) ∧ ((((((decide ((ret10v.1.getD (k).toNat (0 : Int)) < (0 : Int))) || (decide ((w.length : Int) ≤ (ret10v.1.getD (k).toNat (0 : Int))))) || (decide ((ret10v.1.getD ((k - (1 : Int))).toNat (0 : Int)) < (0 : Int)))) || (decide ((w.length : Int) ≤ (ret10v.1.getD ((k - (1 : Int))).toNat (0 : Int))))) || (!ret105v)) = false → True) ∧ ((((((decide ((ret10v.1.getD (k).toNat (0 : Int)) < (0 : Int))) || (decide ((w.length : Int) ≤ (ret10v.1.getD (k).toNat (0 : Int))))) || (decide ((ret10v.1.getD ((k - (1 : Int))).toNat (0 : Int)) < (0 : Int)))) || (decide ((w.length : Int) ≤ (ret10v.1.getD ((k - (1 : Int))).toNat (0 : Int))))) || (!ret105v)) = false → inIdx k ret10v.1.length) ∧ ((((((decide ((ret10v.1.getD (k).toNat (0 : Int)) < (0 : Int))) || (decide ((w.length : Int) ≤ (ret10v.1.getD (k).toNat (0 : Int))))) || (decide ((ret10v.1.getD ((k - (1 : Int))).toNat (0 : Int)) < (0 : Int)))) || (decide ((w.length : Int) ≤ (ret10v.1.getD ((k - (1 : Int))).toNat (0 : Int))))) || (!ret105v)) = false → True) ∧ ((((((decide ((ret10v.1.getD (k).toNat (0 : Int)) < (0 : Int))) || (decide ((w.length : Int) ≤ (ret10v.1.getD (k).toNat (0 : Int))))) || (decide ((ret10v.1.getD ((k - (1 : Int))).toNat (0 : Int)) < (0 : Int)))) || (decide ((w.length : Int) ≤ (ret10v.1.getD ((k - (1 : Int))).toNat (0 : Int))))) || (!ret105v)) = false → (0 ≤ (ret10v.1.getD (k).toNat (0 : Int)) ∧ (ret10v.1.getD (k).toNat (0 : Int)) ≤ (w.length : Int))) ∧ ((((((decide ((ret10v.1.getD (k).toNat (0 : Int)) < (0 : Int))) || (decide ((w.length : Int) ≤ (ret10v.1.getD (k).toNat (0 : Int))))) || (decide ((ret10v.1.getD ((k - (1 : Int))).toNat (0 : Int)) < (0 : Int)))) || (decide ((w.length : Int) ≤ (ret10v.1.getD ((k - (1 : Int))).toNat (0 : Int))))) || (!ret105v)) = false → True) ∧ ((((((decide ((ret10v.1.getD (k).toNat (0 : Int)) < (0 : Int))) || (decide ((w.length : Int) ≤ (ret10v.1.getD (k).toNat (0 : Int))))) || (decide ((ret10v.1.getD ((k - (1 : Int))).toNat (0 : Int)) < (0 : Int)))) || (decide ((w.length : Int) ≤ (ret10v.1.getD ((k - (1 : Int))).toNat (0 : Int))))) || (!ret105v)) = false → True) ∧ ((((((decide ((ret10v.1.getD (k).toNat (0 : Int)) < (0 : Int))) || (decide ((w.length : Int) ≤ (ret10v.1.getD (k).toNat (0 : Int))))) || (decide ((ret10v.1.getD ((k - (1 : Int))).toNat (0 : Int)) < (0 : Int)))) || (decide ((w.length : Int) ≤ (ret10v.1.getD ((k - (1 : Int))).toNat (0 : Int))))) || (!ret105v)) = false → InR (k - (1 : Int))) ∧ ((((((decide ((ret10v.1.getD (k).toNat (0 : Int)) < (0 : Int))) || (decide ((w.length : Int) ≤ (ret10v.1.getD (k).toNat (0 : Int))))) || (decide ((ret10v.1.getD ((k - (1 : Int))).toNat (0 : Int)) < (0 : Int)))) || (decide ((w.length : Int) ≤ (ret10v.1.getD ((k - (1 : Int))).toNat (0 : Int))))) || (!ret105v)) = false → inIdx (k - (1 : Int)) ret15v.1.length) ∧ ((((((decide ((ret10v.1.getD (k).toNat (0 : Int)) < (0 : Int))) || (decide ((w.length : Int) ≤ (ret10v.1.getD (k).toNat (0 : Int))))) || (decide ((ret10v.1.getD ((k - (1 : Int))).toNat (0 : Int)) < (0 : Int)))) || (decide ((w.length : Int) ≤ (ret10v.1.getD ((k - (1 : Int))).toNat (0 : Int))))) || (!ret105v)) = false → True) ∧ True)) (done' := [68, 67, 66, 65, 64, 62, 61, 60, 59, 58, 57, 56, 55, 54, 53, 52, 51, 50, 49, 48, 47, 46, 45, 44, 43, 42, 41, 40, 39, 38, 37, 36, 35, 34, 33, 32, 31, 30, 29, 28, 27, 26, 25, 24, 23, 22, 21, 20, 19, 18, 17, 16, 15, 14, 13, 12, 11, 10, 9, 8, 7, 6, 5, 4, 3, 2, 1, 0]) (st' := (⟨130, [(0, [], .v (.c (.p (.sl (.int .u8)) w))), (3, [], .v (.c (.p (.sl (.int .i64)) ret10v.1))), (5, [], .v (.c (.p (.sl (.int .i64)) ret15v.1))), (7, [], .v (.c (.p (.int .i64) k))), (108, [], .v (.c (.p .bool (((((decide ((ret10v.1.getD (k).toNat (0 : Int)) < (0 : Int))) || (decide ((w.length : Int) ≤ (ret10v.1.getD (k).toNat (0 : Int))))) || (decide ((ret10v.1.getD ((k - (1 : Int))).toNat (0 : Int)) < (0 : Int)))) || (decide ((w.length : Int) ≤ (ret10v.1.getD ((k - (1 : Int))).toNat (0 : Int))))) || (!ret105v))))), (115, [(108, false)], .v (.c (.p (.sl (.int .u8)) (w.drop ((ret10v.1.getD ((k - (1 : Int))).toNat (0 : Int))).toNat)))), (121, [(108, false)], .v (.c (.p (.sl (.int .u8)) (w.drop ((ret10v.1.getD (k).toNat (0 : Int))).toNat)))), (127, [(108, false)], .v (.c (.p (.int .i64) (ret15v.1.getD ((k - (1 : Int))).toNat (0 : Int)))))], []⟩ : St)) (by kernel_rfl) ⟨(fun _ => trivial), trivial, trivial, (fun _ => trivial), (fun _ => trivial), (fun _ => trivial), o1, o2, (fun _ => trivial), o3, (fun _ => trivial), (fun _ => trivial), (fun _ => trivial), o4, (fun _ => trivial), o5, (fun _ => trivial), (fun _ => trivial), o6, o7, (fun _ => trivial), trivial⟩ ?_
          refine awd_one (i := 63) (by kernel_rfl) ?_
          refine adop_callk (p := [(108, false)]) (l := [toV1 (.sl (.int .u8)) (w.drop ((ret10v.1.getD ((k - (1 : Int))).toNat (0 : Int))).toNat), toV1 (.sl (.int .u8)) (w.drop ((ret10v.1.getD (k).toNat (0 : Int))).toNat)]) (cl := []) false [.d (.sl (.int .u8)), .d (.sl (.int .u8))] [0, 3, 5, 7, 108, 122, 127] [] (fun (ret122v : Int) => ((((((((decide ((ret10v.1.getD (k).toNat (0 : Int)) < (0 : Int))) || (decide ((w.length : Int) ≤ (ret10v.1.getD (k).toNat (0 : Int))))) || (decide ((ret10v.1.getD ((k - (1 : Int))).toNat (0 : Int)) < (0 : Int)))) || (decide ((w.length : Int) ≤ (ret10v.1.getD ((k - (1 : Int))).toNat (0 : Int))))) || (!ret105v)) || (!decide (ret122v = (ret15v.1.getD ((k - (1 : Int))).toNat (0 : Int))))) = true → K false) ∧ (((((((decide ((ret10v.1.getD (k).toNat (0 : Int)) < (0 : Int))) || (decide ((w.length : Int) ≤ (ret10v.1.getD (k).toNat (0 : Int))))) || (decide ((ret10v.1.getD ((k - (1 : Int))).toNat (0 : Int)) < (0 : Int)))) || (decide ((w.length : Int) ≤ (ret10v.1.getD ((k - (1 : Int))).toNat (0 : Int))))) || (!ret105v)) || (!decide (ret122v = (ret15v.1.getD ((k - (1 : Int))).toNat (0 : Int))))) = false → (InR (k + (1 : Int)) ∧ X1 (k + (1 : Int)))))) (fun ret122v => [toV1 (.int .i64) ret122v]) (fun ret122v => (⟨130, [(0, [], .v (.c (.p (.sl (.int .u8)) w))), (3, [], .v (.c (.p (.sl (.int .i64)) ret10v.1))), (5, [], .v (.c (.p (.sl (.int .i64)) ret15v.1))), (7, [], .v (.c (.p (.int .i64) k))), (108, [], .v (.c (.p .bool (((((decide ((ret10v.1.getD (k).toNat (0 : Int)) < (0 : Int))) || (decide ((w.length : Int) ≤ (ret10v.1.getD (k).toNat (0 : Int))))) || (decide ((ret10v.1.getD ((k - (1 : Int))).toNat (0 : Int)) < (0 : Int)))) || (decide ((w.length : Int) ≤ (ret10v.1.getD ((k - (1 : Int))).toNat (0 : Int))))) || (!ret105v))))), (122, [(108, false)], .v (.c (.p (.int .i64) ret122v))), (127, [(108, false)], .v (.c (.p (.int .i64) (ret15v.1.getD ((k - (1 : Int))).toNat (0 : Int)))))], []⟩ : St)) rfl (by kernel_rfl) rfl (by kernel_rfl) rfl (by kernel_rfl) Try.call38 (by kernel_rfl) (fun ret122v => by kernel_rfl) (fun e => by cases e) (fun hg => link38 (w.drop ((ret10v.1.getD ((k - (1 : Int))).toNat (0 : Int))).toNat) (w.drop ((ret10v.1.getD (k).toNat (0 : Int))).toNat) _ (by have := gcall_T h (show (!(((((decide ((ret10v.1.getD (k).toNat (0 : Int)) < (0 : Int))) || (decide ((w.length : Int) ≤ (ret10v.1.getD (k).toNat (0 : Int))))) || (decide ((ret10v.1.getD ((k - (1 : Int))).toNat (0 : Int)) < (0 : Int)))) || (decide ((w.length : Int) ≤ (ret10v.1.getD ((k - (1 : Int))).toNat (0 : Int))))) || (!ret105v))) = true from hg); exact this)) (fun hg => ⟨(0 : Int), by have := gcall_F h (show (!(((((decide ((ret10v.1.getD (k).toNat (0 : Int)) < (0 : Int))) || (decide ((w.length : Int) ≤ (ret10v.1.getD (k).toNat (0 : Int))))) || (decide ((ret10v.1.getD ((k - (1 : Int))).toNat (0 : Int)) < (0 : Int)))) || (decide ((w.length : Int) ≤ (ret10v.1.getD ((k - (1 : Int))).toNat (0 : Int))))) || (!ret105v))) = false from hg); exact this⟩) (fun ret122v h => ?_)
          have h : ((((((((decide ((ret10v.1.getD (k).toNat (0 : Int)) < (0 : Int))) || (decide ((w.length : Int) ≤ (ret10v.1.getD (k).toNat (0 : Int))))) || (decide ((ret10v.1.getD ((k - (1 : Int))).toNat (0 : Int)) < (0 : Int)))) || (decide ((w.length : Int) ≤ (ret10v.1.getD ((k - (1 : Int))).toNat (0 : Int))))) || (!ret105v)) || (!decide (ret122v = (ret15v.1.getD ((k - (1 : Int))).toNat (0 : Int))))) = true → K false) ∧ (((((((decide ((ret10v.1.getD (k).toNat (0 : Int)) < (0 : Int))) || (decide ((w.length : Int) ≤ (ret10v.1.getD (k).toNat (0 : Int))))) || (decide ((ret10v.1.getD ((k - (1 : Int))).toNat (0 : Int)) < (0 : Int)))) || (decide ((w.length : Int) ≤ (ret10v.1.getD ((k - (1 : Int))).toNat (0 : Int))))) || (!ret105v)) || (!decide (ret122v = (ret15v.1.getD ((k - (1 : Int))).toNat (0 : Int))))) = false → (InR (k + (1 : Int)) ∧ X1 (k + (1 : Int))))) := h
          refine awd_runp (by kernel_rfl) [69, 70] [0, 3, 5, 7, 129] [] (ob := (((((((decide ((ret10v.1.getD (k).toNat (0 : Int)) < (0 : Int))) || (decide ((w.length : Int) ≤ (ret10v.1.getD (k).toNat (0 : Int))))) || (decide ((ret10v.1.getD ((k - (1 : Int))).toNat (0 : Int)) < (0 : Int)))) || (decide ((w.length : Int) ≤ (ret10v.1.getD ((k - (1 : Int))).toNat (0 : Int))))) || (!ret105v)) = false → True) ∧ True ∧ True)) (done' := [70, 69, 63, 68, 67, 66, 65, 64, 62, 61, 60, 59, 58, 57, 56, 55, 54, 53, 52, 51, 50, 49, 48, 47, 46, 45, 44, 43, 42, 41, 40, 39, 38, 37, 36, 35, 34, 33, 32, 31, 30, 29, 28, 27, 26, 25, 24, 23, 22, 21, 20, 19, 18, 17, 16, 15, 14, 13, 12, 11, 10, 9, 8, 7, 6, 5, 4, 3, 2, 1, 0]) (st' := (⟨130, [(0, [], .v (.c (.p (.sl (.int .u8)) w))), (3, [], .v (.c (.p (.sl (.int .i64)) ret10v.1))), (5, [], .v (.c (.p (.sl (.int .i64)) ret15v.1))), (7, [], .v (.c (.p (.int .i64) k))), (129, [], .v (.c (.p .bool ((((((decide ((ret10v.1.getD (k).toNat (0 : Int)) < (0 : Int))) || (decide ((w.length : Int) ≤ (ret10v.1.getD (k).toNat (0 : Int))))) || (decide ((ret10v.1.getD ((k - (1 : Int))).toNat (0 : Int)) < (0 : Int)))) || (decide ((w.length : Int) ≤ (ret10v.1.getD ((k - (1 : Int))).toNat (0 : Int))))) || (!ret105v)) || (!decide (ret122v = (ret15v.1.getD ((k - (1 : Int))).toNat (0 : Int))))))))], []⟩ : St)) (by kernel_rfl) ⟨(fun _ => trivial), trivial, trivial⟩ ?_
          refine awd_done (by kernel_rfl) ?_
          refine thenQ_n ?_
          refine aw_cond (b := ((((((decide ((ret10v.1.getD (k).toNat (0 : Int)) < (0 : Int))) || (decide ((w.length : Int) ≤ (ret10v.1.getD (k).toNat (0 : Int))))) || (decide ((ret10v.1.getD ((k - (1 : Int))).toNat (0 : Int)) < (0 : Int)))) || (decide ((w.length : Int) ≤ (ret10v.1.getD ((k - (1 : Int))).toNat (0 : Int))))) || (!ret105v)) || (!decide (ret122v = (ret15v.1.getD ((k - (1 : Int))).toNat (0 : Int)))))) (by kernel_rfl) (fun hb => ?_) (fun hb => ?_)
          · have h := h.1 hb
            refine aw_seq ?_
            refine aw_region ?_
            refine awl_runp 1 [2] [] (ob := (True ∧ True)) (st' := (⟨130, [(2, [], .v (.c (.p .bool false)))], []⟩ : St)) (by kernel_rfl) ⟨trivial, trivial⟩ ?_
            refine awl_nil ?_
            refine thenQ_n ?_
            refine aw_ret ?_
            refine blockQ_r ?_
            refine thenQ_r ?_
            refine thenQ_r ?_
            refine blockQ_r ?_
            refine thenQ_r ?_
            exact retQ_r (σ := Bool) (R := (fun y => [toV1 .bool y])) (ob := (True ∧ True)) false (by kernel_rfl) ⟨trivial, trivial⟩ h
          · have h := h.2 hb
            refine aw_skip ?_
            refine blockQ_n ?_
            refine thenQ_n ?_
            refine aw_region ?_
            obtain ⟨o1, h⟩ := h
            refine awl_runp 3 [0, 3, 5, 7] [] (ob := (True ∧ InR (k + (1 : Int)) ∧ True ∧ True)) (st' := (⟨130, [(0, [], .v (.c (.p (.sl (.int .u8)) w))), (3, [], .v (.c (.p (.sl (.int .i64)) ret10v.1))), (5, [], .v (.c (.p (.sl (.int .i64)) ret15v.1))), (7, [], .v (.c (.p (.int .i64) (k + (1 : Int)))))], []⟩ : St)) (by kernel_rfl) ⟨trivial, o1, trivial, trivial⟩ ?_
            refine awl_nil ?_
            exact thenQ_n ⟨(k + (1 : Int)), rfl, h⟩
        · have h := h.2 hb
          refine aw_conv [.prune [] []] (st' := (⟨130, [], []⟩ : St)) (by kernel_rfl) ?_
          refine aw_exit ?_
          refine thenQ_x ?_
          refine thenQ_x ?_
          refine blockQ_hit ?_
          exact rest1 () h

end Dec
