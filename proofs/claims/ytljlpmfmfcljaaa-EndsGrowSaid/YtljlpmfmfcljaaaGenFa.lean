/-
Printed by dec2.py: of each function its plain demand, and that the demand gives the contract.
-/
import Derived.Test.YtljlpmfmfcljaaaProg
import Derived.Test.YtljlpmfmfcljaaaDecBy
import Derived.Test.YtljlpmfmfcljaaaDecRh
import Derived.Test.YtljlpmfmfcljaaaShelf
set_option linter.unusedSimpArgs false
set_option linter.unusedVariables false
set_option maxRecDepth 100000
namespace Dec
open Go Go.RowKit Go.Proofs
abbrev e27_0 (words : LL) : Nat × Path × AV := s1 5 (.p (.sl (.sl (.int .u8))) words)
abbrev e27_1 (words : LL) : Nat × Path × AV := sI 6 (words.length : Int)
-- coppicer/power.Large
def VC27_k1 (K : Int → Prop) : Prop :=
  K (0 : Int)
def VC27_l1 (words : LL) (K : Int → Prop) (v7 : Int) (X1 : Int → Prop) : Prop :=
  (((decide (v7 < (words.length : Int))) = true → (inIdx v7 words.length ∧ (((decide ((60 : Int) < ((words.getD (v7).toNat ([] : LI)).length : Int))) = true → K (1 : Int)) ∧ ((decide ((60 : Int) < ((words.getD (v7).toNat ([] : LI)).length : Int))) = false → (InR (v7 + (1 : Int)) ∧ X1 (v7 + (1 : Int))))))) ∧ ((decide (v7 < (words.length : Int))) = false → VC27_k1 K))
def VC27 (words : LL) (K : Int → Prop) : Prop :=
  Loop (σ := Int) (fun s X => VC27_l1 words K s X) (0 : Int)
set_option maxHeartbeats 4000000 in
theorem link27 (words : LL) (K : Int → Prop) (h : VC27 words K) : ACalls Try.prog 27 [toV1 (.sl (.sl (.int .u8))) words] (fun res => ∃ y, res = (fun y => [toV1 tI y]) y ∧ K y) := by
 refine acalls_of_aw [tI] [.t 2] Try.func27 rfl rfl rfl ?_
 unfold VC27 at h
 refine srn 1 ⟨15, [s1 0 (.p (.sl (.sl (.int .u8))) words)], []⟩ (by kernel_rfl) rfl ?_
 refine aw_seq ?_
 refine srn 3 ⟨15, [e27_0 words, e27_1 words, sI 7 (0 : Int)], []⟩ (by kernel_rfl) rfl ?_
 refine withJoin (σ := Unit) (fun s => (⟨15, [], []⟩ : St)) (fun s => VC27_k1 K) (fun s h => ?_) (fun rest1 => ?_)
 ·have h : VC27_k1 K := h
  unfold VC27_k1 at h
  refine thenQ_n ?_
  refine srn 1 ⟨15, [sI 2 (0 : Int)], []⟩ (by kernel_rfl) rfl ?_
  refine aw_ret ?_
  exact retQ_r (ob := Ts 1 True) _ (by kernel_rfl) (tsI 1 trivial) h
 ·refine aw_block ?_
  refine aw_loop (σ := Int) (fun s => (⟨15, [e27_0 words, e27_1 words, sI 7 s], []⟩ : St)) (fun s X => VC27_l1 words K s X) (s0 := (0 : Int)) (fun v7 X1 h => ?_) h
  have h : VC27_l1 words K v7 X1 := h
  unfold VC27_l1 at h
  refine srn 1 ⟨15, [e27_0 words, e27_1 words, sI 7 v7, sB 8 (decide (v7 < (words.length : Int)))], []⟩ (by kernel_rfl) rfl ?_
  refine aw_seq ?_
  refine aw_cond (b := (decide (v7 < (words.length : Int)))) (by kernel_rfl) (fun hb => ?_) (fun hb => ?_)
  ·have h := h.1 hb
   refine aw_skip ?_
   refine thenQ_n ?_
   refine aw_seq ?_
   refine aw_block ?_
   refine sr ?_
   obtain ⟨o1, h⟩ := h
   refine rq 3 (ob := (inIdx v7 words.length ∧ Ts 2 True)) (st' := (⟨15, [s1 4 (.p (.sl (.int .u8)) (words.getD (v7).toNat ([] : LI))), e27_0 words, e27_1 words, sI 7 v7], []⟩ : St)) (by kernel_rfl) (⟨o1, tsI 2 trivial⟩) ?_
   refine nsr ?_
   refine rqT 3 ⟨15, [e27_0 words, e27_1 words, sI 7 v7, sB 13 (decide ((60 : Int) < ((words.getD (v7).toNat ([] : LI)).length : Int)))], []⟩ (by kernel_rfl) ?_
   refine nn ?_
   refine aw_cond (b := (decide ((60 : Int) < ((words.getD (v7).toNat ([] : LI)).length : Int)))) (by kernel_rfl) (fun hb => ?_) (fun hb => ?_)
   ·have h := h.1 hb
    refine srn 1 ⟨15, [sI 2 (1 : Int)], []⟩ (by kernel_rfl) rfl ?_
    refine aw_ret ?_
    refine blockQ_r ?_
    refine thenQ_r ?_
    refine thenQ_r ?_
    refine blockQ_r ?_
    refine thenQ_r ?_
    exact retQ_r (ob := Ts 1 True) _ (by kernel_rfl) (tsI 1 trivial) h
   ·have h := h.2 hb
    refine aw_skip ?_
    refine blockQ_n ?_
    refine thenQ_n ?_
    refine aw_region ?_
    obtain ⟨o1, h⟩ := h
    refine rq 2 (ob := (InR (v7 + (1 : Int)) ∧ Ts 1 True)) (st' := (⟨15, [e27_0 words, e27_1 words, sI 7 (v7 + (1 : Int))], []⟩ : St)) (by kernel_rfl) (⟨o1, tsI 1 trivial⟩) ?_
    refine awl_nil ?_
    exact thenQ_n ⟨(v7 + (1 : Int)), rfl, h⟩
  ·have h := h.2 hb
   refine cpr (st' := (⟨15, [], []⟩ : St)) (by kernel_rfl) ?_
   refine aw_exit ?_
   refine thenQ_x ?_
   refine thenQ_x ?_
   refine blockQ_hit ?_
   exact rest1 () h
-- bytes.Compare
def VC48 (x0 : List Int) (x1 : List Int) (K : Int → Prop) : Prop := K (cmpI x0 x1)
set_option maxHeartbeats 4000000 in
theorem calls48 (v u : Value) (r : Int) (w : World) (hrun : (Extern.BytealgCompare.compare #[v, u]).run Try.prog w = .ok (.int .i64 r) w) :
    Calls Try.prog 48 #[v, u] w fun e w' => e = .returned (.int .i64 r) ∧ w' = w := by
  go_enter Try.func48, Try.ntmps48
  go_wp2
  rw [run_callFunc_extern Try.func64 (by kernel_rfl) (by kernel_rfl) (by kernel_rfl) (e := Extern.BytealgCompare.compare) (by kernel_rfl), hrun]
  simp only [Result.andThen]
  rw [Oper.upon_value]
  go_wp2
  go_ret
  exact ⟨rfl, rfl⟩
theorem link48 (x0 : List Int) (x1 : List Int) (K : Int → Prop) (h : VC48 x0 x1 K) : ACalls Try.prog 48 [toV1 (.sl (.int .u8)) x0, toV1 (.sl (.int .u8)) x1] (fun res => ∃ y, res = (fun y => [toV1 tI y]) y ∧ K y) := by
  intro w S vs hS ha
  match vs, ha with
  | [v, u], ⟨h1, h2, _⟩ =>
  have e1 : Enc w S (.sl (.int .u8)) x0 [v] := h1.v1 (G := ⟨S, fun _ => none, fun _ => undef⟩)
  have e2 : Enc w S (.sl (.int .u8)) x1 [u] := h2.v1 (G := ⟨S, fun _ => none, fun _ => undef⟩)
  refine (calls48 v u _ w (run_compare e1 e2)).mono ?_
  rintro en w' ⟨rfl, rfl⟩
  have hr : ∀ l m : List Int, -1 ≤ cmpI l m ∧ cmpI l m ≤ 1 := by
    intro l
    induction l with
    | nil => intro m; cases m <;> simp [cmpI]
    | cons a l ih =>
      intro m
      cases m with
      | nil => simp [cmpI]
      | cons b m =>
        have := ih m
        simp only [cmpI]
        split
        · omega
        · split <;> omega
  have hr := hr x0 x1
  refine ⟨[_], [toV1 tI (cmpI x0 x1)], S, rfl, Bel.refl _ _, fun b hb => ⟨hS b hb, .inl hb⟩, ⟨⟨.int .i64, cmpI x0 x1, _, rfl, ⟨rfl, ?_, ?_⟩, rfl⟩, trivial⟩, _, rfl, h⟩
  · show (-9223372036854775808 : Int) ≤ cmpI x0 x1; omega
  · show cmpI x0 x1 ≤ (9223372036854775807 : Int); omega
-- coppicer/ends.order$1
def VC47 (a : Int) (b : Int) (a2 : LI) (K : Int → Prop) : Prop :=
  ((0 ≤ a ∧ a ≤ (a2.length : Int)) ∧ (0 ≤ b ∧ b ≤ (a2.length : Int)) ∧ VC48 (a2.drop (a).toNat) (a2.drop (b).toNat) (fun (ret12v : Int) => K ret12v))
set_option maxHeartbeats 4000000 in
theorem link47 (a : Int) (b : Int) (a2 : LI) (K : Int → Prop) (h : VC47 a b a2 K) : ACalls Try.prog 47 [toV1 tI a, toV1 tI b, .c (.ad (.sl (.int .u8)) a2)] (fun res => ∃ y, res = (fun y => [toV1 tI y]) y ∧ K y) := by
 refine acalls_of_aw [tI] [.t 5] Try.func47 rfl rfl rfl ?_
 unfold VC47 at h
 refine srn 1 ⟨13, [sI 0 a, sI 1 b, s1 2 (.ad (.sl (.int .u8)) a2)], []⟩ (by kernel_rfl) rfl ?_
 refine aw_seq ?_
 refine awd_begin [] (by kernel_rfl) ?_
 obtain ⟨o1, o2, h⟩ := h
 refine drq (by kernel_rfl) [0, 1, 2, 3, 4, 5] (ob := (Ts 2 ((0 ≤ a ∧ a ≤ (a2.length : Int)) ∧ Ts 2 ((0 ≤ b ∧ b ≤ (a2.length : Int)) ∧ True)))) (done' := [5, 4, 3, 2, 1, 0]) (st' := (⟨13, [s1 8 (.p (.sl (.int .u8)) (a2.drop (a).toNat)), s1 11 (.p (.sl (.int .u8)) (a2.drop (b).toNat))], []⟩ : St)) (by kernel_rfl) (tsI 2 (⟨o1, tsI 2 ⟨o2, trivial⟩⟩)) ?_
 refine awd_one (i := 6) (by kernel_rfl) ?_
 refine dcq (d := 12) [.d (.sl (.int .u8)), .d (.sl (.int .u8))] (fun ret12v => (⟨13, [sI 12 ret12v], []⟩ : St)) rfl (by kernel_rfl) Try.call48 (fun _ => by kernel_rfl) (link48 (a2.drop (a).toNat) (a2.drop (b).toNat) _ h) (fun ret12v h => ?_)
 refine drq (by kernel_rfl) [7] (ob := (Ts 1 True)) (done' := [7, 6, 5, 4, 3, 2, 1, 0]) (st' := (⟨13, [sI 5 ret12v], []⟩ : St)) (by kernel_rfl) (tsI 1 trivial) ?_
 refine awd_done (by kernel_rfl) ?_
 refine thenQ_n ?_
 refine aw_ret ?_
 exact retQ_r (ob := Ts 1 True) _ (by kernel_rfl) (tsI 1 trivial) h
abbrev e29_0 (w : LI) : Nat × Path × AV := sI 9 ((List.replicate ((w.length : Int)).toNat (0 : Int)).length : Int)
abbrev e29_1 (w : LI) : Nat × Path × Con := hB 1 [.p (.sl (.int .u8)) w]
abbrev e29_2 : Nat × Path × AV := s1 3 (.own 7)
abbrev e29_3 (w : LI) : Nat × Path × Con := hA 7 3 tI (List.replicate ((w.length : Int)).toNat (0 : Int))
abbrev e29_4 (out : LI) : Nat × Path × Con := hA 7 3 tI out
-- coppicer/ends.order
def VC29_k1 (w : LI) (K : LI → Prop) (out : LI) : Prop :=
  SortVC out (fun (x : Int × Int) (K : Int → Prop) => VC47 x.1 x.2 w K) (fun (srtv : List Int) => K srtv)
def VC29_l1 (w : LI) (K : LI → Prop) (v10 : Int) (out : LI) (X1 : Int × LI → Prop) : Prop :=
  (((decide (v10 < ((List.replicate ((w.length : Int)).toNat (0 : Int)).length : Int))) = true → (inIdx v10 out.length ∧ (InR (v10 + (1 : Int)) ∧ X1 ((v10 + (1 : Int)), (out.set ((v10).toNat) v10))))) ∧ ((decide (v10 < ((List.replicate ((w.length : Int)).toNat (0 : Int)).length : Int))) = false → VC29_k1 w K out))
def VC29 (w : LI) (K : LI → Prop) : Prop :=
  (room (w.length : Int) ∧ Loop (σ := Int × LI) (fun s X => VC29_l1 w K s.1 s.2 X) ((0 : Int), (List.replicate ((w.length : Int)).toNat (0 : Int))))
set_option maxHeartbeats 4000000 in
theorem link29 (w : LI) (K : LI → Prop) (h : VC29 w K) : ACalls Try.prog 29 [toV1 (.sl (.int .u8)) w] (fun res => ∃ y, res = (fun y => [toV1 (.sl tI) y]) y ∧ K y) := by
 refine acalls_of_aw [(.sl tI)] [.t 2] Try.func29 rfl rfl rfl ?_
 unfold VC29 at h
 refine sr ?_
 refine rqT 2 ⟨22, [sp 1 1], [e29_1 w]⟩ (by kernel_rfl) ?_
 refine nsr ?_
 obtain ⟨o1, h⟩ := h
 refine rq 4 (ob := (Ts 2 (room (w.length : Int) ∧ Ts 1 True))) (st' := (⟨22, [sp 1 1, e29_2], [e29_1 w, e29_3 w]⟩ : St)) (by kernel_rfl) (tsI 2 ⟨o1, tsI 1 trivial⟩) ?_
 refine nn ?_
 refine aw_seq ?_
 refine srn 3 ⟨22, [sp 1 1, e29_2, e29_0 w, sI 10 (0 : Int)], [e29_1 w, e29_3 w]⟩ (by kernel_rfl) rfl ?_
 refine withJoin (σ := LI) (fun s => (⟨22, [sp 1 1, e29_2], [e29_1 w, hA 7 3 tI s]⟩ : St)) (fun s => VC29_k1 w K s) (fun out h => ?_) (fun rest1 => ?_)
 ·have h : VC29_k1 w K out := h
  unfold VC29_k1 at h
  refine thenQ_n ?_
  refine sr ?_
  refine rqT 1 ⟨22, [sp 1 1, e29_2, s1 18 (.own 7)], [e29_1 w, e29_4 out]⟩ (by kernel_rfl) ?_
  refine awl_conv [.freezeB 1 (.sl (.int .u8))] (st' := (⟨22, [s1 1 (.ad (.sl (.int .u8)) w), e29_2, s1 18 (.own 7)], [e29_4 out]⟩ : St)) (by kernel_rfl) ?_
  refine rqT 1 ⟨22, [e29_2, s1 18 (.own 7), s1 19 (.fn 47 [(⟨(.sl (.int .u8)), w⟩ : Dat)])], [e29_4 out]⟩ (by kernel_rfl) ?_
  refine awl_lcall (σ := List Int) [7] [7] [.c (.own 7), .c (.fn 47 [(⟨(.sl (.int .u8)), w⟩ : Dat)])] [] (fun _ => .tup []) (fun srtv => [(7, [], .arr 3 tI srtv)]) (fun (srtv : List Int) => K srtv) [(7, [], .arr 3 tI out)] (fun srtv => (⟨22, [(20, [], .tup []), e29_2, s1 18 (.own 7), s1 19 (.fn 47 [(⟨(.sl (.int .u8)), w⟩ : Dat)])], [hA 7 3 tI srtv]⟩ : St)) rfl rfl (by kernel_rfl) rfl (by kernel_rfl) Try.call46 (by kernel_rfl) (by kernel_rfl) (by kernel_rfl) (fun _ _ => rfl) (fun _ => by kernel_rfl) (lcalls_sortF Try.sort46 tI rfl 3 7 _ _ (⟨Try.call47, fun x K h => link47 x.1 x.2 w K h⟩) h) (fun srtv h => ?_)
  refine lpr (st' := (⟨22, [e29_2], [hA 7 3 tI srtv]⟩ : St)) (by kernel_rfl) ?_
  refine nsr ?_
  refine rqT 2 ⟨22, [s1 2 (.own 7)], [hA 7 3 tI srtv]⟩ (by kernel_rfl) ?_
  refine nn ?_
  refine aw_conv [.freeze 7] (st' := (⟨22, [s1 2 (.pS srtv)], []⟩ : St)) (by kernel_rfl) ?_
  refine aw_ret ?_
  exact retQ_r (ob := Ts 1 True) _ (by kernel_rfl) (tsI 1 trivial) h
 ·refine aw_block ?_
  refine aw_loop (σ := Int × LI) (fun s => (⟨22, [sp 1 1, e29_2, e29_0 w, sI 10 s.1], [e29_1 w, hA 7 3 tI s.2]⟩ : St)) (fun s X => VC29_l1 w K s.1 s.2 X) (s0 := ((0 : Int), (List.replicate ((w.length : Int)).toNat (0 : Int)))) (fun s X1 h => ?_) h
  obtain ⟨v10, out⟩ := s
  have h : VC29_l1 w K v10 out X1 := h
  unfold VC29_l1 at h
  refine srn 1 ⟨22, [sp 1 1, e29_2, e29_0 w, sI 10 v10, sB 11 (decide (v10 < ((List.replicate ((w.length : Int)).toNat (0 : Int)).length : Int)))], [e29_1 w, e29_4 out]⟩ (by kernel_rfl) rfl ?_
  refine aw_seq ?_
  refine aw_cond (b := (decide (v10 < ((List.replicate ((w.length : Int)).toNat (0 : Int)).length : Int)))) (by kernel_rfl) (fun hb => ?_) (fun hb => ?_)
  ·have h := h.1 hb
   refine aw_skip ?_
   refine thenQ_n ?_
   refine aw_seq ?_
   refine aw_block ?_
   refine srn 2 ⟨22, [sp 1 1, e29_2, sI 4 v10, e29_0 w, sI 10 v10], [e29_1 w, e29_4 out]⟩ (by kernel_rfl) rfl ?_
   refine aw_region ?_
   obtain ⟨o1, h⟩ := h
   refine rq 5 (ob := (Ts 3 (inIdx v10 out.length ∧ Ts 1 True))) (st' := (⟨22, [sp 1 1, e29_2, e29_0 w, sI 10 v10], [e29_1 w, hA 7 3 tI (out.set ((v10).toNat) v10)]⟩ : St)) (by kernel_rfl) (tsI 3 ⟨o1, tsI 1 trivial⟩) ?_
   refine awl_nil ?_
   refine blockQ_n ?_
   refine thenQ_n ?_
   refine aw_region ?_
   obtain ⟨o1, h⟩ := h
   refine rq 2 (ob := (InR (v10 + (1 : Int)) ∧ Ts 1 True)) (st' := (⟨22, [sp 1 1, e29_2, e29_0 w, sI 10 (v10 + (1 : Int))], [e29_1 w, hA 7 3 tI (out.set ((v10).toNat) v10)]⟩ : St)) (by kernel_rfl) (⟨o1, tsI 1 trivial⟩) ?_
   refine awl_nil ?_
   exact thenQ_n ⟨((v10 + (1 : Int)), (out.set ((v10).toNat) v10)), rfl, h⟩
  ·have h := h.2 hb
   refine cpr (st' := (⟨22, [sp 1 1, e29_2], [e29_1 w, e29_4 out]⟩ : St)) (by kernel_rfl) ?_
   refine aw_exit ?_
   refine thenQ_x ?_
   refine thenQ_x ?_
   refine blockQ_hit ?_
   exact rest1 out h
abbrev e28_0 (w : LI) : Nat × Path × AV := s1 0 (.p (.sl (.int .u8)) w)
abbrev e28_1 (w : LI) (ov : LI) (i : Int) : Nat × Path × AV := s1 7 (.p (.sl (.int .u8)) (w.drop ((ov.getD ((i - (1 : Int))).toNat (0 : Int))).toNat))
abbrev e28_2 (w : LI) (ov : LI) (i : Int) : Nat × Path × AV := s1 8 (.p (.sl (.int .u8)) (w.drop ((ov.getD (i).toNat (0 : Int))).toNat))
abbrev e28_3 (out : LI) : Nat × Path × Con := hA 5005 3 tI out
abbrev e28_4 (ov : LI) : Nat × Path × AV := s1 1 (.pS ov)
abbrev e28_5 : Nat × Path × AV := s1 5 (.own 5005)
-- coppicer/ends.common
def VC28_k1 (K : LI → Prop) (out : LI) : Prop :=
  K out
def VC28_k2 (i : Int) (out : LI) (X1 : Int × LI → Prop) (n : Int) : Prop :=
  (roomW 8 (out.length + [n].length) ∧ (InR (i + (1 : Int)) ∧ X1 ((i + (1 : Int)), (out ++ [n]))))
def VC28_l2 (w : LI) (ov : LI) (i : Int) (out : LI) (X1 : Int × LI → Prop) (n : Int) (X2 : Int → Prop) : Prop :=
  ((((decide (n < ((w.drop ((ov.getD ((i - (1 : Int))).toNat (0 : Int))).toNat).length : Int))) && (decide (n < ((w.drop ((ov.getD (i).toNat (0 : Int))).toNat).length : Int)))) = true → inIdx n (w.drop ((ov.getD ((i - (1 : Int))).toNat (0 : Int))).toNat).length) ∧ (((decide (n < ((w.drop ((ov.getD ((i - (1 : Int))).toNat (0 : Int))).toNat).length : Int))) && (decide (n < ((w.drop ((ov.getD (i).toNat (0 : Int))).toNat).length : Int)))) = true → inIdx n (w.drop ((ov.getD (i).toNat (0 : Int))).toNat).length) ∧ (((((decide (n < ((w.drop ((ov.getD ((i - (1 : Int))).toNat (0 : Int))).toNat).length : Int))) && (decide (n < ((w.drop ((ov.getD (i).toNat (0 : Int))).toNat).length : Int)))) && (decide (((w.drop ((ov.getD ((i - (1 : Int))).toNat (0 : Int))).toNat).getD (n).toNat (0 : Int)) = ((w.drop ((ov.getD (i).toNat (0 : Int))).toNat).getD (n).toNat (0 : Int))))) = true → (InR (n + (1 : Int)) ∧ X2 (n + (1 : Int)))) ∧ ((((decide (n < ((w.drop ((ov.getD ((i - (1 : Int))).toNat (0 : Int))).toNat).length : Int))) && (decide (n < ((w.drop ((ov.getD (i).toNat (0 : Int))).toNat).length : Int)))) && (decide (((w.drop ((ov.getD ((i - (1 : Int))).toNat (0 : Int))).toNat).getD (n).toNat (0 : Int)) = ((w.drop ((ov.getD (i).toNat (0 : Int))).toNat).getD (n).toNat (0 : Int))))) = false → VC28_k2 i out X1 n)))
def VC28_l1 (w : LI) (ov : LI) (K : LI → Prop) (i : Int) (out : LI) (X1 : Int × LI → Prop) : Prop :=
  (((decide (i < (ov.length : Int))) = true → (InR (i - (1 : Int)) ∧ inIdx (i - (1 : Int)) ov.length ∧ (0 ≤ (ov.getD ((i - (1 : Int))).toNat (0 : Int)) ∧ (ov.getD ((i - (1 : Int))).toNat (0 : Int)) ≤ (w.length : Int)) ∧ inIdx i ov.length ∧ (0 ≤ (ov.getD (i).toNat (0 : Int)) ∧ (ov.getD (i).toNat (0 : Int)) ≤ (w.length : Int)) ∧ Loop (σ := Int) (fun s X => VC28_l2 w ov i out X1 s X) (0 : Int))) ∧ ((decide (i < (ov.length : Int))) = false → VC28_k1 K out))
def VC28 (w : LI) (ov : LI) (K : LI → Prop) : Prop :=
  Loop (σ := Int × LI) (fun s X => VC28_l1 w ov K s.1 s.2 X) ((1 : Int), ([] : List Int))
set_option maxHeartbeats 4000000 in
theorem link28 (w : LI) (ov : LI) (K : LI → Prop) (h : VC28 w ov K) : ACalls Try.prog 28 [toV1 (.sl (.int .u8)) w, toV1 (.sl tI) ov] (fun res => ∃ y, res = (fun y => [toV1 (.sl tI) y]) y ∧ K y) := by
 refine acalls_of_aw [(.sl tI)] [.t 4] Try.func28 rfl rfl rfl ?_
 unfold VC28 at h
 refine sr ?_
 refine rqT 1 ⟨57, [e28_0 w, e28_4 ov], []⟩ (by kernel_rfl) ?_
 refine nsr ?_
 refine rqT 1 ⟨57, [e28_0 w, e28_4 ov, s1 5 (.nils)], []⟩ (by kernel_rfl) ?_
 refine nn ?_
 refine aw_seq ?_
 refine srn 1 ⟨57, [e28_0 w, e28_4 ov, s1 5 (.nils), sI 6 (1 : Int)], []⟩ (by kernel_rfl) rfl ?_
 refine withJoin (σ := LI) (fun s => (⟨57, [e28_5], [hA 5005 3 tI s]⟩ : St)) (fun s => VC28_k1 K s) (fun out h => ?_) (fun rest1 => ?_)
 ·have h : VC28_k1 K out := h
  unfold VC28_k1 at h
  refine thenQ_n ?_
  refine srn 2 ⟨57, [s1 4 (.own 5005)], [e28_3 out]⟩ (by kernel_rfl) rfl ?_
  refine aw_conv [.freeze 5005] (st' := (⟨57, [s1 4 (.pS out)], []⟩ : St)) (by kernel_rfl) ?_
  refine aw_ret ?_
  exact retQ_r (ob := Ts 1 True) _ (by kernel_rfl) (tsI 1 trivial) h
 ·refine aw_block ?_
  refine aw_conv [.nilOwn 5 5005 3 tI, .prune [0, 1, 5, 6] [5005]] (st' := (⟨57, [e28_0 w, e28_4 ov, e28_5, sI 6 (1 : Int)], [hA 5005 3 tI ([] : List Int)]⟩ : St)) (by kernel_rfl) ?_
  refine aw_loop (σ := Int × LI) (fun s => (⟨57, [e28_0 w, e28_4 ov, e28_5, sI 6 s.1], [hA 5005 3 tI s.2]⟩ : St)) (fun s X => VC28_l1 w ov K s.1 s.2 X) (s0 := ((1 : Int), ([] : List Int))) (fun s X1 h => ?_) h
  obtain ⟨i, out⟩ := s
  have h : VC28_l1 w ov K i out X1 := h
  unfold VC28_l1 at h
  refine aw_seq ?_
  refine srn 4 ⟨57, [e28_0 w, e28_4 ov, e28_5, sI 6 i, sB 13 (decide (i < (ov.length : Int)))], [e28_3 out]⟩ (by kernel_rfl) rfl ?_
  refine aw_cond (b := (decide (i < (ov.length : Int)))) (by kernel_rfl) (fun hb => ?_) (fun hb => ?_)
  ·have h := h.1 hb
   refine aw_skip ?_
   refine thenQ_n ?_
   refine aw_seq ?_
   refine aw_block ?_
   refine aw_seq ?_
   refine awd_begin [] (by kernel_rfl) ?_
   obtain ⟨o1, o2, o3, o4, o5, h⟩ := h
   refine drq (by kernel_rfl) [0, 1, 2, 3, 4, 5, 6, 7, 8, 9, 10, 11, 12, 13, 14] (ob := (Ts 3 (InR (i - (1 : Int)) ∧ inIdx (i - (1 : Int)) ov.length ∧ Ts 1 ((0 ≤ (ov.getD ((i - (1 : Int))).toNat (0 : Int)) ∧ (ov.getD ((i - (1 : Int))).toNat (0 : Int)) ≤ (w.length : Int)) ∧ Ts 3 (inIdx i ov.length ∧ Ts 1 ((0 ≤ (ov.getD (i).toNat (0 : Int)) ∧ (ov.getD (i).toNat (0 : Int)) ≤ (w.length : Int)) ∧ Ts 2 True)))))) (done' := [14, 13, 12, 11, 10, 9, 8, 7, 6, 5, 4, 3, 2, 1, 0]) (st' := (⟨57, [e28_0 w, e28_4 ov, e28_5, sI 6 i, e28_1 w ov i, e28_2 w ov i], [e28_3 out]⟩ : St)) (by kernel_rfl) (tsI 3 (⟨o1, ⟨o2, tsI 1 (⟨o3, tsI 3 (⟨o4, tsI 1 ⟨o5, tsI 2 trivial⟩⟩)⟩)⟩⟩)) ?_
   refine awd_done (by kernel_rfl) ?_
   refine thenQ_n ?_
   refine srn 1 ⟨57, [e28_0 w, e28_4 ov, e28_5, sI 6 i, e28_1 w ov i, e28_2 w ov i, sI 9 (0 : Int)], [e28_3 out]⟩ (by kernel_rfl) rfl ?_
   refine aw_seq ?_
   refine withJoin (σ := Int) (fun s => (⟨57, [e28_0 w, e28_4 ov, e28_5, sI 6 i, sI 9 s], [e28_3 out]⟩ : St)) (fun s => VC28_k2 i out X1 s) (fun n h => ?_) (fun rest2 => ?_)
   ·have h : VC28_k2 i out X1 n := h
    unfold VC28_k2 at h
    refine thenQ_n ?_
    refine aw_region ?_
    obtain ⟨o1, h⟩ := h
    refine rq 5 (ob := (Ts 3 (roomW 8 (out.length + [n].length) ∧ Ts 1 True))) (st' := (⟨57, [e28_0 w, e28_4 ov, s1 5 (.own 55), sI 6 i], [hA 55 3 tI (out ++ [n])]⟩ : St)) (by kernel_rfl) (tsI 3 ⟨o1, tsI 1 trivial⟩) ?_
    refine awl_nil ?_
    refine blockQ_n ?_
    refine thenQ_n ?_
    refine aw_region ?_
    obtain ⟨o1, h⟩ := h
    refine rq 3 (ob := (Ts 1 (InR (i + (1 : Int)) ∧ Ts 1 True))) (st' := (⟨57, [e28_0 w, e28_4 ov, s1 5 (.own 55), sI 6 (i + (1 : Int))], [hA 55 3 tI (out ++ [n])]⟩ : St)) (by kernel_rfl) (tsI 1 ⟨o1, tsI 1 trivial⟩) ?_
    refine awl_conv [.ren 55 20055, .ren 20055 5005] (st' := (⟨57, [e28_0 w, e28_4 ov, e28_5, sI 6 (i + (1 : Int))], [hA 5005 3 tI (out ++ [n])]⟩ : St)) (by kernel_rfl) ?_
    refine awl_nil ?_
    exact thenQ_n ⟨((i + (1 : Int)), (out ++ [n])), rfl, h⟩
   ·refine aw_block ?_
    refine aw_loop (σ := Int) (fun s => (⟨57, [e28_0 w, e28_4 ov, e28_5, sI 6 i, e28_1 w ov i, e28_2 w ov i, sI 9 s], [e28_3 out]⟩ : St)) (fun s X => VC28_l2 w ov i out X1 s X) (s0 := (0 : Int)) (fun n X2 h => ?_) h
    have h : VC28_l2 w ov i out X1 n X2 := h
    unfold VC28_l2 at h
    refine aw_seq ?_
    refine aw_seq ?_
    refine awd_begin [] (by kernel_rfl) ?_
    obtain ⟨o1, o2, h⟩ := h
    refine drq (by kernel_rfl) [0, 1, 2, 3, 4, 5, 6, 7, 8, 9, 10, 11, 12, 13, 14, 15, 16, 17, 18, 19, 20] (ob := (Ts 5 (Ti 4 ((decide (n < ((w.drop ((ov.getD ((i - (1 : Int))).toNat (0 : Int))).toNat).length : Int))) = true → True) (Ts 2 (Ti 2 (((decide (n < ((w.drop ((ov.getD ((i - (1 : Int))).toNat (0 : Int))).toNat).length : Int))) && (decide (n < ((w.drop ((ov.getD (i).toNat (0 : Int))).toNat).length : Int)))) = true → True) ((((decide (n < ((w.drop ((ov.getD ((i - (1 : Int))).toNat (0 : Int))).toNat).length : Int))) && (decide (n < ((w.drop ((ov.getD (i).toNat (0 : Int))).toNat).length : Int)))) = true → inIdx n (w.drop ((ov.getD ((i - (1 : Int))).toNat (0 : Int))).toNat).length) ∧ Ti 3 (((decide (n < ((w.drop ((ov.getD ((i - (1 : Int))).toNat (0 : Int))).toNat).length : Int))) && (decide (n < ((w.drop ((ov.getD (i).toNat (0 : Int))).toNat).length : Int)))) = true → True) ((((decide (n < ((w.drop ((ov.getD ((i - (1 : Int))).toNat (0 : Int))).toNat).length : Int))) && (decide (n < ((w.drop ((ov.getD (i).toNat (0 : Int))).toNat).length : Int)))) = true → inIdx n (w.drop ((ov.getD (i).toNat (0 : Int))).toNat).length) ∧ Ti 2 (((decide (n < ((w.drop ((ov.getD ((i - (1 : Int))).toNat (0 : Int))).toNat).length : Int))) && (decide (n < ((w.drop ((ov.getD (i).toNat (0 : Int))).toNat).length : Int)))) = true → True) (Ts 1 True)))))))) (done' := [20, 19, 18, 17, 16, 15, 14, 13, 12, 11, 10, 9, 8, 7, 6, 5, 4, 3, 2, 1, 0]) (st' := (⟨57, [e28_0 w, e28_4 ov, e28_5, sI 6 i, e28_1 w ov i, e28_2 w ov i, sI 9 n, sB 49 (((decide (n < ((w.drop ((ov.getD ((i - (1 : Int))).toNat (0 : Int))).toNat).length : Int))) && (decide (n < ((w.drop ((ov.getD (i).toNat (0 : Int))).toNat).length : Int)))) && (decide (((w.drop ((ov.getD ((i - (1 : Int))).toNat (0 : Int))).toNat).getD (n).toNat (0 : Int)) = ((w.drop ((ov.getD (i).toNat (0 : Int))).toNat).getD (n).toNat (0 : Int)))))], [e28_3 out]⟩ : St)) (by kernel_rfl) (tsI 5 (tiI 4 (fun _ => trivial) (tsI 2 (tiI 2 (fun _ => trivial) (⟨o1, tiI 3 (fun _ => trivial) ⟨o2, tiI 2 (fun _ => trivial) (tsI 1 trivial)⟩⟩))))) ?_
    refine awd_done (by kernel_rfl) ?_
    refine thenQ_n ?_
    refine aw_cond (b := (((decide (n < ((w.drop ((ov.getD ((i - (1 : Int))).toNat (0 : Int))).toNat).length : Int))) && (decide (n < ((w.drop ((ov.getD (i).toNat (0 : Int))).toNat).length : Int)))) && (decide (((w.drop ((ov.getD ((i - (1 : Int))).toNat (0 : Int))).toNat).getD (n).toNat (0 : Int)) = ((w.drop ((ov.getD (i).toNat (0 : Int))).toNat).getD (n).toNat (0 : Int)))))) (by kernel_rfl) (fun hb => ?_) (fun hb => ?_)
    ·have h := h.1 hb
     refine aw_skip ?_
     refine thenQ_n ?_
     refine aw_block ?_
     refine aw_region ?_
     obtain ⟨o1, h⟩ := h
     refine rq 3 (ob := (Ts 1 (InR (n + (1 : Int)) ∧ Ts 1 True))) (st' := (⟨57, [e28_0 w, e28_4 ov, e28_5, sI 6 i, e28_1 w ov i, e28_2 w ov i, sI 9 (n + (1 : Int))], [e28_3 out]⟩ : St)) (by kernel_rfl) (tsI 1 ⟨o1, tsI 1 trivial⟩) ?_
     refine awl_nil ?_
     refine blockQ_n ?_
     exact thenQ_n ⟨(n + (1 : Int)), rfl, h⟩
    ·have h := h.2 hb
     refine cpr (st' := (⟨57, [e28_0 w, e28_4 ov, e28_5, sI 6 i, sI 9 n], [e28_3 out]⟩ : St)) (by kernel_rfl) ?_
     refine aw_exit ?_
     refine thenQ_x ?_
     refine thenQ_x ?_
     refine blockQ_hit ?_
     exact rest2 n h
  ·have h := h.2 hb
   refine cpr (st' := (⟨57, [e28_5], [e28_3 out]⟩ : St)) (by kernel_rfl) ?_
   refine aw_exit ?_
   refine thenQ_x ?_
   refine thenQ_x ?_
   refine blockQ_hit ?_
   exact rest1 out h
abbrev e17_0 (w : LI) : Nat × Path × AV := sI 5 (((w.length : Int) * ((w.length : Int) + (1 : Int))) / (2 : Int))
abbrev e17_1 (w : LI) : Nat × Path × AV := s1 0 (.p (.sl (.int .u8)) w)
abbrev e17_2 (ret24v : LI) : Nat × Path × AV := sI 25 (ret24v.length : Int)
-- coppicer/ends.Different
def VC17_k1 (K : Int × Int → Prop) (n : Int) : Prop :=
  K (n, (0 : Int))
def VC17_l1 (K : Int × Int → Prop) (ret24v : LI) (n : Int) (v26 : Int) (X1 : Int × Int → Prop) : Prop :=
  (((decide (v26 < (ret24v.length : Int))) = true → (inIdx v26 ret24v.length ∧ (InR (n - (ret24v.getD (v26).toNat (0 : Int))) ∧ (InR (v26 + (1 : Int)) ∧ X1 ((n - (ret24v.getD (v26).toNat (0 : Int))), (v26 + (1 : Int))))))) ∧ ((decide (v26 < (ret24v.length : Int))) = false → VC17_k1 K n))
def VC17 (w : LI) (K : Int × Int → Prop) : Prop :=
  VC27 [w] (fun (ret10v : Int) => (((!decide (ret10v = (0 : Int))) = true → K ((0 : Int), ret10v)) ∧ ((!decide (ret10v = (0 : Int))) = false → (InR ((w.length : Int) + (1 : Int)) ∧ InR ((w.length : Int) * ((w.length : Int) + (1 : Int))) ∧ (0 ≤ ((w.length : Int) * ((w.length : Int) + (1 : Int))) ∧ 0 < (2 : Int)) ∧ VC29 w (fun (ret23v : LI) => VC28 w ret23v (fun (ret24v : LI) => Loop (σ := Int × Int) (fun s X => VC17_l1 K ret24v s.1 s.2 X) ((((w.length : Int) * ((w.length : Int) + (1 : Int))) / (2 : Int)), (0 : Int))))))))
set_option maxHeartbeats 4000000 in
theorem link17 (w : LI) (K : Int × Int → Prop) (h : VC17 w K) : ACalls Try.prog 17 [toV1 (.sl (.int .u8)) w] (fun res => ∃ y, res = (fun y => [toV1 tI y.1, toV1 tI y.2]) y ∧ K y) := by
 refine acalls_of_aw [tI, tI] [.t 2, .t 3] Try.func17 rfl rfl rfl ?_
 unfold VC17 at h
 refine srn 2 ⟨35, [e17_1 w], []⟩ (by kernel_rfl) rfl ?_
 refine aw_seq ?_
 refine sr ?_
 refine rqT 2 ⟨35, [e17_1 w, s1 9 (.own 9)], [hA 9 22 (.sl (.int .u8)) [w]]⟩ (by kernel_rfl) ?_
 refine awl_callk (p := []) (l := [toV1 (.sl (.sl (.int .u8))) [w]]) (cl := []) true [.d (.sl (.sl (.int .u8)))] [0, 10] [] (fun (ret10v : Int) => (((!decide (ret10v = (0 : Int))) = true → K ((0 : Int), ret10v)) ∧ ((!decide (ret10v = (0 : Int))) = false → (InR ((w.length : Int) + (1 : Int)) ∧ InR ((w.length : Int) * ((w.length : Int) + (1 : Int))) ∧ (0 ≤ ((w.length : Int) * ((w.length : Int) + (1 : Int))) ∧ 0 < (2 : Int)) ∧ VC29 w (fun (ret23v : LI) => VC28 w ret23v (fun (ret24v : LI) => Loop (σ := Int × Int) (fun s X => VC17_l1 K ret24v s.1 s.2 X) ((((w.length : Int) * ((w.length : Int) + (1 : Int))) / (2 : Int)), (0 : Int)))))))) (fun ret10v => [toV1 tI ret10v]) (fun ret10v => (⟨35, [e17_1 w, sI 10 ret10v], []⟩ : St)) (by kernel_rfl) rfl (by kernel_rfl) rfl (by kernel_rfl) Try.call27 (by kernel_rfl) (fun ret10v => by kernel_rfl) (fun _ _ => rfl) (fun hg => link27 [w] _ h) (fun hg => noF hg) (fun ret10v h => ?_)
 refine rqT 1 ⟨35, [e17_1 w, sI 4 ret10v], []⟩ (by kernel_rfl) ?_
 refine nsr ?_
 refine rqT 2 ⟨35, [e17_1 w, sI 4 ret10v, sB 12 (!decide (ret10v = (0 : Int)))], []⟩ (by kernel_rfl) ?_
 refine nn ?_
 refine aw_cond (b := (!decide (ret10v = (0 : Int)))) (by kernel_rfl) (fun hb => ?_) (fun hb => ?_)
 ·have h := h.1 hb
  refine srn 3 ⟨35, [sI 2 (0 : Int), sI 3 ret10v], []⟩ (by kernel_rfl) rfl ?_
  refine aw_ret ?_
  refine thenQ_r ?_
  exact retQ_r (ob := Ts 2 True) _ (by kernel_rfl) (tsI 2 trivial) h
 ·have h := h.2 hb
  refine aw_skip ?_
  refine thenQ_n ?_
  refine sr ?_
  obtain ⟨o1, o2, o3, h⟩ := h
  refine rq 8 (ob := (Ts 4 (InR ((w.length : Int) + (1 : Int)) ∧ InR ((w.length : Int) * ((w.length : Int) + (1 : Int))) ∧ (0 ≤ ((w.length : Int) * ((w.length : Int) + (1 : Int))) ∧ 0 < (2 : Int)) ∧ Ts 1 True))) (st' := (⟨35, [e17_1 w, e17_0 w], []⟩ : St)) (by kernel_rfl) (tsI 4 (⟨o1, ⟨o2, ⟨o3, tsI 1 trivial⟩⟩⟩)) ?_
  refine nn ?_
  refine aw_seq ?_
  refine sr ?_
  refine rqT 2 ⟨35, [e17_0 w, s1 21 (.p (.sl (.int .u8)) w), s1 22 (.p (.sl (.int .u8)) w)], []⟩ (by kernel_rfl) ?_
  refine lcq (d := 23) [.d (.sl (.int .u8))] (fun ret23v => (⟨35, [e17_0 w, s1 21 (.p (.sl (.int .u8)) w), s1 23 (.pS ret23v)], []⟩ : St)) (by kernel_rfl) Try.call29 (fun _ => by kernel_rfl) (link29 w _ h) (fun ret23v h => ?_)
  refine lcq (d := 24) [.d (.sl (.int .u8)), .d (.sl tI)] (fun ret24v => (⟨35, [e17_0 w, s1 24 (.pS ret24v)], []⟩ : St)) (by kernel_rfl) Try.call28 (fun _ => by kernel_rfl) (link28 w ret23v _ h) (fun ret24v h => ?_)
  refine rqT 2 ⟨35, [e17_0 w, s1 24 (.pS ret24v), e17_2 ret24v, sI 26 (0 : Int)], []⟩ (by kernel_rfl) ?_
  refine nn ?_
  refine withJoin (σ := Int) (fun s => (⟨35, [sI 5 s], []⟩ : St)) (fun s => VC17_k1 K s) (fun n h => ?_) (fun rest1 => ?_)
  ·have h : VC17_k1 K n := h
   unfold VC17_k1 at h
   refine thenQ_n ?_
   refine srn 3 ⟨35, [sI 2 n, sI 3 (0 : Int)], []⟩ (by kernel_rfl) rfl ?_
   refine aw_ret ?_
   exact retQ_r (ob := Ts 2 True) _ (by kernel_rfl) (tsI 2 trivial) h
  ·refine aw_block ?_
   refine aw_loop (σ := Int × Int) (fun s => (⟨35, [sI 5 s.1, s1 24 (.pS ret24v), e17_2 ret24v, sI 26 s.2], []⟩ : St)) (fun s X => VC17_l1 K ret24v s.1 s.2 X) (s0 := ((((w.length : Int) * ((w.length : Int) + (1 : Int))) / (2 : Int)), (0 : Int))) (fun s X1 h => ?_) h
   obtain ⟨n, v26⟩ := s
   have h : VC17_l1 K ret24v n v26 X1 := h
   unfold VC17_l1 at h
   refine srn 1 ⟨35, [sI 5 n, s1 24 (.pS ret24v), e17_2 ret24v, sI 26 v26, sB 27 (decide (v26 < (ret24v.length : Int)))], []⟩ (by kernel_rfl) rfl ?_
   refine aw_seq ?_
   refine aw_cond (b := (decide (v26 < (ret24v.length : Int)))) (by kernel_rfl) (fun hb => ?_) (fun hb => ?_)
   ·have h := h.1 hb
    refine aw_skip ?_
    refine thenQ_n ?_
    refine aw_seq ?_
    refine aw_block ?_
    refine sr ?_
    obtain ⟨o1, h⟩ := h
    refine rq 3 (ob := (inIdx v26 ret24v.length ∧ Ts 2 True)) (st' := (⟨35, [sI 5 n, sI 7 (ret24v.getD (v26).toNat (0 : Int)), s1 24 (.pS ret24v), e17_2 ret24v, sI 26 v26], []⟩ : St)) (by kernel_rfl) (⟨o1, tsI 2 trivial⟩) ?_
    refine nn ?_
    refine aw_region ?_
    obtain ⟨o1, h⟩ := h
    refine rq 4 (ob := (Ts 2 (InR (n - (ret24v.getD (v26).toNat (0 : Int))) ∧ Ts 1 True))) (st' := (⟨35, [sI 5 (n - (ret24v.getD (v26).toNat (0 : Int))), s1 24 (.pS ret24v), e17_2 ret24v, sI 26 v26], []⟩ : St)) (by kernel_rfl) (tsI 2 ⟨o1, tsI 1 trivial⟩) ?_
    refine awl_nil ?_
    refine blockQ_n ?_
    refine thenQ_n ?_
    refine aw_region ?_
    obtain ⟨o1, h⟩ := h
    refine rq 2 (ob := (InR (v26 + (1 : Int)) ∧ Ts 1 True)) (st' := (⟨35, [sI 5 (n - (ret24v.getD (v26).toNat (0 : Int))), s1 24 (.pS ret24v), e17_2 ret24v, sI 26 (v26 + (1 : Int))], []⟩ : St)) (by kernel_rfl) (⟨o1, tsI 1 trivial⟩) ?_
    refine awl_nil ?_
    exact thenQ_n ⟨((n - (ret24v.getD (v26).toNat (0 : Int))), (v26 + (1 : Int))), rfl, h⟩
   ·have h := h.2 hb
    refine cpr (st' := (⟨35, [sI 5 n], []⟩ : St)) (by kernel_rfl) ?_
    refine aw_exit ?_
    refine thenQ_x ?_
    refine thenQ_x ?_
    refine blockQ_hit ?_
    exact rest1 n h
abbrev e18_0 (words : LL) : Nat × Path × AV := s1 5 (.p (.sl (.sl (.int .u8))) words)
abbrev e18_1 (words : LL) : Nat × Path × AV := sI 6 (words.length : Int)
-- coppicer/coppicerkeep.long
def VC18_k1 (K : Bool → Prop) : Prop :=
  K false
def VC18_l1 (words : LL) (K : Bool → Prop) (v7 : Int) (X1 : Int → Prop) : Prop :=
  (((decide (v7 < (words.length : Int))) = true → (inIdx v7 words.length ∧ (((decide ((60 : Int) < ((words.getD (v7).toNat ([] : LI)).length : Int))) = true → K true) ∧ ((decide ((60 : Int) < ((words.getD (v7).toNat ([] : LI)).length : Int))) = false → (InR (v7 + (1 : Int)) ∧ X1 (v7 + (1 : Int))))))) ∧ ((decide (v7 < (words.length : Int))) = false → VC18_k1 K))
def VC18 (words : LL) (K : Bool → Prop) : Prop :=
  Loop (σ := Int) (fun s X => VC18_l1 words K s X) (0 : Int)
set_option maxHeartbeats 4000000 in
theorem link18 (words : LL) (K : Bool → Prop) (h : VC18 words K) : ACalls Try.prog 18 [toV1 (.sl (.sl (.int .u8))) words] (fun res => ∃ y, res = (fun y => [toV1 .bool y]) y ∧ K y) := by
 refine acalls_of_aw [.bool] [.t 2] Try.func18 rfl rfl rfl ?_
 unfold VC18 at h
 refine srn 1 ⟨15, [s1 0 (.p (.sl (.sl (.int .u8))) words)], []⟩ (by kernel_rfl) rfl ?_
 refine aw_seq ?_
 refine srn 3 ⟨15, [e18_0 words, e18_1 words, sI 7 (0 : Int)], []⟩ (by kernel_rfl) rfl ?_
 refine withJoin (σ := Unit) (fun s => (⟨15, [], []⟩ : St)) (fun s => VC18_k1 K) (fun s h => ?_) (fun rest1 => ?_)
 ·have h : VC18_k1 K := h
  unfold VC18_k1 at h
  refine thenQ_n ?_
  refine srn 1 ⟨15, [sB 2 false], []⟩ (by kernel_rfl) rfl ?_
  refine aw_ret ?_
  exact retQ_r (ob := Ts 1 True) _ (by kernel_rfl) (tsI 1 trivial) h
 ·refine aw_block ?_
  refine aw_loop (σ := Int) (fun s => (⟨15, [e18_0 words, e18_1 words, sI 7 s], []⟩ : St)) (fun s X => VC18_l1 words K s X) (s0 := (0 : Int)) (fun v7 X1 h => ?_) h
  have h : VC18_l1 words K v7 X1 := h
  unfold VC18_l1 at h
  refine srn 1 ⟨15, [e18_0 words, e18_1 words, sI 7 v7, sB 8 (decide (v7 < (words.length : Int)))], []⟩ (by kernel_rfl) rfl ?_
  refine aw_seq ?_
  refine aw_cond (b := (decide (v7 < (words.length : Int)))) (by kernel_rfl) (fun hb => ?_) (fun hb => ?_)
  ·have h := h.1 hb
   refine aw_skip ?_
   refine thenQ_n ?_
   refine aw_seq ?_
   refine aw_block ?_
   refine sr ?_
   obtain ⟨o1, h⟩ := h
   refine rq 3 (ob := (inIdx v7 words.length ∧ Ts 2 True)) (st' := (⟨15, [s1 4 (.p (.sl (.int .u8)) (words.getD (v7).toNat ([] : LI))), e18_0 words, e18_1 words, sI 7 v7], []⟩ : St)) (by kernel_rfl) (⟨o1, tsI 2 trivial⟩) ?_
   refine nsr ?_
   refine rqT 3 ⟨15, [e18_0 words, e18_1 words, sI 7 v7, sB 13 (decide ((60 : Int) < ((words.getD (v7).toNat ([] : LI)).length : Int)))], []⟩ (by kernel_rfl) ?_
   refine nn ?_
   refine aw_cond (b := (decide ((60 : Int) < ((words.getD (v7).toNat ([] : LI)).length : Int)))) (by kernel_rfl) (fun hb => ?_) (fun hb => ?_)
   ·have h := h.1 hb
    refine srn 1 ⟨15, [sB 2 true], []⟩ (by kernel_rfl) rfl ?_
    refine aw_ret ?_
    refine blockQ_r ?_
    refine thenQ_r ?_
    refine thenQ_r ?_
    refine blockQ_r ?_
    refine thenQ_r ?_
    exact retQ_r (ob := Ts 1 True) _ (by kernel_rfl) (tsI 1 trivial) h
   ·have h := h.2 hb
    refine aw_skip ?_
    refine blockQ_n ?_
    refine thenQ_n ?_
    refine aw_region ?_
    obtain ⟨o1, h⟩ := h
    refine rq 2 (ob := (InR (v7 + (1 : Int)) ∧ Ts 1 True)) (st' := (⟨15, [e18_0 words, e18_1 words, sI 7 (v7 + (1 : Int))], []⟩ : St)) (by kernel_rfl) (⟨o1, tsI 1 trivial⟩) ?_
    refine awl_nil ?_
    exact thenQ_n ⟨(v7 + (1 : Int)), rfl, h⟩
  ·have h := h.2 hb
   refine cpr (st' := (⟨15, [], []⟩ : St)) (by kernel_rfl) ?_
   refine aw_exit ?_
   refine thenQ_x ?_
   refine thenQ_x ?_
   refine blockQ_hit ?_
   exact rest1 () h
-- bytes.Equal
def VC49 (a b : List Int) (K : Bool → Prop) : Prop := K (decide (a = b))
theorem link49 (a b : List Int) (K : Bool → Prop) (h : VC49 a b K) : ACalls Try.prog 49 [toV1 (.sl (.int .u8)) a, toV1 (.sl (.int .u8)) b] (fun res => ∃ y, res = (fun y => [toV1 .bool y]) y ∧ K y) := by
  refine acalls_of_aw [.bool] [.t 4] Try.func49 rfl rfl rfl ?_
  refine aw_seq ?_
  refine aw_region ?_
  refine awl_runp 1 [0, 1] [] (ob := (True ∧ True)) (st' := (⟨10, [(0, [], .v (.c (.p (.sl (.int .u8)) a))), (1, [], .v (.c (.p (.sl (.int .u8)) b)))], []⟩ : St)) (by kernel_rfl) ⟨trivial, trivial⟩ ?_
  refine awl_nil ?_
  refine thenQ_n ?_
  refine aw_seq ?_
  refine aw_region ?_
  intro m9 w0 S0 G a0 w hs
  have ha : Enc w G.S (.sl (.int .u8)) a [a0.eval (.tmp 0)] := hs.val_ (p := []) (x := .tmp 0) holds_nil rfl
  have hb : Enc w G.S (.sl (.int .u8)) b [a0.eval (.tmp 1)] := hs.val_ (p := []) (x := .tmp 1) holds_nil rfl
  have hsz : a0.tmps.size = 10 := hs.size
  have e1 := enc_string (P := Try.prog) ha Try.underlying22 Try.underlying5 Try.underlying9
  have e2 := enc_string (P := Try.prog) hb Try.underlying22 Try.underlying5 Try.underlying9
  refine wpl_val (a0.eval (.tmp 0)) rfl rfl (by rfl) ?_
  refine wpl_val (.string (strOfNums a)) (d := 6) rfl rfl ?_ ?_
  · unfold execOp
    simp only []
    rw [eval_hit (by simp [hsz])]
    simp only [Sem.run_bind, Sem.run_map, e1, Result.andThen_ok, Sem.run_pure]
  refine wpl_val (a0.eval (.tmp 1)) (d := 7) rfl rfl ?_ ?_
  · unfold execOp
    simp only []
    rw [eval_miss (by decide), eval_miss (by decide)]
    rfl
  refine wpl_val (.string (strOfNums b)) (d := 8) rfl rfl ?_ ?_
  · unfold execOp
    simp only []
    rw [eval_hit (by simp [Act.put, hsz])]
    simp only [Sem.run_bind, Sem.run_map, e2, Result.andThen_ok, Sem.run_pure]
  refine wpl_val (.bool (decide (a = b))) (d := 9) rfl rfl ?_ ?_
  · unfold execOp
    simp only []
    rw [eval_hit (by simp [Act.put, hsz]), eval_miss (by decide), eval_miss (by decide), eval_hit (by simp [Act.put, hsz])]
    simp only [binOp_string_eql, Sem.run_bind, Sem.run_map, Result.andThen_ok, Sem.run_pure, strOfNums_beq (enc_bytes ha) (enc_bytes hb)]
    simp [eqGuard, run_underlying Try.underlying9]
  refine wpl_val (.bool (decide (a = b))) (d := 4) rfl rfl ?_ ?_
  · unfold execOp
    simp only []
    rw [eval_hit (by simp [Act.put, hsz])]
    rfl
  have s1 := hs.put (i := 5) (p := []) (x := .v (.c .any)) (v := a0.eval (.tmp 0)) (show (_ : Nat) < 10 by decide) rfl (fun _ => trivial) (fun hn => absurd holds_nil hn)
  have s2 := s1.put (i := 6) (p := []) (x := .v (.c .any)) (v := .string (strOfNums a)) (show (_ : Nat) < 10 by decide) rfl (fun _ => trivial) (fun hn => absurd holds_nil hn)
  have s3 := s2.put (i := 7) (p := []) (x := .v (.c .any)) (v := a0.eval (.tmp 1)) (show (_ : Nat) < 10 by decide) rfl (fun _ => trivial) (fun hn => absurd holds_nil hn)
  have s4 := s3.put (i := 8) (p := []) (x := .v (.c .any)) (v := .string (strOfNums b)) (show (_ : Nat) < 10 by decide) rfl (fun _ => trivial) (fun hn => absurd holds_nil hn)
  have s5 := s4.put (i := 9) (p := []) (x := .v (.c .any)) (v := .bool (decide (a = b))) (show (_ : Nat) < 10 by decide) rfl (fun _ => trivial) (fun hn => absurd holds_nil hn)
  have s6 := s5.put (i := 4) (p := []) (x := .v (.c (.p .bool (decide (a = b))))) (v := .bool (decide (a = b))) (show (_ : Nat) < 10 by decide) rfl (fun _ => rfl) (fun hn => absurd holds_nil hn)
  refine ⟨G, _, s6, thenQ_n (aw_ret ?_)⟩
  exact retQ_r (σ := Bool) (R := (fun y => [toV1 .bool y])) (ob := (True ∧ True)) (decide (a = b)) (by rfl) ⟨trivial, trivial⟩ h
-- bytes.HasPrefix
def VC30 (sv : LI) (prefixv : LI) (K : Bool → Prop) : Prop :=
  (((decide ((prefixv.length : Int) ≤ (sv.length : Int))) = true → (0 ≤ (prefixv.length : Int) ∧ (prefixv.length : Int) ≤ (sv.length : Int))) ∧ gcall (α := Bool) (decide ((prefixv.length : Int) ≤ (sv.length : Int))) (VC49 (sv.take ((prefixv.length : Int)).toNat) prefixv) false (fun (ret16v : Bool) => K ((decide ((prefixv.length : Int) ≤ (sv.length : Int))) && ret16v)))
set_option maxHeartbeats 4000000 in
theorem link30 (sv : LI) (prefixv : LI) (K : Bool → Prop) (h : VC30 sv prefixv K) : ACalls Try.prog 30 [toV1 (.sl (.int .u8)) sv, toV1 (.sl (.int .u8)) prefixv] (fun res => ∃ y, res = (fun y => [toV1 .bool y]) y ∧ K y) := by
 refine acalls_of_aw [.bool] [.t 4] Try.func30 rfl rfl rfl ?_
 unfold VC30 at h
 refine sr ?_
 refine rqT 1 ⟨18, [s1 0 (.p (.sl (.int .u8)) sv), s1 1 (.p (.sl (.int .u8)) prefixv)], []⟩ (by kernel_rfl) ?_
 refine nsr ?_
 obtain ⟨o1, h⟩ := h
 refine rq 11 (ob := (Ts 6 (Ti 3 ((decide ((prefixv.length : Int) ≤ (sv.length : Int))) = true → True) (((decide ((prefixv.length : Int) ≤ (sv.length : Int))) = true → (0 ≤ (prefixv.length : Int) ∧ (prefixv.length : Int) ≤ (sv.length : Int))) ∧ ((decide ((prefixv.length : Int) ≤ (sv.length : Int))) = true → True) ∧ True)))) (st' := (⟨18, [sB 10 (decide ((prefixv.length : Int) ≤ (sv.length : Int))), (14, [(10, true)], .v (.c (.p (.sl (.int .u8)) (sv.take ((prefixv.length : Int)).toNat)))), (15, [(10, true)], .v (.c (.p (.sl (.int .u8)) prefixv)))], []⟩ : St)) (by kernel_rfl) (tsI 6 (tiI 3 (fun _ => trivial) (⟨o1, ⟨(fun _ => trivial), trivial⟩⟩))) ?_
 refine awl_callk (p := [(10, true)]) (l := [toV1 (.sl (.int .u8)) (sv.take ((prefixv.length : Int)).toNat), toV1 (.sl (.int .u8)) prefixv]) (cl := []) false [.d (.sl (.int .u8)), .d (.sl (.int .u8))] [10, 16] [] (fun (ret16v : Bool) => K ((decide ((prefixv.length : Int) ≤ (sv.length : Int))) && ret16v)) (fun ret16v => [toV1 .bool ret16v]) (fun ret16v => (⟨18, [sB 10 (decide ((prefixv.length : Int) ≤ (sv.length : Int))), (16, [(10, true)], .v (.c (.pB ret16v)))], []⟩ : St)) (by kernel_rfl) rfl (by kernel_rfl) rfl (by kernel_rfl) Try.call49 (by kernel_rfl) (fun ret16v => by kernel_rfl) (fun e => by cases e) (fun hg => link49 (sv.take ((prefixv.length : Int)).toNat) prefixv _ (by have := gcall_T h (show (decide ((prefixv.length : Int) ≤ (sv.length : Int))) = true from hg); exact this)) (fun hg => ⟨false, by have := gcall_F h (show (decide ((prefixv.length : Int) ≤ (sv.length : Int))) = false from hg); exact this⟩) (fun ret16v h => ?_)
 refine rqT 2 ⟨18, [sB 4 ((decide ((prefixv.length : Int) ≤ (sv.length : Int))) && ret16v)], []⟩ (by kernel_rfl) ?_
 refine nn ?_
 refine aw_ret ?_
 exact retQ_r (ob := Ts 1 True) _ (by kernel_rfl) (tsI 1 trivial) h
abbrev e19_0 (w : LI) : Nat × Path × AV := s1 0 (.p (.sl (.int .u8)) w)
abbrev e19_1 (u : LI) : Nat × Path × AV := s1 1 (.p (.sl (.int .u8)) u)
-- coppicer/ends.Count
def VC19_k1 (K : Int × Int → Prop) (n : Int) : Prop :=
  K (n, (0 : Int))
def VC19_k2 (i : Int) (X1 : Int × Int → Prop) (n2 : Int) : Prop :=
  (InR (i + (1 : Int)) ∧ X1 (n2, (i + (1 : Int))))
def VC19_l1 (w : LI) (u : LI) (K : Int × Int → Prop) (n : Int) (i : Int) (X1 : Int × Int → Prop) : Prop :=
  (InR (i + (u.length : Int)) ∧ (((decide ((i + (u.length : Int)) ≤ (w.length : Int))) = true → ((0 ≤ i ∧ i ≤ (w.length : Int)) ∧ VC30 (w.drop (i).toNat) u (fun (ret29v : Bool) => ((ret29v = true → (InR (n + (1 : Int)) ∧ VC19_k2 i X1 (n + (1 : Int)))) ∧ (ret29v = false → VC19_k2 i X1 n))))) ∧ ((decide ((i + (u.length : Int)) ≤ (w.length : Int))) = false → VC19_k1 K n)))
def VC19 (w : LI) (u : LI) (K : Int × Int → Prop) : Prop :=
  VC27 [w, u] (fun (ret12v : Int) => (((!decide (ret12v = (0 : Int))) = true → K ((0 : Int), ret12v)) ∧ ((!decide (ret12v = (0 : Int))) = false → Loop (σ := Int × Int) (fun s X => VC19_l1 w u K s.1 s.2 X) ((0 : Int), (0 : Int)))))
set_option maxHeartbeats 4000000 in
theorem link19 (w : LI) (u : LI) (K : Int × Int → Prop) (h : VC19 w u K) : ACalls Try.prog 19 [toV1 (.sl (.int .u8)) w, toV1 (.sl (.int .u8)) u] (fun res => ∃ y, res = (fun y => [toV1 tI y.1, toV1 tI y.2]) y ∧ K y) := by
 refine acalls_of_aw [tI, tI] [.t 4, .t 5] Try.func19 rfl rfl rfl ?_
 unfold VC19 at h
 refine srn 2 ⟨33, [e19_0 w, e19_1 u], []⟩ (by kernel_rfl) rfl ?_
 refine aw_seq ?_
 refine sr ?_
 refine rqT 3 ⟨33, [e19_0 w, e19_1 u, s1 11 (.own 11)], [hA 11 22 (.sl (.int .u8)) [w, u]]⟩ (by kernel_rfl) ?_
 refine awl_callk (p := []) (l := [toV1 (.sl (.sl (.int .u8))) [w, u]]) (cl := []) true [.d (.sl (.sl (.int .u8)))] [0, 1, 12] [] (fun (ret12v : Int) => (((!decide (ret12v = (0 : Int))) = true → K ((0 : Int), ret12v)) ∧ ((!decide (ret12v = (0 : Int))) = false → Loop (σ := Int × Int) (fun s X => VC19_l1 w u K s.1 s.2 X) ((0 : Int), (0 : Int))))) (fun ret12v => [toV1 tI ret12v]) (fun ret12v => (⟨33, [e19_0 w, e19_1 u, sI 12 ret12v], []⟩ : St)) (by kernel_rfl) rfl (by kernel_rfl) rfl (by kernel_rfl) Try.call27 (by kernel_rfl) (fun ret12v => by kernel_rfl) (fun _ _ => rfl) (fun hg => link27 [w, u] _ h) (fun hg => noF hg) (fun ret12v h => ?_)
 refine rqT 1 ⟨33, [e19_0 w, e19_1 u, sI 6 ret12v], []⟩ (by kernel_rfl) ?_
 refine nsr ?_
 refine rqT 2 ⟨33, [e19_0 w, e19_1 u, sI 6 ret12v, sB 14 (!decide (ret12v = (0 : Int)))], []⟩ (by kernel_rfl) ?_
 refine nn ?_
 refine aw_cond (b := (!decide (ret12v = (0 : Int)))) (by kernel_rfl) (fun hb => ?_) (fun hb => ?_)
 ·have h := h.1 hb
  refine srn 3 ⟨33, [sI 4 (0 : Int), sI 5 ret12v], []⟩ (by kernel_rfl) rfl ?_
  refine aw_ret ?_
  refine thenQ_r ?_
  exact retQ_r (ob := Ts 2 True) _ (by kernel_rfl) (tsI 2 trivial) h
 ·have h := h.2 hb
  refine aw_skip ?_
  refine thenQ_n ?_
  refine srn 1 ⟨33, [e19_0 w, e19_1 u, sI 7 (0 : Int)], []⟩ (by kernel_rfl) rfl ?_
  refine aw_seq ?_
  refine srn 1 ⟨33, [e19_0 w, e19_1 u, sI 7 (0 : Int), sI 8 (0 : Int)], []⟩ (by kernel_rfl) rfl ?_
  refine withJoin (σ := Int) (fun s => (⟨33, [sI 7 s], []⟩ : St)) (fun s => VC19_k1 K s) (fun n h => ?_) (fun rest1 => ?_)
  ·have h : VC19_k1 K n := h
   unfold VC19_k1 at h
   refine thenQ_n ?_
   refine srn 3 ⟨33, [sI 4 n, sI 5 (0 : Int)], []⟩ (by kernel_rfl) rfl ?_
   refine aw_ret ?_
   exact retQ_r (ob := Ts 2 True) _ (by kernel_rfl) (tsI 2 trivial) h
  ·refine aw_block ?_
   refine aw_loop (σ := Int × Int) (fun s => (⟨33, [e19_0 w, e19_1 u, sI 7 s.1, sI 8 s.2], []⟩ : St)) (fun s X => VC19_l1 w u K s.1 s.2 X) (s0 := ((0 : Int), (0 : Int))) (fun s X1 h => ?_) h
   obtain ⟨n, i⟩ := s
   have h : VC19_l1 w u K n i X1 := h
   unfold VC19_l1 at h
   refine aw_seq ?_
   refine sr ?_
   obtain ⟨o1, h⟩ := h
   refine rq 7 (ob := (Ts 3 (InR (i + (u.length : Int)) ∧ Ts 3 True))) (st' := (⟨33, [e19_0 w, e19_1 u, sI 7 n, sI 8 i, sB 22 (decide ((i + (u.length : Int)) ≤ (w.length : Int)))], []⟩ : St)) (by kernel_rfl) (tsI 3 ⟨o1, tsI 3 trivial⟩) ?_
   refine nn ?_
   refine aw_cond (b := (decide ((i + (u.length : Int)) ≤ (w.length : Int)))) (by kernel_rfl) (fun hb => ?_) (fun hb => ?_)
   ·have h := h.1 hb
    refine aw_skip ?_
    refine thenQ_n ?_
    refine aw_seq ?_
    refine aw_block ?_
    refine sr ?_
    obtain ⟨o1, h⟩ := h
    refine rq 4 (ob := (Ts 2 ((0 ≤ i ∧ i ≤ (w.length : Int)) ∧ Ts 1 True))) (st' := (⟨33, [e19_0 w, e19_1 u, sI 7 n, sI 8 i, s1 27 (.p (.sl (.int .u8)) (w.drop (i).toNat)), s1 28 (.p (.sl (.int .u8)) u)], []⟩ : St)) (by kernel_rfl) (tsI 2 ⟨o1, tsI 1 trivial⟩) ?_
    refine lcq (d := 29) [.d (.sl (.int .u8)), .d (.sl (.int .u8))] (fun ret29v => (⟨33, [e19_0 w, e19_1 u, sI 7 n, sI 8 i, sB 29 ret29v], []⟩ : St)) (by kernel_rfl) Try.call30 (fun _ => by kernel_rfl) (link30 (w.drop (i).toNat) u _ h) (fun ret29v h => ?_)
    refine nn ?_
    refine withJoin (σ := Int) (fun s => (⟨33, [e19_0 w, e19_1 u, sI 7 s, sI 8 i], []⟩ : St)) (fun s => VC19_k2 i X1 s) (fun n2 h => ?_) (fun rest2 => ?_)
    ·have h : VC19_k2 i X1 n2 := h
     unfold VC19_k2 at h
     refine blockQ_n ?_
     refine thenQ_n ?_
     refine aw_region ?_
     obtain ⟨o1, h⟩ := h
     refine rq 3 (ob := (Ts 1 (InR (i + (1 : Int)) ∧ Ts 1 True))) (st' := (⟨33, [e19_0 w, e19_1 u, sI 7 n2, sI 8 (i + (1 : Int))], []⟩ : St)) (by kernel_rfl) (tsI 1 ⟨o1, tsI 1 trivial⟩) ?_
     refine awl_nil ?_
     exact thenQ_n ⟨(n2, (i + (1 : Int))), rfl, h⟩
    ·refine aw_cond (b := ret29v) (by kernel_rfl) (fun hb => ?_) (fun hb => ?_)
     ·have h := h.1 hb
      refine aw_region ?_
      obtain ⟨o1, h⟩ := h
      refine rq 3 (ob := (Ts 1 (InR (n + (1 : Int)) ∧ Ts 1 True))) (st' := (⟨33, [e19_0 w, e19_1 u, sI 7 (n + (1 : Int)), sI 8 i], []⟩ : St)) (by kernel_rfl) (tsI 1 ⟨o1, tsI 1 trivial⟩) ?_
      refine awl_nil ?_
      exact rest2 (n + (1 : Int)) h
     ·have h := h.2 hb
      refine cpr (st' := (⟨33, [e19_0 w, e19_1 u, sI 7 n, sI 8 i], []⟩ : St)) (by kernel_rfl) ?_
      refine aw_skip ?_
      exact rest2 n h
   ·have h := h.2 hb
    refine cpr (st' := (⟨33, [sI 7 n], []⟩ : St)) (by kernel_rfl) ?_
    refine aw_exit ?_
    refine thenQ_x ?_
    refine thenQ_x ?_
    refine blockQ_hit ?_
    exact rest1 n h
abbrev e7_0 (w : LI) (b : Int) : Nat × Path × AV := s1 5 (.p (.sl (.int .u8)) ((([] : List Int) ++ w) ++ [b]))
abbrev e7_1 (w : LI) : Nat × Path × AV := s1 0 (.p (.sl (.int .u8)) w)
abbrev e7_2 (w : LI) (b : Int) : Nat × Path × Con := hA 19 5 (.int .u8) ((([] : List Int) ++ w) ++ [b])
abbrev e7_3 : Nat × Path × AV := s1 5 (.own 19)
-- coppicer/coppicerkeep.EndsGrow
def VC7_k1 (w : LI) (b : Int) (K : Bool → Prop) (ret22v : Int × Int) (ret27v : Int × Int) (old : Int) : Prop :=
  ((((decide (ret22v.2 = (0 : Int))) && (decide (ret27v.2 = (0 : Int)))) = true → InR (ret27v.1 - ret22v.1)) ∧ (((decide (ret22v.2 = (0 : Int))) && (decide (ret27v.2 = (0 : Int)))) = true → InR ((((([] : List Int) ++ w) ++ [b]).length : Int) - old)) ∧ K (((decide (ret22v.2 = (0 : Int))) && (decide (ret27v.2 = (0 : Int)))) && (decide ((ret27v.1 - ret22v.1) = ((((([] : List Int) ++ w) ++ [b]).length : Int) - old)))))
def VC7_k2 (k : Int) (X1 : Int × Int → Prop) (old2 : Int) : Prop :=
  (InR (k + (1 : Int)) ∧ X1 (old2, (k + (1 : Int))))
def VC7_l1 (w : LI) (b : Int) (K : Bool → Prop) (ret22v : Int × Int) (ret27v : Int × Int) (old : Int) (k : Int) (X1 : Int × Int → Prop) : Prop :=
  (((decide (k ≤ (((([] : List Int) ++ w) ++ [b]).length : Int))) = true → (InR ((((([] : List Int) ++ w) ++ [b]).length : Int) - k) ∧ (0 ≤ ((((([] : List Int) ++ w) ++ [b]).length : Int) - k) ∧ ((((([] : List Int) ++ w) ++ [b]).length : Int) - k) ≤ (((([] : List Int) ++ w) ++ [b]).length : Int)) ∧ VC19 w (((([] : List Int) ++ w) ++ [b]).drop (((((([] : List Int) ++ w) ++ [b]).length : Int) - k)).toNat) (fun (ret49v : Int × Int) => (((!decide (ret49v.2 = (0 : Int))) = true → K false) ∧ ((!decide (ret49v.2 = (0 : Int))) = false → (((decide ((0 : Int) < ret49v.1)) = true → VC7_k2 k X1 k) ∧ ((decide ((0 : Int) < ret49v.1)) = false → VC7_k2 k X1 old))))))) ∧ ((decide (k ≤ (((([] : List Int) ++ w) ++ [b]).length : Int))) = false → VC7_k1 w b K ret22v ret27v old))
def VC7 (w : LI) (b : Int) (K : Bool → Prop) : Prop :=
  (roomW 1 (([] : List Int).length + w.length) ∧ roomW 1 ((([] : List Int) ++ w).length + [b].length) ∧ VC17 w (fun (ret22v : Int × Int) => VC17 ((([] : List Int) ++ w) ++ [b]) (fun (ret27v : Int × Int) => VC18 [((([] : List Int) ++ w) ++ [b])] (fun (ret32v : Bool) => ((ret32v = true → K (!decide (ret27v.2 = (0 : Int)))) ∧ (ret32v = false → Loop (σ := Int × Int) (fun s X => VC7_l1 w b K ret22v ret27v s.1 s.2 X) ((0 : Int), (1 : Int))))))))
set_option maxHeartbeats 4000000 in
theorem link7 (w : LI) (b : Int) (K : Bool → Prop) (h : VC7 w b K) : ACalls Try.prog 7 [toV1 (.sl (.int .u8)) w, toV1 (.int .u8) b] (fun res => ∃ y, res = (fun y => [toV1 .bool y]) y ∧ K y) := by
 refine acalls_of_aw [.bool] [.t 4] Try.func7 rfl rfl rfl ?_
 unfold VC7 at h
 refine sr ?_
 refine rqT 1 ⟨73, [e7_1 w, s1 1 (.pY b)], []⟩ (by kernel_rfl) ?_
 refine nsr ?_
 obtain ⟨o1, o2, h⟩ := h
 refine rq 7 (ob := (Ts 2 (roomW 1 (([] : List Int).length + w.length) ∧ Ts 2 (roomW 1 ((([] : List Int) ++ w).length + [b].length) ∧ Ts 1 True)))) (st' := (⟨73, [e7_1 w, e7_3], [e7_2 w b]⟩ : St)) (by kernel_rfl) (tsI 2 (⟨o1, tsI 2 ⟨o2, tsI 1 trivial⟩⟩)) ?_
 refine nsr ?_
 refine rqT 1 ⟨73, [e7_1 w, e7_3, s1 21 (.p (.sl (.int .u8)) w)], [e7_2 w b]⟩ (by kernel_rfl) ?_
 refine lcq (d := 22) [.d (.sl (.int .u8))] (fun ret22v => (⟨73, [e7_1 w, e7_3, (22, [], .tup [.c (.pI ret22v.1), .c (.pI ret22v.2)])], [e7_2 w b]⟩ : St)) (by kernel_rfl) Try.call17 (fun _ => by kernel_rfl) (link17 w _ h) (fun ret22v h => ?_)
 refine rqT 5 ⟨73, [e7_1 w, e7_3, sI 6 ret22v.1, sI 7 ret22v.2], [e7_2 w b]⟩ (by kernel_rfl) ?_
 refine nsr ?_
 refine rqT 1 ⟨73, [e7_1 w, e7_3, sI 6 ret22v.1, sI 7 ret22v.2, s1 26 (.own 19)], [e7_2 w b]⟩ (by kernel_rfl) ?_
 refine awl_callk (p := []) (l := [toV1 (.sl (.int .u8)) ((([] : List Int) ++ w) ++ [b])]) (cl := []) true [.d (.sl (.int .u8))] [0, 5, 6, 7, 27] [19] (fun (ret27v : Int × Int) => VC18 [((([] : List Int) ++ w) ++ [b])] (fun (ret32v : Bool) => ((ret32v = true → K (!decide (ret27v.2 = (0 : Int)))) ∧ (ret32v = false → Loop (σ := Int × Int) (fun s X => VC7_l1 w b K ret22v ret27v s.1 s.2 X) ((0 : Int), (1 : Int)))))) (fun ret27v => [toV1 tI ret27v.1, toV1 tI ret27v.2]) (fun ret27v => (⟨73, [e7_1 w, e7_3, sI 6 ret22v.1, sI 7 ret22v.2, (27, [], .tup [.c (.pI ret27v.1), .c (.pI ret27v.2)])], [e7_2 w b]⟩ : St)) (by kernel_rfl) rfl (by kernel_rfl) rfl (by kernel_rfl) Try.call17 (by kernel_rfl) (fun ret27v => by kernel_rfl) (fun _ _ => rfl) (fun hg => link17 ((([] : List Int) ++ w) ++ [b]) _ h) (fun hg => noF hg) (fun ret27v h => ?_)
 refine rqT 5 ⟨73, [e7_1 w, e7_3, sI 6 ret22v.1, sI 7 ret22v.2, sI 8 ret27v.1, sI 9 ret27v.2], [e7_2 w b]⟩ (by kernel_rfl) ?_
 refine nn ?_
 refine aw_seq ?_
 refine sr ?_
 refine rqT 1 ⟨73, [e7_1 w, e7_3, sI 6 ret22v.1, sI 7 ret22v.2, sI 8 ret27v.1, sI 9 ret27v.2, s1 30 (.own 19)], [e7_2 w b]⟩ (by kernel_rfl) ?_
 refine awl_conv [.freeze 19] (st' := (⟨73, [e7_1 w, e7_0 w b, sI 6 ret22v.1, sI 7 ret22v.2, sI 8 ret27v.1, sI 9 ret27v.2, s1 30 (.p (.sl (.int .u8)) ((([] : List Int) ++ w) ++ [b]))], []⟩ : St)) (by kernel_rfl) ?_
 refine rqT 1 ⟨73, [e7_1 w, e7_0 w b, sI 6 ret22v.1, sI 7 ret22v.2, sI 8 ret27v.1, sI 9 ret27v.2, s1 31 (.own 31)], [hA 31 22 (.sl (.int .u8)) [((([] : List Int) ++ w) ++ [b])]]⟩ (by kernel_rfl) ?_
 refine awl_callk (p := []) (l := [toV1 (.sl (.sl (.int .u8))) [((([] : List Int) ++ w) ++ [b])]]) (cl := []) true [.d (.sl (.sl (.int .u8)))] [0, 5, 6, 7, 8, 9, 32] [] (fun (ret32v : Bool) => ((ret32v = true → K (!decide (ret27v.2 = (0 : Int)))) ∧ (ret32v = false → Loop (σ := Int × Int) (fun s X => VC7_l1 w b K ret22v ret27v s.1 s.2 X) ((0 : Int), (1 : Int))))) (fun ret32v => [toV1 .bool ret32v]) (fun ret32v => (⟨73, [e7_1 w, e7_0 w b, sI 6 ret22v.1, sI 7 ret22v.2, sI 8 ret27v.1, sI 9 ret27v.2, sB 32 ret32v], []⟩ : St)) (by kernel_rfl) rfl (by kernel_rfl) rfl (by kernel_rfl) Try.call18 (by kernel_rfl) (fun ret32v => by kernel_rfl) (fun _ _ => rfl) (fun hg => link18 [((([] : List Int) ++ w) ++ [b])] _ h) (fun hg => noF hg) (fun ret32v h => ?_)
 refine nn ?_
 refine aw_cond (b := ret32v) (by kernel_rfl) (fun hb => ?_) (fun hb => ?_)
 ·have h := h.1 hb
  refine srn 3 ⟨73, [sB 4 (!decide (ret27v.2 = (0 : Int)))], []⟩ (by kernel_rfl) rfl ?_
  refine aw_ret ?_
  refine thenQ_r ?_
  exact retQ_r (ob := Ts 1 True) _ (by kernel_rfl) (tsI 1 trivial) h
 ·have h := h.2 hb
  refine aw_skip ?_
  refine thenQ_n ?_
  refine srn 1 ⟨73, [e7_1 w, e7_0 w b, sI 6 ret22v.1, sI 7 ret22v.2, sI 8 ret27v.1, sI 9 ret27v.2, sI 10 (0 : Int)], []⟩ (by kernel_rfl) rfl ?_
  refine aw_seq ?_
  refine srn 1 ⟨73, [e7_1 w, e7_0 w b, sI 6 ret22v.1, sI 7 ret22v.2, sI 8 ret27v.1, sI 9 ret27v.2, sI 10 (0 : Int), sI 11 (1 : Int)], []⟩ (by kernel_rfl) rfl ?_
  refine withJoin (σ := Int) (fun s => (⟨73, [e7_0 w b, sI 6 ret22v.1, sI 7 ret22v.2, sI 8 ret27v.1, sI 9 ret27v.2, sI 10 s], []⟩ : St)) (fun s => VC7_k1 w b K ret22v ret27v s) (fun old h => ?_) (fun rest1 => ?_)
  ·have h : VC7_k1 w b K ret22v ret27v old := h
   unfold VC7_k1 at h
   refine thenQ_n ?_
   refine sr ?_
   obtain ⟨o1, o2, h⟩ := h
   refine rq 17 (ob := (Ts 3 (Ti 2 ((decide (ret22v.2 = (0 : Int))) = true → True) (Ts 2 (Ti 2 (((decide (ret22v.2 = (0 : Int))) && (decide (ret27v.2 = (0 : Int)))) = true → True) ((((decide (ret22v.2 = (0 : Int))) && (decide (ret27v.2 = (0 : Int)))) = true → InR (ret27v.1 - ret22v.1)) ∧ Ti 3 (((decide (ret22v.2 = (0 : Int))) && (decide (ret27v.2 = (0 : Int)))) = true → True) ((((decide (ret22v.2 = (0 : Int))) && (decide (ret27v.2 = (0 : Int)))) = true → InR ((((([] : List Int) ++ w) ++ [b]).length : Int) - old)) ∧ (((decide (ret22v.2 = (0 : Int))) && (decide (ret27v.2 = (0 : Int)))) = true → True) ∧ Ts 2 True))))))) (st' := (⟨73, [sB 4 (((decide (ret22v.2 = (0 : Int))) && (decide (ret27v.2 = (0 : Int)))) && (decide ((ret27v.1 - ret22v.1) = ((((([] : List Int) ++ w) ++ [b]).length : Int) - old))))], []⟩ : St)) (by kernel_rfl) (tsI 3 (tiI 2 (fun _ => trivial) (tsI 2 (tiI 2 (fun _ => trivial) (⟨o1, tiI 3 (fun _ => trivial) (⟨o2, ⟨(fun _ => trivial), tsI 2 trivial⟩⟩)⟩))))) ?_
   refine nn ?_
   refine aw_ret ?_
   exact retQ_r (ob := Ts 1 True) _ (by kernel_rfl) (tsI 1 trivial) h
  ·refine aw_block ?_
   refine aw_loop (σ := Int × Int) (fun s => (⟨73, [e7_1 w, e7_0 w b, sI 6 ret22v.1, sI 7 ret22v.2, sI 8 ret27v.1, sI 9 ret27v.2, sI 10 s.1, sI 11 s.2], []⟩ : St)) (fun s X => VC7_l1 w b K ret22v ret27v s.1 s.2 X) (s0 := ((0 : Int), (1 : Int))) (fun s X1 h => ?_) h
   obtain ⟨old, k⟩ := s
   have h : VC7_l1 w b K ret22v ret27v old k X1 := h
   unfold VC7_l1 at h
   refine aw_seq ?_
   refine srn 4 ⟨73, [e7_1 w, e7_0 w b, sI 6 ret22v.1, sI 7 ret22v.2, sI 8 ret27v.1, sI 9 ret27v.2, sI 10 old, sI 11 k, sB 38 (decide (k ≤ (((([] : List Int) ++ w) ++ [b]).length : Int)))], []⟩ (by kernel_rfl) rfl ?_
   refine aw_cond (b := (decide (k ≤ (((([] : List Int) ++ w) ++ [b]).length : Int)))) (by kernel_rfl) (fun hb => ?_) (fun hb => ?_)
   ·have h := h.1 hb
    refine aw_skip ?_
    refine thenQ_n ?_
    refine aw_seq ?_
    refine aw_block ?_
    refine sr ?_
    obtain ⟨o1, o2, h⟩ := h
    refine rq 7 (ob := (Ts 5 (InR ((((([] : List Int) ++ w) ++ [b]).length : Int) - k) ∧ (0 ≤ ((((([] : List Int) ++ w) ++ [b]).length : Int) - k) ∧ ((((([] : List Int) ++ w) ++ [b]).length : Int) - k) ≤ (((([] : List Int) ++ w) ++ [b]).length : Int)) ∧ True))) (st' := (⟨73, [e7_1 w, e7_0 w b, sI 6 ret22v.1, sI 7 ret22v.2, sI 8 ret27v.1, sI 9 ret27v.2, sI 10 old, sI 11 k, s1 42 (.p (.sl (.int .u8)) w), s1 48 (.p (.sl (.int .u8)) (((([] : List Int) ++ w) ++ [b]).drop (((((([] : List Int) ++ w) ++ [b]).length : Int) - k)).toNat))], []⟩ : St)) (by kernel_rfl) (tsI 5 (⟨o1, ⟨o2, trivial⟩⟩)) ?_
    refine lcq (d := 49) [.d (.sl (.int .u8)), .d (.sl (.int .u8))] (fun ret49v => (⟨73, [e7_1 w, e7_0 w b, sI 6 ret22v.1, sI 7 ret22v.2, sI 8 ret27v.1, sI 9 ret27v.2, sI 10 old, sI 11 k, (49, [], .tup [.c (.pI ret49v.1), .c (.pI ret49v.2)])], []⟩ : St)) (by kernel_rfl) Try.call19 (fun _ => by kernel_rfl) (link19 w (((([] : List Int) ++ w) ++ [b]).drop (((((([] : List Int) ++ w) ++ [b]).length : Int) - k)).toNat) _ h) (fun ret49v h => ?_)
    refine rqT 5 ⟨73, [e7_1 w, e7_0 w b, sI 6 ret22v.1, sI 7 ret22v.2, sI 8 ret27v.1, sI 9 ret27v.2, sI 10 old, sI 11 k, sI 12 ret49v.1, sI 13 ret49v.2], []⟩ (by kernel_rfl) ?_
    refine nn ?_
    refine aw_seq ?_
    refine srn 2 ⟨73, [e7_1 w, e7_0 w b, sI 6 ret22v.1, sI 7 ret22v.2, sI 8 ret27v.1, sI 9 ret27v.2, sI 10 old, sI 11 k, sI 12 ret49v.1, sB 53 (!decide (ret49v.2 = (0 : Int)))], []⟩ (by kernel_rfl) rfl ?_
    refine aw_cond (b := (!decide (ret49v.2 = (0 : Int)))) (by kernel_rfl) (fun hb => ?_) (fun hb => ?_)
    ·have h := h.1 hb
     refine srn 1 ⟨73, [sB 4 false], []⟩ (by kernel_rfl) rfl ?_
     refine aw_ret ?_
     refine thenQ_r ?_
     refine blockQ_r ?_
     refine thenQ_r ?_
     refine thenQ_r ?_
     refine blockQ_r ?_
     refine thenQ_r ?_
     exact retQ_r (ob := Ts 1 True) _ (by kernel_rfl) (tsI 1 trivial) h
    ·have h := h.2 hb
     refine aw_skip ?_
     refine thenQ_n ?_
     refine srn 2 ⟨73, [e7_1 w, e7_0 w b, sI 6 ret22v.1, sI 7 ret22v.2, sI 8 ret27v.1, sI 9 ret27v.2, sI 10 old, sI 11 k, sB 55 (decide ((0 : Int) < ret49v.1))], []⟩ (by kernel_rfl) rfl ?_
     refine withJoin (σ := Int) (fun s => (⟨73, [e7_1 w, e7_0 w b, sI 6 ret22v.1, sI 7 ret22v.2, sI 8 ret27v.1, sI 9 ret27v.2, sI 10 s, sI 11 k], []⟩ : St)) (fun s => VC7_k2 k X1 s) (fun old2 h => ?_) (fun rest2 => ?_)
     ·have h : VC7_k2 k X1 old2 := h
      unfold VC7_k2 at h
      refine blockQ_n ?_
      refine thenQ_n ?_
      refine aw_region ?_
      obtain ⟨o1, h⟩ := h
      refine rq 3 (ob := (Ts 1 (InR (k + (1 : Int)) ∧ Ts 1 True))) (st' := (⟨73, [e7_1 w, e7_0 w b, sI 6 ret22v.1, sI 7 ret22v.2, sI 8 ret27v.1, sI 9 ret27v.2, sI 10 old2, sI 11 (k + (1 : Int))], []⟩ : St)) (by kernel_rfl) (tsI 1 ⟨o1, tsI 1 trivial⟩) ?_
      refine awl_nil ?_
      exact thenQ_n ⟨(old2, (k + (1 : Int))), rfl, h⟩
     ·refine aw_cond (b := (decide ((0 : Int) < ret49v.1))) (by kernel_rfl) (fun hb => ?_) (fun hb => ?_)
      ·have h := h.1 hb
       refine aw_region ?_
       refine rqT 2 ⟨73, [e7_1 w, e7_0 w b, sI 6 ret22v.1, sI 7 ret22v.2, sI 8 ret27v.1, sI 9 ret27v.2, sI 10 k, sI 11 k], []⟩ (by kernel_rfl) ?_
       refine awl_nil ?_
       exact rest2 k h
      ·have h := h.2 hb
       refine cpr (st' := (⟨73, [e7_1 w, e7_0 w b, sI 6 ret22v.1, sI 7 ret22v.2, sI 8 ret27v.1, sI 9 ret27v.2, sI 10 old, sI 11 k], []⟩ : St)) (by kernel_rfl) ?_
       refine aw_skip ?_
       exact rest2 old h
   ·have h := h.2 hb
    refine cpr (st' := (⟨73, [e7_0 w b, sI 6 ret22v.1, sI 7 ret22v.2, sI 8 ret27v.1, sI 9 ret27v.2, sI 10 old], []⟩ : St)) (by kernel_rfl) ?_
    refine aw_exit ?_
    refine thenQ_x ?_
    refine thenQ_x ?_
    refine blockQ_hit ?_
    exact rest1 old h
end Dec
