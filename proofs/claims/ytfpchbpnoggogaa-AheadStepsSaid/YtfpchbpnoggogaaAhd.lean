/-
  ahead.make1 and ahead.Clear of any grammar: what their sets tell (plain).
-/
import Derived.Test.YtfpchbpnoggogaaTabX
set_option linter.unusedSimpArgs false
set_option linter.unusedVariables false
namespace Dec
open Go Go.Proofs Cfg
def RowsOk (N : Nat) (l : List Int) : Prop := l.length = N ∧ ∀ i, i < N → U32 (l.getD i 0)
noncomputable def pops (l : List Int) : Nat := (l.map popc).sum
theorem getD_set' {l : List Int} {i j : Nat} {v : Int} (hi : i < l.length) : (l.set i v).getD j 0 = if j = i then v else l.getD j 0 := by
  simp only [List.getD_eq_getElem?_getD, List.getElem?_set]
  by_cases e : j = i
  · subst e; simp [hi]
  · rw [if_neg (fun h => e h.symm), if_neg e]
theorem RowsOk.set {N : Nat} {l : List Int} (h : RowsOk N l) {i : Nat} (hi : i < N) {v : Int} (hv : U32 v) : RowsOk N (l.set i v) := by
  refine ⟨by rw [List.length_set]; exact h.1, fun j hj => ?_⟩
  rw [getD_set' (by rw [h.1]; exact hi)]
  split
  · exact hv
  · exact h.2 j hj
theorem rowsOk_zero (N : Nat) : RowsOk N (List.replicate N 0) := by
  refine ⟨by simp, fun i hi => ?_⟩
  simp [List.getD_eq_getElem?_getD, List.getElem?_replicate, hi, u32_zero]
theorem pops_set : ∀ (l : List Int) (i : Nat) (v : Int), i < l.length → pops (l.set i v) + popc (l.getD i 0) = pops l + popc v
  | [], i, v, h => by simp at h
  | x :: l, 0, v, h => by simp [pops]; omega
  | x :: l, i + 1, v, h => by
    have := pops_set l i v (by simpa using h)
    simp only [List.set_cons_succ, List.getD_cons_succ]
    unfold pops at this ⊢
    simp only [List.map_cons, List.sum_cons]
    omega
theorem pops_le : ∀ l : List Int, pops l ≤ 32 * l.length
  | [] => by simp [pops]
  | x :: l => by
    have := pops_le l
    have h := popc_le x
    unfold pops at this ⊢
    simp only [List.map_cons, List.sum_cons, List.length_cons]
    omega
theorem pops_or {N : Nat} {l : List Int} (h : RowsOk N l) {i : Nat} (hi : i < N) {v : Int} (hv : U32 v) (hne : bOr .u32 (l.getD i 0) v ≠ l.getD i 0) : RowsOk N (l.set i (bOr .u32 (l.getD i 0) v)) ∧ pops l < pops (l.set i (bOr .u32 (l.getD i 0) v)) := by
  have hu := h.2 i hi
  refine ⟨h.set hi (u32_or hu hv), ?_⟩
  have h1 := pops_set l i (bOr .u32 (l.getD i 0) v) (by rw [h.1]; exact hi)
  have h2 := popc_lt hu (u32_or hu hv) (fun q hq => by rw [bt_or hu hv, hq]; rfl) hne
  omega
def Hb (K : Int) (l : List Int) (x : Int) (s : Nat) : Prop := (x < K → x = (s : Int)) ∧ (¬ x < K → bt (l.getD (x - K).toNat 0) s = true)
def LookBody (k : Int) (sv : Int) (first : LI) (row : LI) (k3 : Int → Bool → Prop) (out : Int) (v11 : Int) (X2 : Int × Int → Prop) : Prop :=
  (((decide (v11 < (row.length : Int))) = true → (inIdx v11 row.length ∧ (((decide ((row.getD (v11).toNat (0 : Int)) < k)) = true → (0 ≤ (row.getD (v11).toNat (0 : Int)) ∧ k3 (bOr .u32 out (bShl .u32 (1 : Int) (row.getD (v11).toNat (0 : Int)))) false)) ∧ ((decide ((row.getD (v11).toNat (0 : Int)) < k)) = false → (InR ((row.getD (v11).toNat (0 : Int)) - k) ∧ inIdx ((row.getD (v11).toNat (0 : Int)) - k) first.length ∧ (InR ((row.getD (v11).toNat (0 : Int)) - k) ∧ VC47 sv ((row.getD (v11).toNat (0 : Int)) - k) (fun (ret52v : Bool) => (((!ret52v) = true → k3 (bOr .u32 out (first.getD ((((row.getD (v11).toNat (0 : Int)) - k)).toNat) (0 : Int))) false) ∧ ((!ret52v) = false → (InR (v11 + (1 : Int)) ∧ X2 ((bOr .u32 out (first.getD ((((row.getD (v11).toNat (0 : Int)) - k)).toNat) (0 : Int))), (v11 + (1 : Int))))))))))))) ∧ ((decide (v11 < (row.length : Int))) = false → k3 out true))
def SeenK4 (R : List Rl) (Kf : Prop) (v19 : Int) (seen : LI) (X1 : Int × LI → Prop) (out : Int) : Prop :=
  (inIdx ((R.getD (v19).toNat ((0 : Int), ([] : LI))).1) seen.length ∧ (((!decide ((bAnd .u32 (seen.getD (((R.getD (v19).toNat ((0 : Int), ([] : LI))).1).toNat) (0 : Int)) out) = (0 : Int))) = true → Kf) ∧ ((!decide ((bAnd .u32 (seen.getD (((R.getD (v19).toNat ((0 : Int), ([] : LI))).1).toNat) (0 : Int)) out) = (0 : Int))) = false → (inIdx ((R.getD (v19).toNat ((0 : Int), ([] : LI))).1) seen.length ∧ inIdx ((R.getD (v19).toNat ((0 : Int), ([] : LI))).1) seen.length ∧ (InR (v19 + (1 : Int)) ∧ X1 ((v19 + (1 : Int)), (seen.set (((R.getD (v19).toNat ((0 : Int), ([] : LI))).1).toNat) (bOr .u32 (seen.getD (((R.getD (v19).toNat ((0 : Int), ([] : LI))).1).toNat) (0 : Int)) out))))))))
def SeenK3 (R : List Rl) (follow : LI) (Kf : Prop) (v19 : Int) (seen : LI) (X1 : Int × LI → Prop) (v4 : Int) (v5 : Bool) : Prop :=
  ((v5 = true → (inIdx ((R.getD (v19).toNat ((0 : Int), ([] : LI))).1) follow.length ∧ SeenK4 R Kf v19 seen X1 (bOr .u32 v4 (follow.getD (((R.getD (v19).toNat ((0 : Int), ([] : LI))).1).toNat) (0 : Int))))) ∧ (v5 = false → SeenK4 R Kf v19 seen X1 v4))
def SeenBody (k sv : Int) (first follow : LI) (R : List Rl) (Kt Kf : Prop) (v19 : Int) (seen : LI) (X1 : Int × LI → Prop) : Prop :=
  (((decide (v19 < (R.length : Int))) = true → (inIdx v19 R.length ∧ Loop (σ := Int × Int) (fun s X => LookBody k sv first ((R.getD (v19).toNat ((0 : Int), ([] : LI))).2) (SeenK3 R follow Kf v19 seen X1) s.1 s.2 X) ((0 : Int), (0 : Int)))) ∧ ((decide (v19 < (R.length : Int))) = false → Kt))
def NlAt (K : Int) (sv : Int) (x : Int) : Prop := ¬ x < K ∧ bt sv (x - K).toNat = true
def Beg (K sv : Int) (l row : List Int) (n s : Nat) : Prop := ∃ m, n ≤ m ∧ m < row.length ∧ (∀ q, n ≤ q → q < m → NlAt K sv (row.getD q 0)) ∧ Hb K l (row.getD m 0) s
def AllNl (K sv : Int) (row : List Int) (n : Nat) : Prop := ∀ q, n ≤ q → q < row.length → NlAt K sv (row.getD q 0)
abbrev rowJ (g : Gr) (j : Nat) : List Int := (g.2.2.2.getD j (0, [])).2
abbrev leftJ (g : Gr) (j : Nat) : Int := (g.2.2.2.getD j (0, [])).1
def Wit (g : Gr) (sv : Int) (l : List Int) (rk : Nat → Nat → Nat) (A s : Nat) : Prop :=
  ∃ j m : Nat, j < g.2.2.2.length ∧ leftJ g j = (A : Int) ∧ m < (rowJ g j).length ∧ (∀ q, q < m → NlAt g.1 sv ((rowJ g j).getD q 0)) ∧ ((rowJ g j).getD m 0 < g.1 → (rowJ g j).getD m 0 = (s : Int)) ∧
    (¬ (rowJ g j).getD m 0 < g.1 → bt (l.getD ((rowJ g j).getD m 0 - g.1).toNat 0) s = true ∧ rk ((rowJ g j).getD m 0 - g.1).toNat s < rk A s)
def Ranked (g : Gr) (sv : Int) (l : List Int) : Prop := ∃ rk : Nat → Nat → Nat, ∀ A s, A < g.2.1.toNat → bt (l.getD A 0) s = true → rk A s ≤ pops l ∧ Wit g sv l rk A s
section
variable {g : Gr} {sv : Int}
theorem kid_range (hg : GoodG g) {j : Nat} (hj : j < g.2.2.2.length) {m : Nat} (hm : m < (rowJ g j).length) : 0 ≤ (rowJ g j).getD m 0 ∧ (rowJ g j).getD m 0 < g.1 + g.2.1 :=
  hg.right _ (getD_mem (d := ((0 : Int), ([] : List Int))) hj) _ (getD_mem hm)
theorem Beg.mono (hg : GoodG g) {l l' : List Int} (hm : ∀ A s : Nat, A < g.2.1.toNat → bt (l.getD A 0) s = true → bt (l'.getD A 0) s = true) {j n s : Nat} (hj : j < g.2.2.2.length) (h : Beg g.1 sv l (rowJ g j) n s) : Beg g.1 sv l' (rowJ g j) n s := by
  obtain ⟨m, h1, h2, h3, h4, h5⟩ := h
  have hr := kid_range hg hj h2
  exact ⟨m, h1, h2, h3, h4, fun hx => hm _ s (by omega) (h5 hx)⟩
theorem look_loop (hg : GoodG g) {v : Nat} (hv : v < g.2.2.2.length) (hs : U32 sv) {first : LI} (h1 : RowsOk g.2.1.toNat first) {k3 : Int → Bool → Prop}
    (hk : ∀ v4 v5, U32 v4 → (v5 = true ↔ AllNl g.1 sv (rowJ g v) 0) → (∀ s : Nat, bt v4 s = true ↔ Beg g.1 sv first (rowJ g v) 0 s) → k3 v4 v5) : Loop (σ := Int × Int) (fun s X => LookBody g.1 sv first ((g.2.2.2.getD v ((0 : Int), ([] : LI))).2) k3 s.1 s.2 X) ((0 : Int), (0 : Int)) := by
  have hK := hg.k
  have hN := hg.n
  have hmem : g.2.2.2.getD v (0, []) ∈ g.2.2.2 := getD_mem hv
  have hright := hg.right _ hmem
  have hshort := hg.short _ hmem
  unfold rowJ at hk
  obtain ⟨row, hrow⟩ : ∃ row, (g.2.2.2.getD v (0, [])).2 = row := ⟨_, rfl⟩
  rw [hrow] at hk hright hshort ⊢
  refine Loop.by (fun t : Int × Int => ∃ n : Nat, t.2 = (n : Int) ∧ n ≤ row.length ∧ U32 t.1 ∧ (∀ q, q < n → NlAt g.1 sv (row.getD q 0)) ∧ ∀ s : Nat, bt t.1 s = true ↔ ∃ m, m < n ∧ Hb g.1 first (row.getD m 0) s) (fun t => ((row.length : Int) - t.2).toNat) ⟨0, rfl, by omega, u32_zero, by intro q hq; omega, ?_⟩ ?_
  · intro s
    dsimp only
    rw [bt_zero]
    constructor
    · intro h; cases h
    · rintro ⟨m, hm, _⟩; omega
  rintro ⟨out, n'⟩ ⟨n, e, hn, hu, hnl, hbits⟩ Z hZ
  dsimp only at e hu hbits hZ
  subst e
  dsimp only
  unfold LookBody
  simp only [Int.toNat_natCast]
  refine ⟨fun hb => ?_, fun hb => ?_⟩
  · simp only [decide_eq_true_eq] at hb
    have hnl' : n < row.length := by omega
    have hsr := hright (row.getD n 0) (getD_mem hnl')
    obtain ⟨x, hx⟩ : ∃ x, row.getD n 0 = x := ⟨_, rfl⟩
    -- the bits, when the walk stops at n
    have hstop : ∀ out', ¬ (NlAt g.1 sv x) → (∀ s : Nat, bt out' s = true ↔ (bt out s = true ∨ Hb g.1 first x s)) → (false = true ↔ AllNl g.1 sv row 0) ∧ ∀ s : Nat, bt out' s = true ↔ Beg g.1 sv first row 0 s := by
      intro out' hno hb'
      refine ⟨⟨fun h => (by cases h), fun h => absurd (by rw [← hx]; exact h n (by omega) hnl') hno⟩, fun s => ?_⟩
      rw [hb' s, hbits s]
      constructor
      · rintro (⟨m, hm, h⟩ | h)
        · exact ⟨m, by omega, by omega, fun q _ hq => hnl q (by omega), h⟩
        · exact ⟨n, by omega, hnl', fun q _ hq => hnl q hq, by rw [hx]; exact h⟩
      · rintro ⟨m, _, h2, h3, h4⟩
        rcases Nat.lt_trichotomy m n with h | h | h
        · exact .inl ⟨m, h, h4⟩
        · subst h; rw [hx] at h4; exact .inr h4
        · exact absurd (by rw [← hx]; exact h3 n (by omega) h) hno
    simp only [hx] at hsr ⊢
    refine ⟨⟨by omega, by omega⟩, fun hlt => ⟨hsr.1, ?_⟩, fun hge => ?_⟩
    · simp only [decide_eq_true_eq] at hlt
      obtain ⟨a, rfl⟩ : ∃ a : Nat, x = (a : Int) := ⟨x.toNat, by omega⟩
      obtain ⟨q1, q2⟩ := hstop (bOr .u32 out (bShl .u32 (1 : Int) (a : Int))) (fun h => h.1 hlt) (fun s => by
        rw [bt_or1 hu (by omega), Bool.or_eq_true, decide_eq_true_eq]
        refine or_congr Iff.rfl ⟨fun h => ⟨fun _ => by omega, fun h' => absurd hlt h'⟩, fun h => by have := h.1 hlt; omega⟩)
      exact hk _ _ (u32_or hu (u32_shl1 _)) q1 q2
    · simp only [decide_eq_false_iff_not] at hge
      have hsN : (x - g.1).toNat < g.2.1.toNat := by omega
      have hlen := h1.1
      have hbits' : ∀ s : Nat, bt (bOr .u32 out (first.getD (x - g.1).toNat 0)) s = true ↔ (bt out s = true ∨ Hb g.1 first x s) := by
        intro s
        rw [bt_or hu (h1.2 _ hsN), Bool.or_eq_true]
        exact or_congr Iff.rfl ⟨fun h => ⟨fun h' => absurd h' hge, fun _ => h⟩, fun h => h.2 hge⟩
      refine ⟨by unfold InR; omega, ⟨by omega, by omega⟩, by unfold InR; omega, VC47_of hs (by omega) ⟨fun hnn => ?_, fun hnn => ⟨by unfold InR; omega, hZ _ ⟨n + 1, by simp, by omega, u32_or hu (h1.2 _ hsN), fun q hq => ?_, fun s => ?_⟩ (by dsimp only; omega)⟩⟩⟩
      · obtain ⟨q1, q2⟩ := hstop _ (fun h => by rw [h.2] at hnn; cases hnn) hbits'
        exact hk _ _ (u32_or hu (h1.2 _ hsN)) q1 q2
      · by_cases e : q = n
        · subst e
          rw [hx]
          refine ⟨hge, ?_⟩
          cases hbb : bt sv (x - g.1).toNat with
          | true => rfl
          | false => rw [hbb] at hnn; cases hnn
        · exact hnl q (by omega)
      · dsimp only
        rw [hbits' s, hbits s]
        constructor
        · rintro (⟨m, hm, h⟩ | h)
          · exact ⟨m, by omega, h⟩
          · exact ⟨n, by omega, by rw [hx]; exact h⟩
        · rintro ⟨m, hm, h⟩
          by_cases e : m = n
          · subst e; rw [hx] at h; exact .inr h
          · exact .inl ⟨m, by omega, h⟩
  · simp only [decide_eq_false_iff_not] at hb
    have en : n = row.length := by omega
    subst en
    refine hk _ _ hu ⟨fun _ q _ hq => hnl q hq, fun _ => rfl⟩ fun s => ?_
    rw [hbits s]
    constructor
    · rintro ⟨m, hm, h⟩; exact ⟨m, by omega, hm, fun q _ hq => hnl q (by omega), h⟩
    · rintro ⟨m, _, hm, _, h⟩; exact ⟨m, hm, h⟩
structure FInv (g : Gr) (sv : Int) (l0 : List Int) (v : Nat) (grown : Bool) (l : List Int) : Prop where
  ok : RowsOk g.2.1.toNat l
  rank : Ranked g sv l
  same : grown = false → l = l0
  more : grown = true → pops l0 < pops l
  mono : ∀ (A s : Nat), A < g.2.1.toNat → bt (l0.getD A 0) s = true → bt (l.getD A 0) s = true
  done : ∀ j, j < v → ∀ s : Nat, Beg g.1 sv l0 (rowJ g j) 0 s → bt (l.getD (leftJ g j).toNat 0) s = true
theorem k13_of (hg : GoodG g) {l0 l : List Int} {v : Nat} {grown : Bool} (hi : FInv g sv l0 v grown l) (hv : v < g.2.2.2.length) {v4 : Int} {v5 : Bool} (hu : U32 v4)
    (h4 : ∀ s : Nat, bt v4 s = true ↔ Beg g.1 sv l (rowJ g v) 0 s) {X : Bool × Int × LI → Prop} (hX : ∀ gr l', FInv g sv l0 (v + 1) gr l' → X (gr, (v : Int) + 1, l')) : VCo52_k13 g grown (v : Int) l X v4 v5 := by
  have hmem : g.2.2.2.getD v (0, []) ∈ g.2.2.2 := getD_mem hv
  have hleft := hg.left _ hmem
  have hright := hg.right _ hmem
  have hfew := hg.few
  have hN := hg.n
  unfold VCo52_k13
  simp only [Int.toNat_natCast]
  obtain ⟨a, ha⟩ : ∃ a : Nat, (g.2.2.2.getD v (0, [])).1 = (a : Int) := ⟨_, (Int.toNat_of_nonneg hleft.1).symm⟩
  have haN : a < g.2.1.toNat := by omega
  have hlen := hi.ok.1
  have hua := hi.ok.2 a haN
  simp only [ha, Int.toNat_natCast]
  have hidx : inIdx (a : Int) l.length := ⟨by omega, by omega⟩
  have hdone : ∀ l' : List Int, (∀ (A s : Nat), A < g.2.1.toNat → bt (l.getD A 0) s = true → bt (l'.getD A 0) s = true) → (∀ s : Nat, bt v4 s = true → bt (l'.getD a 0) s = true) → ∀ j, j < v + 1 → ∀ s : Nat, Beg g.1 sv l0 (rowJ g j) 0 s → bt (l'.getD (leftJ g j).toNat 0) s = true := by
    intro l' hm h5 j hj s hs
    by_cases e : j = v
    · subst e
      unfold leftJ
      rw [ha, Int.toNat_natCast]
      exact h5 s ((h4 s).2 (hs.mono hg hi.mono hv))
    · have := hg.left _ (getD_mem (d := ((0 : Int), ([] : List Int))) (show j < g.2.2.2.length by omega))
      exact hm _ s (by unfold leftJ; omega) (hi.done j (by omega) s hs)
  refine ⟨hidx, hidx, fun hch => ⟨hidx, hidx, ?_⟩, fun hsm => ?_⟩
  · have hne : bOr .u32 (l.getD a 0) v4 ≠ l.getD a 0 := by
      intro e
      rw [e] at hch
      simp at hch
    obtain ⟨p1, p2⟩ := pops_or hi.ok haN hu hne
    unfold VCo52_k14
    have hm : ∀ (A s : Nat), A < g.2.1.toNat → bt (l.getD A 0) s = true → bt ((l.set a (bOr .u32 (l.getD a 0) v4)).getD A 0) s = true := by
      intro A s hA hs
      rw [getD_set' (by omega)]
      split
      · rename_i e; subst e; rw [bt_or hua hu, hs]; rfl
      · exact hs
    refine ⟨by unfold InR; omega, hX _ _ ⟨p1, ?_, fun h => (by cases h), fun _ => ?_, fun A s hA hs => hm A s hA (hi.mono A s hA hs), hdone _ hm ?_⟩⟩
    · obtain ⟨rk, hrk⟩ := hi.rank
      obtain ⟨rk', hrk'⟩ : ∃ rk' : Nat → Nat → Nat, ∀ A s, rk' A s = if bt (l.getD A 0) s = true then rk A s else pops l + 1 := ⟨fun A s => if bt (l.getD A 0) s = true then rk A s else pops l + 1, fun _ _ => rfl⟩
      refine ⟨rk', fun A s hA hs => ?_⟩
      by_cases hold : bt (l.getD A 0) s = true
      · obtain ⟨r1, j, m, r2, r3, r4, r5, r6, r7⟩ := hrk A s hA hold
        have ek : rk' A s = rk A s := by rw [hrk', if_pos hold]
        refine ⟨by omega, j, m, r2, r3, r4, r5, r6, fun hx => ?_⟩
        obtain ⟨r8, r9⟩ := r7 hx
        have hr := kid_range hg r2 r4
        rw [ek, hrk', if_pos r8]
        exact ⟨hm _ s (by omega) r8, r9⟩
      · have ek : rk' A s = pops l + 1 := by rw [hrk', if_neg hold]
        rw [getD_set' (by omega)] at hs
        split at hs
        · rename_i e
          subst e
          rw [bt_or hua hu, Bool.or_eq_true] at hs
          rcases hs with hs | hs
          · exact absurd hs hold
          · obtain ⟨m, _, b2, b3, b4, b5⟩ := (h4 s).1 hs
            refine ⟨by omega, v, m, hv, ha, b2, fun q hq => b3 q (by omega) hq, b4, fun hx => ?_⟩
            have h8 := b5 hx
            have hr := kid_range hg hv b2
            have h9 := (hrk ((rowJ g v).getD m 0 - g.1).toNat s (by omega) h8).1
            rw [ek, hrk', if_pos h8]
            exact ⟨hm _ s (by omega) h8, by omega⟩
        · exact absurd hs hold
    · cases grown with
      | true => have := hi.more rfl; omega
      | false => have := hi.same rfl; subst this; exact p2
    · intro s hs
      rw [getD_set' (by omega), if_pos rfl, bt_or hua hu, hs, Bool.or_true]
  · have heq : bOr .u32 (l.getD a 0) v4 = l.getD a 0 := by
      by_cases e : bOr .u32 (l.getD a 0) v4 = l.getD a 0
      · exact e
      · exfalso
        have : decide (bOr .u32 (l.getD a 0) v4 = l.getD a 0) = false := decide_eq_false e
        rw [this] at hsm
        cases hsm
    unfold VCo52_k14
    refine ⟨by unfold InR; omega, hX _ _ ⟨hi.ok, hi.rank, hi.same, hi.more, hi.mono, hdone _ (fun A s hA hs => hs) ?_⟩⟩
    intro s hs
    rw [← heq, bt_or hua hu, hs, Bool.or_true]
def Aft (K sv : Int) (first : List Int) (f : Int) (row : List Int) (n s : Nat) : Prop := Beg K sv first row n s ∨ (AllNl K sv row n ∧ bt f s = true)
structure FolInv (g : Gr) (sv : Int) (first l0 : List Int) (v : Nat) (grown : Bool) (l : List Int) : Prop where
  ok : RowsOk g.2.1.toNat l
  le : pops l0 ≤ pops l
  more : grown = true → pops l0 < pops l
  same : grown = false → l = l0
  mono : ∀ (A s : Nat), A < g.2.1.toNat → bt (l0.getD A 0) s = true → bt (l.getD A 0) s = true
  done : ∀ j, j < v → Rch g.1 g.2.2.1 g.2.2.2 (leftJ g j) → ∀ m, m < (rowJ g j).length → ¬ (rowJ g j).getD m 0 < g.1 → ∀ s : Nat, Aft g.1 sv first (l0.getD (leftJ g j).toNat 0) (rowJ g j) (m + 1) s → bt (l.getD ((rowJ g j).getD m 0 - g.1).toNat 0) s = true
def FolOk (g : Gr) (sv : Int) (first l : List Int) : Prop := ∀ j, j < g.2.2.2.length → Rch g.1 g.2.2.1 g.2.2.2 (leftJ g j) → ∀ m, m < (rowJ g j).length → ¬ (rowJ g j).getD m 0 < g.1 → ∀ s : Nat, Aft g.1 sv first (l.getD (leftJ g j).toNat 0) (rowJ g j) (m + 1) s → bt (l.getD ((rowJ g j).getD m 0 - g.1).toNat 0) s = true
theorem k2_of (hg : GoodG g) (hs : U32 sv) {l16 : List Int} (hl : RowsOk g.2.1.toNat l16) {K : Int × Int × Int × (List Rl) × Int × LI × LI → Prop}
    (h : ∀ l19, RowsOk g.2.1.toNat l19 → FolOk g sv l16 l19 → K (g.1, g.2.1, g.2.2.1, g.2.2.2, sv, l16, l19)) : VCo52_k2 g K sv l16 := by
  have hk := hg.k
  have hN := hg.n
  have hst := hg.start
  have hfew := hg.few
  unfold VCo52_k2
  refine VC42_of hg fun rv hrv hreach => ⟨by omega, ⟨by omega, by rw [List.length_replicate]; omega⟩, ?_⟩
  refine Loop.by (fun t : Bool × LI => RowsOk g.2.1.toNat t.2 ∧ (t.1 = false → FolOk g sv l16 t.2)) (fun t => 2 * (32 * g.2.1.toNat - pops t.2) + if t.1 = true then 1 else 0) ⟨(rowsOk_zero _).set (by omega) (u32_shl1 _), fun h => (by cases h)⟩ ?_
  rintro ⟨grown, l0⟩ ⟨hl0, hclosed⟩ X hX
  dsimp only at hl0 hclosed hX
  dsimp only
  unfold VCo52_l1
  refine ⟨fun hgr => ?_, fun hgr => h l0 hl0 (hclosed hgr)⟩
  subst hgr
  refine Loop.by (fun t : Bool × Int × LI => ∃ v : Nat, t.2.1 = (v : Int) ∧ v ≤ g.2.2.2.length ∧ FolInv g sv l16 l0 v t.1 t.2.2) (fun t => ((g.2.2.2.length : Int) - t.2.1).toNat) ⟨0, rfl, by omega, hl0, Nat.le_refl _, fun h => (by cases h), fun _ => rfl, fun A s _ h => h, by intro j hj; omega⟩ ?_
  rintro ⟨gr2, v', l⟩ ⟨v, e, hv, hi⟩ Y hY
  dsimp only at e hi hY
  subst e
  dsimp only
  have hk5 : ∀ (gr : Bool) (l' : List Int), v < g.2.2.2.length → FolInv g sv l16 l0 (v + 1) gr l' → VCo52_k5 (v : Int) Y gr l' := by
    intro gr l' hlt hi'
    unfold VCo52_k5
    exact ⟨by unfold InR; omega, hY _ ⟨v + 1, by simp, by omega, hi'⟩ (by dsimp only; omega)⟩
  unfold VCo52_l2
  simp only [Int.toNat_natCast]
  refine ⟨fun hb => ?_, fun hb => ?_⟩
  · simp only [decide_eq_true_eq] at hb
    have hvl : v < g.2.2.2.length := by omega
    have hmem : g.2.2.2.getD v (0, []) ∈ g.2.2.2 := getD_mem hvl
    have hleft := hg.left _ hmem
    have hright := hg.right _ hmem
    have hshort := hg.short _ hmem
    have hdoneEx : ∀ (l' : List Int), (∀ (A s : Nat), A < g.2.1.toNat → bt (l.getD A 0) s = true → bt (l'.getD A 0) s = true) → (Rch g.1 g.2.2.1 g.2.2.2 (leftJ g v) → ∀ m, m < (rowJ g v).length → ¬ (rowJ g v).getD m 0 < g.1 → ∀ s : Nat, Aft g.1 sv l16 (l.getD (leftJ g v).toNat 0) (rowJ g v) (m + 1) s → bt (l'.getD ((rowJ g v).getD m 0 - g.1).toNat 0) s = true) →
        ∀ j, j < v + 1 → Rch g.1 g.2.2.1 g.2.2.2 (leftJ g j) → ∀ m, m < (rowJ g j).length → ¬ (rowJ g j).getD m 0 < g.1 → ∀ s : Nat, Aft g.1 sv l16 (l0.getD (leftJ g j).toNat 0) (rowJ g j) (m + 1) s → bt (l'.getD ((rowJ g j).getD m 0 - g.1).toNat 0) s = true := by
      intro l' hm hnew j hj hr m hml hx s haft
      by_cases e : j = v
      · subst e
        refine hnew hr m hml hx s (haft.imp id fun h => ⟨h.1, hi.mono _ s (by unfold leftJ; omega) h.2⟩)
      · have hr2 := kid_range hg (show j < g.2.2.2.length by omega) hml
        exact hm _ s (by omega) (hi.done j (by omega) hr m hml hx s haft)
    obtain ⟨r, hr⟩ : ∃ r, g.2.2.2.getD v (0, []) = r := ⟨_, rfl⟩
    have erow : rowJ g v = r.2 := by unfold rowJ; rw [hr]
    have eleft : leftJ g v = r.1 := by unfold leftJ; rw [hr]
    rw [erow, eleft] at hdoneEx
    simp only [hr] at hmem hleft hright hshort ⊢
    have hlen := hi.ok.1
    obtain ⟨a, ha⟩ : ∃ a : Nat, r.1 = (a : Int) := ⟨_, (Int.toNat_of_nonneg hleft.1).symm⟩
    refine ⟨⟨by omega, by omega⟩, VC47_of hrv hleft.1 ⟨fun hb1 => ⟨⟨by omega, by omega⟩, by unfold InR; omega, ?_⟩, fun hb0 => ⟨fun h => ?_, fun _ => hk5 gr2 l hvl ⟨hi.ok, hi.le, hi.more, hi.same, hi.mono, hdoneEx l (fun A s _ h => h) fun hrch => ?_⟩⟩⟩⟩
    · rw [hb1]
      refine Loop.by (fun t : Int × LI × Bool × Int => ∃ n : Nat, t.1 = (n : Int) - 1 ∧ n ≤ r.2.length ∧ RowsOk g.2.1.toNat t.2.1 ∧ U32 t.2.2.2 ∧ pops l ≤ pops t.2.1 ∧ (t.2.2.1 = true → pops l < pops t.2.1) ∧ (t.2.2.1 = false → t.2.1 = l) ∧ (∀ (A s : Nat), A < g.2.1.toNat → bt (l.getD A 0) s = true → bt (t.2.1.getD A 0) s = true) ∧ (∀ s : Nat, Aft g.1 sv l16 (l.getD r.1.toNat 0) r.2 n s → bt t.2.2.2 s = true) ∧
          (∀ m, n ≤ m → m < r.2.length → ¬ r.2.getD m 0 < g.1 → ∀ s : Nat, Aft g.1 sv l16 (l.getD r.1.toNat 0) r.2 (m + 1) s → bt (t.2.1.getD (r.2.getD m 0 - g.1).toNat 0) s = true)) (fun t => (t.1 + 1).toNat)
        ⟨r.2.length, rfl, Nat.le_refl _, hi.ok, hi.ok.2 _ (by omega), Nat.le_refl _, fun h => (by cases h), fun _ => rfl, fun A s _ h => h, ?_, by intro m h1 h2; omega⟩ ?_
      · rintro s (⟨m, h1, h2, _⟩ | h)
        · omega
        · exact h.2
      rintro ⟨i', l2, gr3, v2⟩ ⟨n, e, hn, hl2, hv2, hp1, hp2, hsame, hmono, haft, hdn⟩ Z hZ
      dsimp only at e hl2 hv2 hp1 hp2 hsame hmono haft hdn hZ
      subst e
      dsimp only
      unfold VCo52_l3
      simp only [Int.toNat_natCast]
      simp only [hr]
      refine ⟨fun hb => ?_, fun hb => ?_⟩
      · simp only [decide_eq_true_eq] at hb
        obtain ⟨m, rfl⟩ : ∃ m, n = m + 1 := ⟨n - 1, by omega⟩
        have em : ((m + 1 : Nat) : Int) - 1 = (m : Int) := by omega
        have hml : m < r.2.length := by omega
        have hZ' : ∀ (l' : List Int) (b : Bool) (v' : Int), RowsOk g.2.1.toNat l' → U32 v' → pops l ≤ pops l' → (b = true → pops l < pops l') → (b = false → l' = l) → (∀ (A s : Nat), A < g.2.1.toNat → bt (l2.getD A 0) s = true → bt (l'.getD A 0) s = true) → (∀ s : Nat, Aft g.1 sv l16 (l.getD r.1.toNat 0) r.2 m s → bt v' s = true) →
            (¬ r.2.getD m 0 < g.1 → ∀ s : Nat, Aft g.1 sv l16 (l.getD r.1.toNat 0) r.2 (m + 1) s → bt (l'.getD (r.2.getD m 0 - g.1).toNat 0) s = true) → (InR (((m + 1 : Nat) : Int) - 1 - 1) ∧ Z (((m + 1 : Nat) : Int) - 1 - 1, l', b, v')) := by
          intro l' b v' h1 h2 h3 h4 h5 h6 h7 h8
          refine ⟨by unfold InR; omega, hZ _ ⟨m, by dsimp only; omega, by omega, h1, h2, h3, h4, h5, fun A s hA hs => h6 A s hA (hmono A s hA hs), h7, fun m' hm1 hm2 hx s hs => ?_⟩ (by dsimp only; omega)⟩
          by_cases e : m' = m
          · subst e; exact h8 hx s hs
          · have hr2 := hright _ (getD_mem (d := 0) hm2)
            exact h6 _ s (by omega) (hdn m' (by omega) hm2 hx s hs)
        rw [em]
        rw [em] at hZ'
        simp only [Int.toNat_natCast]
        have hsr := hright (r.2.getD m 0) (getD_mem hml)
        have hsplit : ∀ s : Nat, Aft g.1 sv l16 (l.getD r.1.toNat 0) r.2 m s → (Hb g.1 l16 (r.2.getD m 0) s) ∨ (NlAt g.1 sv (r.2.getD m 0) ∧ bt v2 s = true) := by
          rintro s (⟨m', h1, h2, h3, h4⟩ | ⟨h1, h2⟩)
          · by_cases e : m' = m
            · subst e; exact .inl h4
            · exact .inr ⟨h3 m (by omega) (by omega), haft s (.inl ⟨m', by omega, h2, fun q hq1 hq2 => h3 q (by omega) hq2, h4⟩)⟩
          · exact .inr ⟨h1 m (by omega) hml, haft s (.inr ⟨fun q hq1 hq2 => h1 q (by omega) hq2, h2⟩)⟩
        obtain ⟨x, hx⟩ : ∃ x, r.2.getD m 0 = x := ⟨_, rfl⟩
        rw [hx] at hsr hsplit hZ' ⊢
        refine ⟨⟨by omega, by omega⟩, ?_⟩
        unfold VCo52_y1
        refine ⟨fun hlt => ⟨hsr.1, ?_⟩, fun hge => ?_⟩
        · simp only [decide_eq_true_eq] at hlt
          unfold VCo52_k6
          refine hZ' l2 gr3 _ hl2 (u32_shl1 _) hp1 hp2 hsame (fun A s _ h => h) (fun s hs => ?_) (fun h => absurd hlt h)
          rcases hsplit s hs with h | h
          · have := h.1 hlt
            subst this
            rw [bt_shl1 (by omega)]
            simp
          · exact absurd hlt h.1.1
        · simp only [decide_eq_false_iff_not] at hge
          have hl2len := hl2.1
          have hsN : (x - g.1).toNat < g.2.1.toNat := by omega
          have hidx : inIdx (x - g.1) l2.length := ⟨by omega, by omega⟩
          have hidx6 : inIdx (x - g.1) l16.length := ⟨by omega, by have := hl.1; omega⟩
          have hk7 : ∀ (l' : List Int) (b : Bool), RowsOk g.2.1.toNat l' → pops l ≤ pops l' → (b = true → pops l < pops l') → (b = false → l' = l) → (∀ (A s : Nat), A < g.2.1.toNat → bt (l2.getD A 0) s = true → bt (l'.getD A 0) s = true) → (∀ s : Nat, bt v2 s = true → bt (l'.getD (x - g.1).toNat 0) s = true) → VCo52_k7 g sv l16 x v2 (fun (yt17v : LI × Bool × Int) => (InR ((m : Int) - (1 : Int)) ∧ Z (((m : Int) - (1 : Int)), yt17v.1, yt17v.2.1, yt17v.2.2))) l' b := by
            intro l' b h1 h2 h3 h4 h5 h6
            unfold VCo52_k7
            refine VC47_of hs (by omega) ⟨fun hnl => ⟨hidx6, ?_⟩, fun hnn => ⟨hidx6, ?_⟩⟩
            · refine hZ' l' b _ h1 (u32_or hv2 (hl.2 _ hsN)) h2 h3 h4 h5 (fun s hs' => ?_) (fun _ s hs' => h6 s (haft s hs'))
              rw [bt_or hv2 (hl.2 _ hsN), Bool.or_eq_true]
              rcases hsplit s hs' with h | h
              · exact .inr (h.2 hge)
              · exact .inl h.2
            · refine hZ' l' b _ h1 (hl.2 _ hsN) h2 h3 h4 h5 (fun s hs' => ?_) (fun _ s hs' => h6 s (haft s hs'))
              rcases hsplit s hs' with h | h
              · exact h.2 hge
              · rw [h.1.2] at hnn; cases hnn
          refine ⟨by unfold InR; omega, hidx, hidx, fun hch => ⟨hidx, hidx, ?_⟩, fun hsm => hk7 l2 gr3 hl2 hp1 hp2 hsame (fun A s _ h => h) fun s hs' => ?_⟩
          · have hne : bOr .u32 (l2.getD (x - g.1).toNat 0) v2 ≠ l2.getD (x - g.1).toNat 0 := by
              intro e
              rw [e] at hch
              simp at hch
            obtain ⟨q1, q2⟩ := pops_or hl2 hsN hv2 hne
            refine hk7 _ true q1 (by omega) (fun _ => by omega) (fun h => (by cases h)) (fun A s hA hs' => ?_) (fun s hs' => ?_)
            · rw [getD_set' (by omega)]
              split
              · rename_i e; subst e; rw [bt_or (hl2.2 _ hsN) hv2, hs']; rfl
              · exact hs'
            · rw [getD_set' (by omega), if_pos rfl, bt_or (hl2.2 _ hsN) hv2, hs', Bool.or_true]
          · have heq : bOr .u32 (l2.getD (x - g.1).toNat 0) v2 = l2.getD (x - g.1).toNat 0 := by
              by_cases e : bOr .u32 (l2.getD (x - g.1).toNat 0) v2 = l2.getD (x - g.1).toNat 0
              · exact e
              · exfalso
                have : decide (bOr .u32 (l2.getD (x - g.1).toNat 0) v2 = l2.getD (x - g.1).toNat 0) = false := decide_eq_false e
                rw [this] at hsm
                cases hsm
            rw [← heq, bt_or (hl2.2 _ hsN) hv2, hs', Bool.or_true]
      · simp only [decide_eq_false_iff_not] at hb
        have hn0 : n = 0 := by omega
        subst hn0
        unfold VCo52_k9 VCo52_k10
        have hle := hi.le
        have hmono0 : ∀ (A s : Nat), A < g.2.1.toNat → bt (l0.getD A 0) s = true → bt (l2.getD A 0) s = true := fun A s hA hs' => hmono A s hA (hi.mono A s hA hs')
        have hdn2 := hdoneEx l2 hmono fun _ m hm hx s hs' => hdn m (by omega) hm hx s hs'
        refine ⟨fun h => hk5 true l2 hvl ⟨hl2, by omega, fun _ => ?_, fun h' => (by cases h'), hmono0, hdn2⟩, fun h => ?_⟩
        · have := hp2 (by simpa using h)
          omega
        · have hl2l : l2 = l := hsame (by simpa using h)
          refine hk5 gr2 l2 hvl ⟨hl2, by omega, fun h' => ?_, fun h' => ?_, hmono0, hdn2⟩
          · have := hi.more h'
            omega
          · rw [hl2l, hi.same h']
    · rw [hb0] at h
      cases h
    · exfalso
      rw [ha] at hrch
      have := (hreach a).2 hrch
      rw [ha, Int.toNat_natCast] at hb0
      rw [this] at hb0
      cases hb0
  · simp only [decide_eq_false_iff_not] at hb
    have ev : v = g.2.2.2.length := by omega
    subst ev
    unfold VCo52_k4
    refine hX _ ⟨hi.ok, fun h => ?_⟩ ?_
    · dsimp only at h
      have := hi.same h
      dsimp only
      intro j hj hr m hml hx s hs'
      rw [this] at hs'
      exact hi.done j hj hr m hml hx s hs'
    dsimp only
    have := pops_le l
    have h1 := pops_le l0
    have hlen := hi.ok.1
    have hlen0 := hl0.1
    rw [hlen] at this
    rw [hlen0] at h1
    have hle := hi.le
    rw [if_pos rfl]
    cases gr2 with
    | true =>
      have := hi.more rfl
      rw [if_pos rfl]
      omega
    | false =>
      rw [if_neg (by decide)]
      omega
structure SetsOk (g : Gr) (sv : Int) (first follow : List Int) : Prop where
  usv : U32 sv
  null : ∀ A : Nat, bt sv A = true ↔ Gn g.1 g.2.2.2 false (A : Int)
  ok1 : RowsOk g.2.1.toNat first
  ok2 : RowsOk g.2.1.toNat follow
  rank : Ranked g sv first
  clos : ∀ j, j < g.2.2.2.length → ∀ s : Nat, Beg g.1 sv first (rowJ g j) 0 s → bt (first.getD (leftJ g j).toNat 0) s = true
  fol : FolOk g sv first follow
theorem k1_of (hg : GoodG g) (hs : U32 sv) {K : Int × Int × Int × (List Rl) × Int × LI × LI → Prop} (hnull : ∀ A : Nat, bt sv A = true ↔ Gn g.1 g.2.2.2 false (A : Int))
    (h : ∀ l16 l19, SetsOk g sv l16 l19 → K (g.1, g.2.1, g.2.2.1, g.2.2.2, sv, l16, l19)) : VCo52_k1 g K sv := by
  have hk := hg.k
  have hN := hg.n
  have hst := hg.start
  have hfew := hg.few
  unfold VCo52_k1
  refine Loop.by (fun t : Bool × LI => RowsOk g.2.1.toNat t.2 ∧ Ranked g sv t.2 ∧ (t.1 = false → ∀ j, j < g.2.2.2.length → ∀ s : Nat, Beg g.1 sv t.2 (rowJ g j) 0 s → bt (t.2.getD (leftJ g j).toNat 0) s = true)) (fun t => 2 * (32 * g.2.1.toNat - pops t.2) + if t.1 = true then 1 else 0) ⟨rowsOk_zero _, ?_, fun h => (by cases h)⟩ ?_
  · refine ⟨fun _ _ => 0, fun A s hA hs => ?_⟩
    exfalso
    dsimp only at hs
    rw [show (List.replicate g.2.1.toNat (0 : Int)).getD A 0 = 0 by simp [List.getD_eq_getElem?_getD, List.getElem?_replicate, hA], bt_zero] at hs
    cases hs
  rintro ⟨grown, l0⟩ ⟨hl0, hrank, hclosed⟩ X hX
  dsimp only at hl0 hrank hclosed hX
  dsimp only
  unfold VCo52_l4
  refine ⟨fun hgr => ?_, fun hgr => k2_of hg hs hl0 fun l19 h19 hf => h l0 l19 ⟨hs, hnull, hl0, h19, hrank, hclosed hgr, hf⟩⟩
  subst hgr
  refine Loop.by (fun t : Bool × Int × LI => ∃ v : Nat, t.2.1 = (v : Int) ∧ v ≤ g.2.2.2.length ∧ FInv g sv l0 v t.1 t.2.2) (fun t => ((g.2.2.2.length : Int) - t.2.1).toNat) ⟨0, rfl, by omega, hl0, hrank, fun _ => rfl, fun h => (by cases h), fun A s _ h => h, by intro j hj; omega⟩ ?_
  rintro ⟨gr2, v', l⟩ ⟨v, e, hv, hi⟩ Y hY
  dsimp only at e hi hY
  subst e
  dsimp only
  unfold VCo52_l5
  refine ⟨fun hb => ?_, fun hb => ?_⟩
  · simp only [decide_eq_true_eq] at hb
    refine ⟨⟨by omega, by omega⟩, ?_⟩
    exact look_loop hg (show v < g.2.2.2.length by omega) hs hi.ok (k3 := VCo52_k13 g gr2 (v : Int) l Y) fun v4 v5 hu _ h4 => k13_of hg hi (by omega) hu h4 fun gr l' hi' => hY _ ⟨v + 1, by simp, by omega, hi'⟩ (by dsimp only; omega)
  · simp only [decide_eq_false_iff_not] at hb
    have ev : v = g.2.2.2.length := by omega
    subst ev
    unfold VCo52_k12
    refine hX _ ⟨hi.ok, hi.rank, fun h => ?_⟩ ?_
    · dsimp only at h
      have := hi.same h
      dsimp only
      have hd := hi.done
      rw [this] at hd ⊢
      exact hd
    · dsimp only
      have := pops_le l
      have h1 := pops_le l0
      have hlen := hi.ok.1
      have hlen0 := hl0.1
      rw [hlen] at this
      rw [hlen0] at h1
      rw [if_pos rfl]
      cases gr2 with
      | true =>
        have := hi.more rfl
        rw [if_pos rfl]
        omega
      | false =>
        have := hi.same rfl
        rw [this, if_neg (by decide)]
        omega
theorem VCo52_of (hg : GoodG g) {K : Int × Int × Int × (List Rl) × Int × LI × LI → Prop}
    (h : ∀ sv l16 l19, SetsOk g sv l16 l19 → K (g.1, g.2.1, g.2.2.1, g.2.2.2, sv, l16, l19)) : VCo52 g K := by
  have hN := hg.n
  have hroom : room g.2.1 := ⟨by omega, by omega⟩
  have h41 : ∀ {P : Int → Prop}, (∀ o, U32 o → (∀ A : Nat, bt o A = true ↔ Gn g.1 g.2.2.2 false (A : Int)) → P o) → VC41 g P := by
    intro P hP
    unfold VC41
    exact VC74_of hg fun o ho hb => hP o ho hb
  have hk1 : ∀ o, U32 o → (∀ A : Nat, bt o A = true ↔ Gn g.1 g.2.2.2 false (A : Int)) → VCo52_k1 g K o := fun o ho hb => k1_of hg ho hb fun l16 l19 h1 => h o l16 l19 h1
  unfold VCo52
  exact ⟨⟨hroom, ⟨hroom, h41 hk1⟩, h41 fun o ho hb => ⟨hroom, hk1 o ho hb⟩⟩, ⟨hroom, ⟨hroom, h41 hk1⟩, h41 fun o ho hb => ⟨hroom, hk1 o ho hb⟩⟩, h41 fun o ho hb => ⟨hroom, hroom, hk1 o ho hb⟩⟩
def LookS (g : Gr) (sv : Int) (first follow : List Int) (j s : Nat) : Prop := Beg g.1 sv first (rowJ g j) 0 s ∨ (AllNl g.1 sv (rowJ g j) 0 ∧ bt (follow.getD (leftJ g j).toNat 0) s = true)
def ClearS (g : Gr) (sv : Int) (first follow : List Int) : Prop := ∀ a b, a < b → b < g.2.2.2.length → leftJ g a = leftJ g b → ∀ s : Nat, ¬ (LookS g sv first follow a s ∧ LookS g sv first follow b s)
structure SeenInv (g : Gr) (sv : Int) (first follow : List Int) (v : Nat) (seen : List Int) : Prop where
  ok : RowsOk g.2.1.toNat seen
  bits : ∀ A s : Nat, A < g.2.1.toNat → (bt (seen.getD A 0) s = true ↔ ∃ j, j < v ∧ leftJ g j = (A : Int) ∧ LookS g sv first follow j s)
  apart : ∀ a b, a < b → b < v → leftJ g a = leftJ g b → ∀ s : Nat, ¬ (LookS g sv first follow a s ∧ LookS g sv first follow b s)
theorem seen_loop (hg : GoodG g) {first follow : LI} (hs : SetsOk g sv first follow) {Kt Kf : Prop}
    (ht : ClearS g sv first follow → Kt) (hff : Kf) : Loop (σ := Int × LI) (fun s X => SeenBody g.1 sv first follow g.2.2.2 Kt Kf s.1 s.2 X) ((0 : Int), List.replicate g.2.1.toNat (0 : Int)) := by
  have hN := hg.n
  have hfew := hg.few
  refine Loop.by (fun t : Int × LI => ∃ v : Nat, t.1 = (v : Int) ∧ v ≤ g.2.2.2.length ∧ SeenInv g sv first follow v t.2) (fun t => ((g.2.2.2.length : Int) - t.1).toNat) ⟨0, rfl, by omega, rowsOk_zero _, ?_, by intro a b _ hb; omega⟩ ?_
  · intro A s hA
    dsimp only
    rw [show (List.replicate g.2.1.toNat (0 : Int)).getD A 0 = 0 by simp [List.getD_eq_getElem?_getD, List.getElem?_replicate, hA], bt_zero]
    constructor
    · intro h; cases h
    · rintro ⟨j, hj, _⟩; omega
  rintro ⟨v', seen⟩ ⟨v, e, hv, hi⟩ X hX
  dsimp only at e hi hX
  subst e
  dsimp only
  unfold SeenBody
  simp only [Int.toNat_natCast]
  refine ⟨fun hb => ?_, fun hb => ht ?_⟩
  · simp only [decide_eq_true_eq] at hb
    have hvl : v < g.2.2.2.length := by omega
    have hmem : g.2.2.2.getD v (0, []) ∈ g.2.2.2 := getD_mem hvl
    have hleft := hg.left _ hmem
    refine ⟨⟨by omega, by omega⟩, look_loop hg hvl hs.usv hs.ok1 ?_⟩
    obtain ⟨a, ha⟩ : ∃ a : Nat, (g.2.2.2.getD v (0, [])).1 = (a : Int) := ⟨_, (Int.toNat_of_nonneg hleft.1).symm⟩
    have ha' : leftJ g v = (a : Int) := ha
    have haN : a < g.2.1.toNat := by omega
    have hlen := hi.ok.1
    have hlen2 := hs.ok2.1
    have hua := hi.ok.2 a haN
    have hk4 : ∀ out, U32 out → (∀ s : Nat, bt out s = true ↔ LookS g sv first follow v s) → SeenK4 g.2.2.2 Kf (v : Int) seen X out := by
      intro out hu hout
      unfold SeenK4
      simp only [Int.toNat_natCast]
      simp only [ha, Int.toNat_natCast]
      have hidx : inIdx (a : Int) seen.length := ⟨by omega, by omega⟩
      refine ⟨hidx, fun hov => hff, fun hno => ⟨hidx, hidx, by unfold InR; omega, hX _ ⟨v + 1, by simp, by omega, hi.ok.set haN (u32_or hua hu), fun A s hA => ?_, fun x y hxy hy hname s hh => ?_⟩ (by dsimp only; omega)⟩⟩
      · dsimp only
        rw [getD_set' (by omega)]
        split
        · rename_i eA
          subst eA
          rw [bt_or hua hu, Bool.or_eq_true, hi.bits _ s hA, hout s]
          constructor
          · rintro (⟨j, hj, h⟩ | h)
            · exact ⟨j, by omega, h⟩
            · exact ⟨v, by omega, ha, h⟩
          · rintro ⟨j, hj, h, h'⟩
            by_cases e : j = v
            · subst e; exact Or.inr h'
            · exact Or.inl ⟨j, by omega, h, h'⟩
        · rename_i eA
          rw [hi.bits A s hA]
          constructor
          · rintro ⟨j, hj, h⟩; exact ⟨j, by omega, h⟩
          · rintro ⟨j, hj, h, h'⟩
            refine ⟨j, ?_, h, h'⟩
            by_cases e : j = v
            · subst e; rw [ha'] at h; omega
            · omega
      · by_cases ey : y = v
        · subst ey
          have hz : bAnd .u32 (seen.getD a 0) out = 0 := by
            by_cases e : bAnd .u32 (seen.getD a 0) out = 0
            · exact e
            · exfalso
              rw [show decide (bAnd .u32 (seen.getD a 0) out = 0) = false from decide_eq_false e] at hno
              cases hno
          have h6 := (hi.bits a s haN).2 ⟨x, by omega, by rw [hname, ha'], hh.1⟩
          have h7 := (hout s).2 hh.2
          have hs32 : s < 32 := by
            refine Nat.lt_of_not_le fun hle => ?_
            rw [bt_ge hu hle] at h7
            cases h7
          have h5 := (u32_eq_zero (u32_and hua hu)).1 hz s hs32
          rw [bt_and hua hu, h6, h7] at h5
          cases h5
        · exact hi.apart x y hxy (by omega) hname s hh
    intro v4 v5 hu hp5 hp4
    unfold SeenK3
    simp only [Int.toNat_natCast]
    refine ⟨fun h => ⟨?_, hk4 _ (u32_or hu ?_) fun s => ?_⟩, fun h => hk4 _ hu fun s => ?_⟩
    · rw [ha]; exact ⟨by omega, by omega⟩
    · rw [ha, Int.toNat_natCast]; exact hs.ok2.2 _ haN
    · rw [bt_or hu (by rw [ha, Int.toNat_natCast]; exact hs.ok2.2 _ haN), Bool.or_eq_true, hp4 s]
      exact or_congr Iff.rfl ⟨fun h' => ⟨hp5.1 h, h'⟩, fun h' => h'.2⟩
    · rw [hp4 s]
      refine ⟨Or.inl, fun h' => h'.resolve_right fun h'' => ?_⟩
      rw [hp5.2 h''.1] at h
      cases h
  · simp only [decide_eq_false_iff_not] at hb
    have ev : v = g.2.2.2.length := by omega
    subst ev
    exact fun a b hab hbl hname s => hi.apart a b hab hbl hname s
end
end Dec
