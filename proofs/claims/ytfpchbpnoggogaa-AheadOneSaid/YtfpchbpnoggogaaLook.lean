/-
  ahead.make1 and ahead.Clear (plain).
-/
import Derived.Test.YtfpchbpnoggogaaCnt
set_option linter.unusedSimpArgs false
set_option linter.unusedVariables false
namespace Dec
open Go Go.Proofs Cfg

def RowsOk (N : Nat) (l : List Int) : Prop := l.length = N ∧ ∀ i, i < N → U32 (l.getD i 0)

noncomputable def pops (l : List Int) : Nat := (l.map popc).sum

theorem getD_set' {l : List Int} {i j : Nat} {v : Int} (hi : i < l.length) : (l.set i v).getD j 0 = if j = i then v else l.getD j 0 := by
  simp only [List.getD_eq_getElem?_getD, List.getElem?_set]
  by_cases e : j = i
  · subst e; simp [hi]
  · rw [if_neg (fun h => e h.symm), if_neg e]

theorem RowsOk.set {N : Nat} {l : List Int} (h : RowsOk N l) {i : Nat} (hi : i < N) {v : Int} (hv : U32 v) : RowsOk N (l.set i v) := by
  refine ⟨by rw [List.length_set]; exact h.1, fun j hj => ?_⟩
  rw [getD_set' (by rw [h.1]; exact hi)]
  split
  · exact hv
  · exact h.2 j hj

theorem rowsOk_zero (N : Nat) : RowsOk N (List.replicate N 0) := by
  refine ⟨by simp, fun i hi => ?_⟩
  simp [List.getD_eq_getElem?_getD, List.getElem?_replicate, hi, u32_zero]

theorem pops_set : ∀ (l : List Int) (i : Nat) (v : Int), i < l.length → pops (l.set i v) + popc (l.getD i 0) = pops l + popc v
  | [], i, v, h => by simp at h
  | x :: l, 0, v, h => by simp [pops]; omega
  | x :: l, i + 1, v, h => by
    have := pops_set l i v (by simpa using h)
    simp only [List.set_cons_succ, List.getD_cons_succ]
    unfold pops at this ⊢
    simp only [List.map_cons, List.sum_cons]
    omega

theorem pops_le : ∀ l : List Int, pops l ≤ 32 * l.length
  | [] => by simp [pops]
  | x :: l => by
    have := pops_le l
    have h := popc_le x
    unfold pops at this ⊢
    simp only [List.map_cons, List.sum_cons, List.length_cons]
    omega

/-- a word that takes new bits in -/
theorem pops_or {N : Nat} {l : List Int} (h : RowsOk N l) {i : Nat} (hi : i < N) {v : Int} (hv : U32 v) (hne : bOr .u32 (l.getD i 0) v ≠ l.getD i 0) : RowsOk N (l.set i (bOr .u32 (l.getD i 0) v)) ∧ pops l < pops (l.set i (bOr .u32 (l.getD i 0) v)) := by
  have hu := h.2 i hi
  refine ⟨h.set hi (u32_or hu hv), ?_⟩
  have h1 := pops_set l i (bOr .u32 (l.getD i 0) v) (by rw [h.1]; exact hi)
  have h2 := popc_lt hu (u32_or hu hv) (fun q hq => by rw [bt_or hu hv, hq]; rfl) hne
  omega

section
variable {g : Gr}

/-- what a rule's first sign gives, by sets -/
def Hb (K : Int) (l : List Int) (x : Int) (s : Nat) : Prop := (x < K → x = (s : Int)) ∧ (¬ x < K → bt (l.getD (x - K).toNat 0) s = true)

structure FInv (g : Gr) (l0 : List Int) (v : Nat) (grown : Bool) (l : List Int) : Prop where
  ok : RowsOk g.2.1.toNat l
  sound : Prop1 g.1 g.2.2.2 → ∀ (A s : Nat), A < g.2.1.toNat → bt (l.getD A 0) s = true → Fst g.1 g.2.2.2 (A : Int) (s : Int)
  same : grown = false → l = l0
  more : grown = true → pops l0 < pops l
  mono : ∀ (A s : Nat), A < g.2.1.toNat → bt (l0.getD A 0) s = true → bt (l.getD A 0) s = true
  done : Prop1 g.1 g.2.2.2 → ∀ j, j < v → ∀ x t, (g.2.2.2.getD j (0, [])).2 = x :: t → ∀ s : Nat, Hb g.1 l0 x s → bt (l.getD (g.2.2.2.getD j (0, [])).1.toNat 0) s = true

theorem FInv.hb {l0 l : List Int} {v : Nat} {grown : Bool} (hg : GoodG g) (h : FInv g l0 v grown l) {x : Int} (hx : x < g.1 + g.2.1) {s : Nat} (hh : Hb g.1 l0 x s) : Hb g.1 l x s :=
  ⟨hh.1, fun h1 => h.mono _ _ (by omega) (hh.2 h1)⟩

theorem k13_of (hg : GoodG g) {l0 l : List Int} {v : Nat} {grown : Bool} (hi : FInv g l0 v grown l) (hv : v < g.2.2.2.length) {v4 : Int} {v5 : Bool} (hu : U32 v4)
    (h4 : Prop1 g.1 g.2.2.2 → ∀ x t, (g.2.2.2.getD v (0, [])).2 = x :: t → ∀ s : Nat, bt v4 s = true ↔ Hb g.1 l x s) {X : Bool × Int × LI → Prop} (hX : ∀ gr l', FInv g l0 (v + 1) gr l' → X (gr, (v : Int) + 1, l')) : VCo52_k13 g grown (v : Int) l X v4 v5 := by
  have hmem : g.2.2.2.getD v (0, []) ∈ g.2.2.2 := getD_mem hv
  have hleft := hg.left _ hmem
  have hright := hg.right _ hmem
  have hfew := hg.few
  have hN := hg.n
  unfold VCo52_k13
  simp only [Int.toNat_natCast]
  obtain ⟨a, ha⟩ : ∃ a : Nat, (g.2.2.2.getD v (0, [])).1 = (a : Int) := ⟨_, (Int.toNat_of_nonneg hleft.1).symm⟩
  have haN : a < g.2.1.toNat := by omega
  have hlen := hi.ok.1
  have hua := hi.ok.2 a haN
  simp only [ha, Int.toNat_natCast]
  have hidx : inIdx (a : Int) l.length := ⟨by omega, by omega⟩
  have hdone : ∀ l' : List Int, (∀ (A s : Nat), A < g.2.1.toNat → bt (l.getD A 0) s = true → bt (l'.getD A 0) s = true) → (∀ s : Nat, bt v4 s = true → bt (l'.getD a 0) s = true) → Prop1 g.1 g.2.2.2 → ∀ j, j < v + 1 → ∀ x t, (g.2.2.2.getD j (0, [])).2 = x :: t → ∀ s : Nat, Hb g.1 l0 x s → bt (l'.getD (g.2.2.2.getD j (0, [])).1.toNat 0) s = true := by
    intro l' hm h5 hp j hj x t hx s hs
    by_cases e : j = v
    · subst e
      rw [ha, Int.toNat_natCast]
      exact h5 s ((h4 hp x t hx s).2 (hi.hb hg (hright x (by rw [hx]; exact List.mem_cons_self)).2 hs))
    · have hjl : g.2.2.2.getD j (0, []) ∈ g.2.2.2 := getD_mem (by omega)
      have := hg.left _ hjl
      exact hm _ s (by omega) (hi.done hp j (by omega) x t hx s hs)
  refine ⟨hidx, hidx, fun hch => ⟨hidx, hidx, ?_⟩, fun hsm => ?_⟩
  · have hne : bOr .u32 (l.getD a 0) v4 ≠ l.getD a 0 := by
      intro e
      rw [e] at hch
      simp at hch
    obtain ⟨p1, p2⟩ := pops_or hi.ok haN hu hne
    unfold VCo52_k14
    have hm : ∀ (A s : Nat), A < g.2.1.toNat → bt (l.getD A 0) s = true → bt ((l.set a (bOr .u32 (l.getD a 0) v4)).getD A 0) s = true := by
      intro A s hA hs
      rw [getD_set' (by omega)]
      split
      · rename_i e; subst e; rw [bt_or hua hu, hs]; rfl
      · exact hs
    refine ⟨by unfold InR; omega, hX _ _ ⟨p1, fun hp A s hA hs => ?_, fun h => (by cases h), fun _ => ?_, fun A s hA hs => hm A s hA (hi.mono A s hA hs), hdone _ hm ?_⟩⟩
    · rw [getD_set' (by omega)] at hs
      split at hs
      · rename_i e
        subst e
        rw [bt_or hua hu, Bool.or_eq_true] at hs
        rcases hs with hs | hs
        · exact hi.sound hp _ s hA hs
        · have hne := (hp _ hmem).1
          cases hr : (g.2.2.2.getD v (0, [])).2 with
          | nil => exact absurd hr hne
          | cons x t =>
            have hh := (h4 hp x t hr s).1 hs
            rw [← ha]
            refine Look.fst hmem ⟨x, t, hr, hh.1, fun hx => ?_⟩
            have h6 := hright x (by rw [hr]; exact List.mem_cons_self)
            have := hi.sound hp _ s (by omega) (hh.2 hx)
            rw [Int.toNat_of_nonneg (by omega)] at this
            exact this
      · exact hi.sound hp A s hA hs
    · cases grown with
      | true => have := hi.more rfl; omega
      | false => have := hi.same rfl; subst this; exact p2
    · intro s hs
      rw [getD_set' (by omega), if_pos rfl, bt_or hua hu, hs, Bool.or_true]
  · have heq : bOr .u32 (l.getD a 0) v4 = l.getD a 0 := by
      by_cases e : bOr .u32 (l.getD a 0) v4 = l.getD a 0
      · exact e
      · exfalso
        have : decide (bOr .u32 (l.getD a 0) v4 = l.getD a 0) = false := decide_eq_false e
        rw [this] at hsm
        cases hsm
    unfold VCo52_k14
    refine ⟨by unfold InR; omega, hX _ _ ⟨hi.ok, hi.sound, hi.same, hi.more, hi.mono, hdone _ (fun A s hA hs => hs) ?_⟩⟩
    intro s hs
    rw [← heq, bt_or hua hu, hs, Bool.or_true]

theorem fst_lt {K : Int} {R : Rules} {s : Int} : ∀ (n : Nat) (A : Int), FstN K R n A s → s < K
  | 0, _, h => False.elim h
  | n + 1, A, ⟨r, h1, h2, x, t, h3, h4, h5⟩ => by
    by_cases hx : x < K
    · rw [← h4 hx]; exact hx
    · exact fst_lt n _ (h5 hx)

/-- a closed row of sets holds all first signs -/
theorem fst_closed (hg : GoodG g) {l : List Int} (hc : ∀ j, j < g.2.2.2.length → ∀ x t, (g.2.2.2.getD j (0, [])).2 = x :: t → ∀ s : Nat, Hb g.1 l x s → bt (l.getD (g.2.2.2.getD j (0, [])).1.toNat 0) s = true) : ∀ (n : Nat) (A s : Int), FstN g.1 g.2.2.2 n A s → ∃ q : Nat, s = (q : Int) ∧ bt (l.getD A.toNat 0) q = true
  | 0, _, _, h => False.elim h
  | n + 1, A, s, ⟨r, h1, h2, x, t, h3, h4, h5⟩ => by
    obtain ⟨j, hj, ej⟩ := getD_of_mem h1
    have hr := hg.right r h1 x (by rw [h3]; exact List.mem_cons_self)
    have key : ∀ q : Nat, Hb g.1 l x q → bt (l.getD A.toNat 0) q = true := by
      intro q hq
      have := hc j hj x t (by rw [ej]; exact h3) q hq
      rw [ej, h2] at this
      exact this
    by_cases hx : x < g.1
    · refine ⟨s.toNat, by have := h4 hx; omega, key _ ⟨fun _ => by have := h4 hx; omega, fun h => absurd hx h⟩⟩
    · obtain ⟨q, e, hq⟩ := fst_closed hg hc n _ _ (h5 hx)
      exact ⟨q, e, key q ⟨fun h => absurd h hx, fun _ => hq⟩⟩
end
end Dec
namespace Dec
open Go Go.Proofs Cfg
section
variable {g : Gr}

theorem no_null (hp : Prop1 g.1 g.2.2.2) : ∀ A, ¬ Gn g.1 g.2.2.2 false A := by
  intro A h
  induction h with
  | mk A l h h1 h2 ih =>
    have hne := (hp _ h).1
    cases l with
    | nil => exact hne rfl
    | cons x t =>
      by_cases hx : x < g.1
      · have := h1 x List.mem_cons_self hx
        cases this
      · exact ih x List.mem_cons_self hx

/-- the words of a set of sets -/
def FirstOk (g : Gr) (l : List Int) : Prop := ∀ A s : Nat, A < g.2.1.toNat → (bt (l.getD A 0) s = true ↔ Fst g.1 g.2.2.2 (A : Int) (s : Int))

def NullOk (g : Gr) (sv : Int) : Prop := U32 sv ∧ (Prop1 g.1 g.2.2.2 → ∀ n, bt sv n = false)

structure FolInv (g : Gr) (l0 : List Int) (grown : Bool) (l : List Int) : Prop where
  ok : RowsOk g.2.1.toNat l
  le : pops l0 ≤ pops l
  more : grown = true → pops l0 < pops l

/-- the sets Follow: only that they end -/
theorem k2_of (hg : GoodG g) {sv : Int} (hs : NullOk g sv) {l16 : List Int} (hl : RowsOk g.2.1.toNat l16) {K : Int × Int × Int × (List Rl) × Int × LI × LI → Prop}
    (h : ∀ l19, RowsOk g.2.1.toNat l19 → K (g.1, g.2.1, g.2.2.1, g.2.2.2, sv, l16, l19)) : VCo52_k2 g K sv l16 := by
  have hk := hg.k
  have hN := hg.n
  have hst := hg.start
  have hfew := hg.few
  unfold VCo52_k2
  refine VC42_of hg fun rv hrv _ => ⟨by omega, ⟨by omega, by rw [List.length_replicate]; omega⟩, ?_⟩
  refine Loop.by (fun t : Bool × LI => RowsOk g.2.1.toNat t.2) (fun t => 2 * (32 * g.2.1.toNat - pops t.2) + if t.1 = true then 1 else 0) ((rowsOk_zero _).set (by omega) (u32_shl1 _)) ?_
  rintro ⟨grown, l0⟩ hl0 X hX
  dsimp only at hl0 hX
  dsimp only
  unfold VCo52_l1
  refine ⟨fun hgr => ?_, fun _ => h l0 hl0⟩
  subst hgr
  refine Loop.by (fun t : Bool × Int × LI => ∃ v : Nat, t.2.1 = (v : Int) ∧ v ≤ g.2.2.2.length ∧ FolInv g l0 t.1 t.2.2) (fun t => ((g.2.2.2.length : Int) - t.2.1).toNat) ⟨0, rfl, by omega, hl0, Nat.le_refl _, fun h => (by cases h)⟩ ?_
  rintro ⟨gr2, v', l⟩ ⟨v, e, hv, hi⟩ Y hY
  dsimp only at e hi hY
  subst e
  dsimp only
  have hk5 : ∀ (gr : Bool) (l' : List Int), v < g.2.2.2.length → FolInv g l0 gr l' → VCo52_k5 (v : Int) Y gr l' := by
    intro gr l' hlt hi'
    unfold VCo52_k5
    exact ⟨by unfold InR; omega, hY _ ⟨v + 1, by simp, by omega, hi'⟩ (by dsimp only; omega)⟩
  unfold VCo52_l2
  simp only [Int.toNat_natCast]
  refine ⟨fun hb => ?_, fun hb => ?_⟩
  · simp only [decide_eq_true_eq] at hb
    have hmem : g.2.2.2.getD v (0, []) ∈ g.2.2.2 := getD_mem (by omega)
    have hleft := hg.left _ hmem
    have hright := hg.right _ hmem
    have hshort := hg.short _ hmem
    obtain ⟨r, hr⟩ : ∃ r, g.2.2.2.getD v (0, []) = r := ⟨_, rfl⟩
    simp only [hr] at hmem hleft hright hshort ⊢
    have hlen := hi.ok.1
    refine ⟨⟨by omega, by omega⟩, VC47_of hrv hleft.1 ⟨fun hb1 => ⟨⟨by omega, by omega⟩, by unfold InR; omega, ?_⟩, fun hb0 => ⟨fun h => ?_, fun _ => hk5 gr2 l (by omega) hi⟩⟩⟩
    · rw [hb1]
      refine Loop.by (fun t : Int × LI × Bool × Int => ∃ n : Nat, t.1 = (n : Int) - 1 ∧ n ≤ r.2.length ∧ RowsOk g.2.1.toNat t.2.1 ∧ U32 t.2.2.2 ∧ pops l ≤ pops t.2.1 ∧ (t.2.2.1 = true → pops l < pops t.2.1)) (fun t => (t.1 + 1).toNat) ⟨r.2.length, rfl, Nat.le_refl _, hi.ok, hi.ok.2 _ (by omega), Nat.le_refl _, fun h => (by cases h)⟩ ?_
      rintro ⟨i', l2, gr3, v2⟩ ⟨n, e, hn, hl2, hv2, hp1, hp2⟩ Z hZ
      dsimp only at e hl2 hv2 hp1 hp2 hZ
      subst e
      dsimp only
      unfold VCo52_l3
      simp only [Int.toNat_natCast]
      simp only [hr]
      refine ⟨fun hb => ?_, fun hb => ?_⟩
      · simp only [decide_eq_true_eq] at hb
        obtain ⟨m, rfl⟩ : ∃ m, n = m + 1 := ⟨n - 1, by omega⟩
        have em : ((m + 1 : Nat) : Int) - 1 = (m : Int) := by omega
        have hZ' : ∀ (l' : List Int) (b : Bool) (v' : Int), RowsOk g.2.1.toNat l' → U32 v' → pops l ≤ pops l' → (b = true → pops l < pops l') → (InR (((m + 1 : Nat) : Int) - 1 - 1) ∧ Z (((m + 1 : Nat) : Int) - 1 - 1, l', b, v')) := by
          intro l' b v' h1 h2 h3 h4
          exact ⟨by unfold InR; omega, hZ _ ⟨m, by dsimp only; omega, by omega, h1, h2, h3, h4⟩ (by dsimp only; omega)⟩
        rw [em]
        rw [em] at hZ'
        simp only [Int.toNat_natCast]
        have hsr := hright (r.2.getD m 0) (getD_mem (by omega))
        obtain ⟨s, hs'⟩ : ∃ s, r.2.getD m 0 = s := ⟨_, rfl⟩
        rw [hs'] at hsr ⊢
        refine ⟨⟨by omega, by omega⟩, ?_⟩
        unfold VCo52_y1
        refine ⟨fun hlt => ⟨hsr.1, ?_⟩, fun hge => ?_⟩
        · unfold VCo52_k6
          exact hZ' l2 gr3 _ hl2 (u32_shl1 _) hp1 hp2
        · simp only [decide_eq_false_iff_not] at hge
          have hl2len := hl2.1
          have hsN : (s - g.1).toNat < g.2.1.toNat := by omega
          have hidx : inIdx (s - g.1) l2.length := ⟨by omega, by omega⟩
          have hidx6 : inIdx (s - g.1) l16.length := ⟨by omega, by have := hl.1; omega⟩
          have hk7 : ∀ (l' : List Int) (b : Bool), RowsOk g.2.1.toNat l' → pops l ≤ pops l' → (b = true → pops l < pops l') → VCo52_k7 g sv l16 s v2 (fun (yt17v : LI × Bool × Int) => (InR ((m : Int) - (1 : Int)) ∧ Z (((m : Int) - (1 : Int)), yt17v.1, yt17v.2.1, yt17v.2.2))) l' b := by
            intro l' b h1 h2 h3
            unfold VCo52_k7
            refine VC47_of hs.1 (by omega) ⟨fun _ => ⟨hidx6, ?_⟩, fun _ => ⟨hidx6, ?_⟩⟩
            · exact hZ' l' b _ h1 (u32_or hv2 (hl.2 _ hsN)) h2 h3
            · exact hZ' l' b _ h1 (hl.2 _ hsN) h2 h3
          refine ⟨by unfold InR; omega, hidx, hidx, fun hch => ⟨hidx, hidx, ?_⟩, fun _ => hk7 l2 gr3 hl2 hp1 hp2⟩
          have hne : bOr .u32 (l2.getD (s - g.1).toNat 0) v2 ≠ l2.getD (s - g.1).toNat 0 := by
            intro e
            rw [e] at hch
            simp at hch
          obtain ⟨q1, q2⟩ := pops_or hl2 hsN hv2 hne
          exact hk7 _ true q1 (by omega) (fun _ => by omega)
      · simp only [decide_eq_false_iff_not] at hb
        unfold VCo52_k9 VCo52_k10
        have hle := hi.le
        refine ⟨fun h => hk5 true l2 (by omega) ⟨hl2, by omega, fun _ => ?_⟩, fun h => hk5 gr2 l2 (by omega) ⟨hl2, by omega, fun h => ?_⟩⟩
        · have := hp2 (by simpa using h)
          omega
        · have := hi.more h
          omega
    · rw [hb0] at h
      cases h
  · simp only [decide_eq_false_iff_not] at hb
    unfold VCo52_k4
    refine hX _ hi.ok ?_
    dsimp only
    have := pops_le l
    have h1 := pops_le l0
    have hlen := hi.ok.1
    have hlen0 := hl0.1
    rw [hlen] at this
    rw [hlen0] at h1
    have hle := hi.le
    rw [if_pos rfl]
    cases gr2 with
    | true =>
      have := hi.more rfl
      rw [if_pos rfl]
      omega
    | false =>
      rw [if_neg (by decide)]
      omega

theorem k1_of (hg : GoodG g) {sv : Int} (hs : NullOk g sv) {K : Int × Int × Int × (List Rl) × Int × LI × LI → Prop}
    (h : ∀ l16 l19, RowsOk g.2.1.toNat l16 → RowsOk g.2.1.toNat l19 → (Prop1 g.1 g.2.2.2 → FirstOk g l16) → K (g.1, g.2.1, g.2.2.1, g.2.2.2, sv, l16, l19)) : VCo52_k1 g K sv := by
  have hk := hg.k
  have hN := hg.n
  have hst := hg.start
  have hfew := hg.few
  unfold VCo52_k1
  refine Loop.by (fun t : Bool × LI => RowsOk g.2.1.toNat t.2 ∧ (Prop1 g.1 g.2.2.2 → ∀ (A s : Nat), A < g.2.1.toNat → bt (t.2.getD A 0) s = true → Fst g.1 g.2.2.2 (A : Int) (s : Int)) ∧ (t.1 = false → Prop1 g.1 g.2.2.2 → ∀ j, j < g.2.2.2.length → ∀ x t', (g.2.2.2.getD j (0, [])).2 = x :: t' → ∀ s : Nat, Hb g.1 t.2 x s → bt (t.2.getD (g.2.2.2.getD j (0, [])).1.toNat 0) s = true)) (fun t => 2 * (32 * g.2.1.toNat - pops t.2) + if t.1 = true then 1 else 0) ⟨rowsOk_zero _, ?_, fun h => (by cases h)⟩ ?_
  · intro _ A s hA hs
    exfalso
    dsimp only at hs
    rw [show (List.replicate g.2.1.toNat (0 : Int)).getD A 0 = 0 by simp [List.getD_eq_getElem?_getD, List.getElem?_replicate, hA], bt_zero] at hs
    cases hs
  rintro ⟨grown, l0⟩ ⟨hl0, hsound, hclosed⟩ X hX
  dsimp only at hl0 hsound hclosed hX
  dsimp only
  unfold VCo52_l4
  refine ⟨fun hgr => ?_, fun hgr => k2_of hg hs hl0 fun l19 h19 => h l0 l19 hl0 h19 fun hp A s hA => ⟨hsound hp A s hA, ?_⟩⟩
  · subst hgr
    refine Loop.by (fun t : Bool × Int × LI => ∃ v : Nat, t.2.1 = (v : Int) ∧ v ≤ g.2.2.2.length ∧ FInv g l0 v t.1 t.2.2) (fun t => ((g.2.2.2.length : Int) - t.2.1).toNat) ⟨0, rfl, by omega, hl0, hsound, fun _ => rfl, fun h => (by cases h), fun A s _ h => h, by intro hp j hj; omega⟩ ?_
    rintro ⟨gr2, v', l⟩ ⟨v, e, hv, hi⟩ Y hY
    dsimp only at e hi hY
    subst e
    dsimp only
    unfold VCo52_l5
    refine ⟨fun hb => ?_, fun hb => ?_⟩
    · simp only [decide_eq_true_eq] at hb
      have hmem : g.2.2.2.getD v (0, []) ∈ g.2.2.2 := getD_mem (by omega)
      have hleft := hg.left _ hmem
      have hright := hg.right _ hmem
      have hshort := hg.short _ hmem
      have hne := fun hp : Prop1 g.1 g.2.2.2 => (hp _ hmem).1
      have hlen := hi.ok.1
      refine ⟨⟨by omega, by omega⟩, ?_⟩
      have hk13 : ∀ (v4 : Int) (v5 : Bool), U32 v4 → (Prop1 g.1 g.2.2.2 → ∀ x t, (g.2.2.2.getD v (0, [])).2 = x :: t → ∀ s : Nat, bt v4 s = true ↔ Hb g.1 l x s) → VCo52_k13 g gr2 (v : Int) l Y v4 v5 := by
        intro v4 v5 hu h4
        exact k13_of hg hi (by omega) hu h4 fun gr l' hi' => hY _ ⟨v + 1, by simp, by omega, hi'⟩ (by dsimp only; omega)
      refine Loop.by (fun t : Int × Int => ∃ n : Nat, t.2 = (n : Int) ∧ n ≤ (g.2.2.2.getD v (0, [])).2.length ∧ U32 t.1 ∧ (Prop1 g.1 g.2.2.2 → n = 0 ∧ t.1 = 0)) (fun t => (((g.2.2.2.getD v (0, [])).2.length : Int) - t.2).toNat) ⟨0, rfl, by omega, u32_zero, fun _ => ⟨rfl, rfl⟩⟩ ?_
      rintro ⟨out, n'⟩ ⟨n, e, hn, hu, hz⟩ Z hZ
      dsimp only at e hu hz hZ
      subst e
      dsimp only
      unfold VCo52_l6
      simp only [Int.toNat_natCast]
      refine ⟨fun hb => ?_, fun hb => ?_⟩
      · simp only [decide_eq_true_eq] at hb
        have hsr := hright ((g.2.2.2.getD v (0, [])).2.getD n 0) (getD_mem (by omega))
        have hx : ∀ x t, (g.2.2.2.getD v (0, [])).2 = x :: t → n = 0 → (g.2.2.2.getD v (0, [])).2.getD n 0 = x := by
          intro x t h1 h2
          rw [h1, h2]; rfl
        obtain ⟨s, hs'⟩ : ∃ s, (g.2.2.2.getD v (0, [])).2.getD n 0 = s := ⟨_, rfl⟩
        simp only [hs'] at hsr hx ⊢
        refine ⟨⟨by omega, by omega⟩, fun hlt => ⟨hsr.1, hk13 _ _ (u32_or hu (u32_shl1 _)) ?_⟩, fun hge => ?_⟩
        · simp only [decide_eq_true_eq] at hlt
          intro hp x t hxt q
          obtain ⟨e1, e2⟩ := hz hp
          have e3 := hx x t hxt e1
          subst e3
          rw [e2]
          obtain ⟨a, rfl⟩ : ∃ a : Nat, s = (a : Int) := ⟨s.toNat, by omega⟩
          rw [bt_or1 u32_zero (by omega), bt_zero]
          simp only [Bool.false_or, decide_eq_true_eq]
          constructor
          · intro e; exact ⟨fun _ => by omega, fun h => absurd hlt h⟩
          · intro hh; have := hh.1 hlt; omega
        · simp only [decide_eq_false_iff_not] at hge
          have hsN : (s - g.1).toNat < g.2.1.toNat := by omega
          refine ⟨by unfold InR; omega, ⟨by omega, by omega⟩, by unfold InR; omega, VC47_of hs.1 (by omega) ⟨fun hnn => hk13 _ _ (u32_or hu (hi.ok.2 _ hsN)) ?_, fun hnn => ⟨by unfold InR; omega, hZ _ ⟨n + 1, by simp, by omega, u32_or hu (hi.ok.2 _ hsN), fun hp => ?_⟩ (by dsimp only; omega)⟩⟩⟩
          · intro hp x t hxt q
            obtain ⟨e1, e2⟩ := hz hp
            have e3 := hx x t hxt e1
            subst e3
            rw [e2, bt_or u32_zero (hi.ok.2 _ hsN), bt_zero, Bool.false_or]
            exact ⟨fun h => ⟨fun h' => absurd h' hge, fun _ => h⟩, fun h => h.2 hge⟩
          · have := hs.2 hp (s - g.1).toNat
            rw [this] at hnn
            cases hnn
      · simp only [decide_eq_false_iff_not] at hb
        unfold VCo52_k15
        refine hk13 _ _ hu ?_
        intro hp x t hxt
        obtain ⟨e1, e2⟩ := hz hp
        rw [hxt] at hb
        simp only [List.length_cons] at hb
        omega
    · simp only [decide_eq_false_iff_not] at hb
      have ev : v = g.2.2.2.length := by omega
      subst ev
      unfold VCo52_k12
      refine hX _ ⟨hi.ok, hi.sound, fun h => ?_⟩ ?_
      · dsimp only at h
        have := hi.same h
        dsimp only
        intro hp
        have hd := hi.done hp
        rw [this] at hd ⊢
        exact hd
      · dsimp only
        have := pops_le l
        have h1 := pops_le l0
        have hlen := hi.ok.1
        have hlen0 := hl0.1
        rw [hlen] at this
        rw [hlen0] at h1
        rw [if_pos rfl]
        cases gr2 with
        | true =>
          have := hi.more rfl
          rw [if_pos rfl]
          omega
        | false =>
          have := hi.same rfl
          rw [this, if_neg (by decide)]
          omega
  · rintro ⟨n, hn⟩
    obtain ⟨q, e, hq⟩ := fst_closed hg (hclosed hgr hp) n _ _ hn
    have : s = q := by omega
    subst this
    rw [Int.toNat_natCast] at hq
    exact hq

theorem VCo52_of (hg : GoodG g) {K : Int × Int × Int × (List Rl) × Int × LI × LI → Prop}
    (h : ∀ sv l16 l19, NullOk g sv → RowsOk g.2.1.toNat l16 → RowsOk g.2.1.toNat l19 → (Prop1 g.1 g.2.2.2 → FirstOk g l16) → K (g.1, g.2.1, g.2.2.1, g.2.2.2, sv, l16, l19)) : VCo52 g K := by
  have hN := hg.n
  have hroom : room g.2.1 := ⟨by omega, by omega⟩
  have h41 : ∀ {P : Int → Prop}, (∀ o, NullOk g o → P o) → VC41 g P := by
    intro P hP
    unfold VC41
    refine VC74_of hg fun o ho hb => hP o ⟨ho, fun hp n => ?_⟩
    cases hbn : bt o n with
    | false => rfl
    | true => exact absurd ((hb n).1 hbn) (no_null hp _)
  have hk1 : ∀ o, NullOk g o → VCo52_k1 g K o := fun o ho => k1_of hg ho fun l16 l19 h1 h2 h3 => h o l16 l19 ho h1 h2 h3
  unfold VCo52
  exact ⟨⟨hroom, ⟨hroom, h41 hk1⟩, h41 fun o ho => ⟨hroom, hk1 o ho⟩⟩, ⟨hroom, ⟨hroom, h41 hk1⟩, h41 fun o ho => ⟨hroom, hk1 o ho⟩⟩, h41 fun o ho => ⟨hroom, hroom, hk1 o ho⟩⟩
end
end Dec
namespace Dec
open Go Go.Proofs Cfg

def LookBody (k : Int) (sv : Int) (first : LI) (row : LI) (k3 : Int → Bool → Prop) (out : Int) (v11 : Int) (X2 : Int × Int → Prop) : Prop :=
  (((decide (v11 < (row.length : Int))) = true → (inIdx v11 row.length ∧ (((decide ((row.getD (v11).toNat (0 : Int)) < k)) = true → (0 ≤ (row.getD (v11).toNat (0 : Int)) ∧ k3 (bOr .u32 out (bShl .u32 (1 : Int) (row.getD (v11).toNat (0 : Int)))) false)) ∧ ((decide ((row.getD (v11).toNat (0 : Int)) < k)) = false → (InR ((row.getD (v11).toNat (0 : Int)) - k) ∧ inIdx ((row.getD (v11).toNat (0 : Int)) - k) first.length ∧ (InR ((row.getD (v11).toNat (0 : Int)) - k) ∧ VC47 sv ((row.getD (v11).toNat (0 : Int)) - k) (fun (ret52v : Bool) => (((!ret52v) = true → k3 (bOr .u32 out (first.getD ((((row.getD (v11).toNat (0 : Int)) - k)).toNat) (0 : Int))) false) ∧ ((!ret52v) = false → (InR (v11 + (1 : Int)) ∧ X2 ((bOr .u32 out (first.getD ((((row.getD (v11).toNat (0 : Int)) - k)).toNat) (0 : Int))), (v11 + (1 : Int))))))))))))) ∧ ((decide (v11 < (row.length : Int))) = false → k3 out true))

def SeenK4 (R : List Rl) (Kf : Prop) (v19 : Int) (seen : LI) (X1 : Int × LI → Prop) (out : Int) : Prop :=
  (inIdx ((R.getD (v19).toNat ((0 : Int), ([] : LI))).1) seen.length ∧ (((!decide ((bAnd .u32 (seen.getD (((R.getD (v19).toNat ((0 : Int), ([] : LI))).1).toNat) (0 : Int)) out) = (0 : Int))) = true → Kf) ∧ ((!decide ((bAnd .u32 (seen.getD (((R.getD (v19).toNat ((0 : Int), ([] : LI))).1).toNat) (0 : Int)) out) = (0 : Int))) = false → (inIdx ((R.getD (v19).toNat ((0 : Int), ([] : LI))).1) seen.length ∧ inIdx ((R.getD (v19).toNat ((0 : Int), ([] : LI))).1) seen.length ∧ (InR (v19 + (1 : Int)) ∧ X1 ((v19 + (1 : Int)), (seen.set (((R.getD (v19).toNat ((0 : Int), ([] : LI))).1).toNat) (bOr .u32 (seen.getD (((R.getD (v19).toNat ((0 : Int), ([] : LI))).1).toNat) (0 : Int)) out))))))))

def SeenK3 (R : List Rl) (follow : LI) (Kf : Prop) (v19 : Int) (seen : LI) (X1 : Int × LI → Prop) (v4 : Int) (v5 : Bool) : Prop :=
  ((v5 = true → (inIdx ((R.getD (v19).toNat ((0 : Int), ([] : LI))).1) follow.length ∧ SeenK4 R Kf v19 seen X1 (bOr .u32 v4 (follow.getD (((R.getD (v19).toNat ((0 : Int), ([] : LI))).1).toNat) (0 : Int))))) ∧ (v5 = false → SeenK4 R Kf v19 seen X1 v4))

def SeenBody (k sv : Int) (first follow : LI) (R : List Rl) (Kt Kf : Prop) (v19 : Int) (seen : LI) (X1 : Int × LI → Prop) : Prop :=
  (((decide (v19 < (R.length : Int))) = true → (inIdx v19 R.length ∧ Loop (σ := Int × Int) (fun s X => LookBody k sv first ((R.getD (v19).toNat ((0 : Int), ([] : LI))).2) (SeenK3 R follow Kf v19 seen X1) s.1 s.2 X) ((0 : Int), (0 : Int)))) ∧ ((decide (v19 < (R.length : Int))) = false → Kt))

section
variable {g : Gr}

theorem look_nat (hg : GoodG g) {j : Nat} (hj : j < g.2.2.2.length) {l : List Int} (hf : Prop1 g.1 g.2.2.2) {s : Int} (h : Look g.1 g.2.2.2 (g.2.2.2.getD j (0, [])) s) : 0 ≤ s ∧ s < g.1 := by
  have hn : ∀ (n : Nat) (A : Int), FstN g.1 g.2.2.2 n A s → 0 ≤ s ∧ s < g.1 := by
    intro n
    induction n with
    | zero => intro A h; exact False.elim h
    | succ n ih =>
      rintro A ⟨r, h1, h2, x, t, h3, h4, h5⟩
      by_cases hx : x < g.1
      · have := hg.right r h1 x (by rw [h3]; exact List.mem_cons_self)
        have := h4 hx
        omega
      · exact ih _ (h5 hx)
  obtain ⟨n, h1⟩ := Look.fst (mem_getD hj) h
  exact hn n _ h1

theorem look_loop (hg : GoodG g) {v : Nat} (hv : v < g.2.2.2.length) {sv : Int} (hs : NullOk g sv) {first : LI} (h1 : RowsOk g.2.1.toNat first) (hf : Prop1 g.1 g.2.2.2 → FirstOk g first) {k3 : Int → Bool → Prop}
    (hk : ∀ v4 v5, U32 v4 → (Prop1 g.1 g.2.2.2 → v5 = false ∧ ∀ s : Nat, bt v4 s = true ↔ Look g.1 g.2.2.2 (g.2.2.2.getD v (0, [])) (s : Int)) → k3 v4 v5) : Loop (σ := Int × Int) (fun s X => LookBody g.1 sv first ((g.2.2.2.getD v ((0 : Int), ([] : LI))).2) k3 s.1 s.2 X) ((0 : Int), (0 : Int)) := by
  have hK := hg.k
  have hN := hg.n
  have hmem : g.2.2.2.getD v (0, []) ∈ g.2.2.2 := getD_mem hv
  have hright := hg.right _ hmem
  have hshort := hg.short _ hmem
  refine Loop.by (fun t : Int × Int => ∃ n : Nat, t.2 = (n : Int) ∧ n ≤ (g.2.2.2.getD v (0, [])).2.length ∧ U32 t.1 ∧ (Prop1 g.1 g.2.2.2 → n = 0 ∧ t.1 = 0)) (fun t => (((g.2.2.2.getD v (0, [])).2.length : Int) - t.2).toNat) ⟨0, rfl, by omega, u32_zero, fun _ => ⟨rfl, rfl⟩⟩ ?_
  rintro ⟨out, n'⟩ ⟨n, e, hn, hu, hz⟩ Z hZ
  dsimp only at e hu hz hZ
  subst e
  dsimp only
  unfold LookBody
  simp only [Int.toNat_natCast]
  refine ⟨fun hb => ?_, fun hb => ?_⟩
  · simp only [decide_eq_true_eq] at hb
    have hsr := hright ((g.2.2.2.getD v (0, [])).2.getD n 0) (getD_mem (by omega))
    have hx : Prop1 g.1 g.2.2.2 → ∃ t, (g.2.2.2.getD v (0, [])).2 = (g.2.2.2.getD v (0, [])).2.getD n 0 :: t ∧ n = 0 ∧ out = 0 := by
      intro hp
      obtain ⟨e1, e2⟩ := hz hp
      cases hr : (g.2.2.2.getD v (0, [])).2 with
      | nil => exact absurd hr (hp _ hmem).1
      | cons x t => exact ⟨t, by rw [e1]; rfl, e1, e2⟩
    obtain ⟨s, hs'⟩ : ∃ s, (g.2.2.2.getD v (0, [])).2.getD n 0 = s := ⟨_, rfl⟩
    simp only [hs'] at hsr hx ⊢
    refine ⟨⟨by omega, by omega⟩, fun hlt => ⟨hsr.1, hk _ _ (u32_or hu (u32_shl1 _)) ?_⟩, fun hge => ?_⟩
    · simp only [decide_eq_true_eq] at hlt
      intro hp
      obtain ⟨t, hxt, e1, e2⟩ := hx hp
      refine ⟨rfl, fun q => ?_⟩
      rw [e2]
      obtain ⟨a, rfl⟩ : ∃ a : Nat, s = (a : Int) := ⟨s.toNat, by omega⟩
      rw [bt_or1 u32_zero (by omega), bt_zero]
      simp only [Bool.false_or, decide_eq_true_eq]
      constructor
      · intro e; exact ⟨_, t, hxt, fun _ => by omega, fun h => absurd hlt h⟩
      · rintro ⟨x, t', h1, h2, h3⟩
        rw [hxt] at h1
        cases h1
        have := h2 hlt
        omega
    · simp only [decide_eq_false_iff_not] at hge
      have hsN : (s - g.1).toNat < g.2.1.toNat := by omega
      have hlen := h1.1
      refine ⟨by unfold InR; omega, ⟨by omega, by omega⟩, by unfold InR; omega, VC47_of hs.1 (by omega) ⟨fun hnn => hk _ _ (u32_or hu (h1.2 _ hsN)) ?_, fun hnn => ⟨by unfold InR; omega, hZ _ ⟨n + 1, by simp, by omega, u32_or hu (h1.2 _ hsN), fun hp => ?_⟩ (by dsimp only; omega)⟩⟩⟩
      · intro hp
        obtain ⟨t, hxt, e1, e2⟩ := hx hp
        refine ⟨rfl, fun q => ?_⟩
        rw [e2, bt_or u32_zero (h1.2 _ hsN), bt_zero, Bool.false_or, hf hp _ q hsN, show (((s - g.1).toNat : Nat) : Int) = s - g.1 by omega]
        constructor
        · intro h; exact ⟨_, t, hxt, fun h' => absurd h' hge, fun _ => h⟩
        · rintro ⟨x, t', h1, h2, h3⟩
          rw [hxt] at h1
          cases h1
          exact h3 hge
      · have := hs.2 hp (s - g.1).toNat
        rw [this] at hnn
        cases hnn
  · simp only [decide_eq_false_iff_not] at hb
    refine hk _ _ hu fun hp => ?_
    obtain ⟨e1, e2⟩ := hz hp
    exfalso
    cases hr : (g.2.2.2.getD v (0, [])).2 with
    | nil => exact absurd hr (hp _ hmem).1
    | cons x t =>
      rw [hr] at hb
      simp only [List.length_cons] at hb
      omega

structure SeenInv (g : Gr) (v : Nat) (seen : List Int) : Prop where
  ok : RowsOk g.2.1.toNat seen
  bits : Prop1 g.1 g.2.2.2 → ∀ A s : Nat, A < g.2.1.toNat → (bt (seen.getD A 0) s = true ↔ ∃ j, j < v ∧ (g.2.2.2.getD j (0, [])).1 = (A : Int) ∧ Look g.1 g.2.2.2 (g.2.2.2.getD j (0, [])) (s : Int))
  apart : Prop1 g.1 g.2.2.2 → ∀ a b, a < b → b < v → (g.2.2.2.getD a (0, [])).1 = (g.2.2.2.getD b (0, [])).1 → ∀ s, ¬ (Look g.1 g.2.2.2 (g.2.2.2.getD a (0, [])) s ∧ Look g.1 g.2.2.2 (g.2.2.2.getD b (0, [])) s)

theorem seen_loop (hg : GoodG g) {sv : Int} (hs : NullOk g sv) {first follow : LI} (h1 : RowsOk g.2.1.toNat first) (h2 : RowsOk g.2.1.toNat follow) (hf : Prop1 g.1 g.2.2.2 → FirstOk g first) {Kt Kf : Prop}
    (ht : (Prop1 g.1 g.2.2.2 → ClG g) → Kt) (hff : (Prop1 g.1 g.2.2.2 → ¬ ClG g) → Kf) : Loop (σ := Int × LI) (fun s X => SeenBody g.1 sv first follow g.2.2.2 Kt Kf s.1 s.2 X) ((0 : Int), List.replicate g.2.1.toNat (0 : Int)) := by
  have hN := hg.n
  have hfew := hg.few
  refine Loop.by (fun t : Int × LI => ∃ v : Nat, t.1 = (v : Int) ∧ v ≤ g.2.2.2.length ∧ SeenInv g v t.2) (fun t => ((g.2.2.2.length : Int) - t.1).toNat) ⟨0, rfl, by omega, rowsOk_zero _, ?_, by intro _ a b _ hb; omega⟩ ?_
  · intro _ A s hA
    dsimp only
    rw [show (List.replicate g.2.1.toNat (0 : Int)).getD A 0 = 0 by simp [List.getD_eq_getElem?_getD, List.getElem?_replicate, hA], bt_zero]
    constructor
    · intro h; cases h
    · rintro ⟨j, hj, _⟩; omega
  rintro ⟨v', seen⟩ ⟨v, e, hv, hi⟩ X hX
  dsimp only at e hi hX
  subst e
  dsimp only
  unfold SeenBody
  simp only [Int.toNat_natCast]
  refine ⟨fun hb => ?_, fun hb => ht fun hp => ?_⟩
  · simp only [decide_eq_true_eq] at hb
    have hvl : v < g.2.2.2.length := by omega
    have hmem : g.2.2.2.getD v (0, []) ∈ g.2.2.2 := getD_mem hvl
    have hleft := hg.left _ hmem
    refine ⟨⟨by omega, by omega⟩, look_loop hg hvl hs h1 hf ?_⟩
    obtain ⟨a, ha⟩ : ∃ a : Nat, (g.2.2.2.getD v (0, [])).1 = (a : Int) := ⟨_, (Int.toNat_of_nonneg hleft.1).symm⟩
    have haN : a < g.2.1.toNat := by omega
    have hlen := hi.ok.1
    have hlen2 := h2.1
    have hua := hi.ok.2 a haN
    have hk4 : ∀ out, U32 out → (Prop1 g.1 g.2.2.2 → ∀ s : Nat, bt out s = true ↔ Look g.1 g.2.2.2 (g.2.2.2.getD v (0, [])) (s : Int)) → SeenK4 g.2.2.2 Kf (v : Int) seen X out := by
      intro out hu hout
      unfold SeenK4
      simp only [Int.toNat_natCast]
      simp only [ha, Int.toNat_natCast]
      have hidx : inIdx (a : Int) seen.length := ⟨by omega, by omega⟩
      refine ⟨hidx, fun hov => hff fun hp hc => ?_, fun hno => ⟨hidx, hidx, by unfold InR; omega, hX _ ⟨v + 1, by simp, by omega, hi.ok.set haN (u32_or hua hu), fun hp A s hA => ?_, fun hp x y hxy hy hname s hh => ?_⟩ (by dsimp only; omega)⟩⟩
      · have hne : bAnd .u32 (seen.getD a 0) out ≠ 0 := by
          intro e
          rw [e] at hov
          simp at hov
        apply hne
        rw [u32_eq_zero (u32_and hua hu)]
        intro s _
        cases hbs : bt (bAnd .u32 (seen.getD a 0) out) s with
        | false => rfl
        | true =>
          exfalso
          rw [bt_and hua hu, Bool.and_eq_true] at hbs
          obtain ⟨j, hj, hjn, hjl⟩ := (hi.bits hp a s haN).1 hbs.1
          exact hc j v hj hvl (by rw [hjn, ha]) _ ⟨hjl, (hout hp s).1 hbs.2⟩
      · dsimp only
        rw [getD_set' (by omega)]
        split
        · rename_i eA
          subst eA
          rw [bt_or hua hu, Bool.or_eq_true, hi.bits hp _ s hA, hout hp s]
          constructor
          · rintro (⟨j, hj, h⟩ | h)
            · exact ⟨j, by omega, h⟩
            · exact ⟨v, by omega, ha, h⟩
          · rintro ⟨j, hj, h, h'⟩
            by_cases e : j = v
            · subst e; exact Or.inr h'
            · exact Or.inl ⟨j, by omega, h, h'⟩
        · rename_i eA
          rw [hi.bits hp A s hA]
          constructor
          · rintro ⟨j, hj, h⟩; exact ⟨j, by omega, h⟩
          · rintro ⟨j, hj, h, h'⟩
            refine ⟨j, ?_, h, h'⟩
            by_cases e : j = v
            · subst e; rw [ha] at h; omega
            · omega
      · by_cases ey : y = v
        · subst ey
          have hsn := look_nat hg hvl (l := []) hp hh.2
          have hz : bAnd .u32 (seen.getD a 0) out = 0 := by
            by_cases e : bAnd .u32 (seen.getD a 0) out = 0
            · exact e
            · exfalso
              rw [show decide (bAnd .u32 (seen.getD a 0) out = 0) = false from decide_eq_false e] at hno
              cases hno
          have h5 := (u32_eq_zero (u32_and hua hu)).1 hz s.toNat (by have := hg.k; omega)
          rw [bt_and hua hu] at h5
          have h6 := (hi.bits hp a s.toNat haN).2 ⟨x, by omega, by rw [hname, ha], by rw [Int.toNat_of_nonneg hsn.1]; exact hh.1⟩
          have h7 := (hout hp s.toNat).2 (by rw [Int.toNat_of_nonneg hsn.1]; exact hh.2)
          rw [h6, h7] at h5
          cases h5
        · exact hi.apart hp x y hxy (by omega) hname s hh
    intro v4 v5 hu hp4
    unfold SeenK3
    simp only [Int.toNat_natCast]
    refine ⟨fun h => ⟨?_, hk4 _ (u32_or hu ?_) fun hp => ?_⟩, fun h => hk4 _ hu fun hp => (hp4 hp).2⟩
    · rw [ha]; exact ⟨by omega, by omega⟩
    · rw [ha, Int.toNat_natCast]; exact h2.2 _ haN
    · have := (hp4 hp).1
      rw [this] at h
      cases h
  · simp only [decide_eq_false_iff_not] at hb
    have ev : v = g.2.2.2.length := by omega
    subst ev
    exact fun a b hab hbl hname s => hi.apart hp a b hab hbl hname s

theorem VC26_of {K : Bool × Int → Prop} (hbad : ∀ e, e ≠ 0 → ¬ GoodG g → K (false, e)) (h : GoodG g → ∀ b : Bool, (Prop1 g.1 g.2.2.2 → (b = true ↔ ClG g)) → K (b, 0)) : VC26 g K := by
  unfold VC26
  refine VC51_of (fun e he hng => ⟨fun _ => hbad e he hng, fun h0 => ?_⟩) (fun hg => ⟨fun h0 => ?_, fun _ => ?_⟩)
  · simp at h0; exact absurd h0 he
  · simp at h0
  have hN := hg.n
  refine VCo52_of hg fun sv l16 l19 hs h1 h2 hf => ⟨⟨by dsimp only; omega, by dsimp only; omega⟩, ?_⟩
  exact seen_loop hg hs h1 h2 hf (Kt := VC26_k2 K) (Kf := VC26_k1 K false) (fun hc => h hg true fun hp => ⟨fun _ => hc hp, fun _ => rfl⟩) (fun hc => h hg false fun hp => ⟨fun h => (by cases h), fun h => absurd h (hc hp)⟩)
end
end Dec
