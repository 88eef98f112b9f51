/-
  'LeastFew' in plain Lean: machines that take the same words have the same least machine.
-/
import Derived.Test.YtfigkkmiallghaaLeastC
import Derived.Test.YtfigkkmiallghaaApart
import Derived.Test.YtfigkkmiallghaaGenFa
set_option linter.unusedSimpArgs false
set_option linter.unusedVariables false
namespace Dec
open Go Go.Proofs

/-- no word parts a state of one from a state of the other -/
def XEq (a b : Mach) (x y : Int) : Prop := ∀ w, SymW a.2.1 w → accM a x w = accM b y w

structure Corr (a b : Mach) (la lb : List Int) : Prop where
  len : la.length = lb.length
  eq : ∀ j, j < la.length → XEq a b (la.getD j 0) (lb.getD j 0)

theorem rep_eq {m : Mach} {x y : Int} (hx : 0 ≤ x) (hy : 0 ≤ y) (rx : clI m x.toNat = x.toNat) (ry : clI m y.toNat = y.toNat) (h : EqM m x y) : x = y := by
  obtain ⟨_, _, h3⟩ := clI_spec m x.toNat
  obtain ⟨_, _, k3⟩ := clI_spec m y.toNat
  have ex : ((x.toNat : Nat) : Int) = x := by omega
  have ey : ((y.toNat : Nat) : Int) = y := by omega
  refine Classical.byContradiction fun hn => ?_
  rcases Nat.lt_or_gt_of_ne (show x.toNat ≠ y.toNat by omega) with hl | hl
  · exact k3 x.toNat (by omega) (by rw [ex, ey]; exact h.symm)
  · exact h3 y.toNat (by omega) (by rw [ex, ey]; exact h)

theorem findIdx_congr {f g : Int → Bool} : ∀ {la lb : List Int}, la.length = lb.length → (∀ j, j < la.length → f (la.getD j 0) = g (lb.getD j 0)) → la.findIdx? f = lb.findIdx? g
  | [], [], _, _ => rfl
  | x :: la, y :: lb, hl, h => by
    have h0 : f x = g y := h 0 (by simp)
    have ht := findIdx_congr (la := la) (lb := lb) (by simpa using hl) fun j hj => by
      have := h (j + 1) (by simp; omega)
      exact this
    rw [List.findIdx?_cons, List.findIdx?_cons, h0, ht]

theorem idxOf_congr {f g : Int → Bool} {la lb : List Int} (hl : la.length = lb.length) (h : ∀ j, j < la.length → f (la.getD j 0) = g (lb.getD j 0)) : idxOf f la = idxOf g lb := by
  unfold idxOf
  rw [findIdx_congr hl h]

theorem row_corr {a b : Mach} (ga : GoodM a) (gb : GoodM b) (hk : a.2.1 = b.2.1) {x y : Int} (hx : 0 ≤ x ∧ x < a.1) (hy : 0 ≤ y ∧ y < b.1) (hxy : XEq a b x y) {fa fb : List Int} (ha : FoundL a fa) (hb : FoundL b fb) (hc : Corr a b fa fb) :
    ∀ s : Nat, (s : Int) ≤ a.2.1 → (rowStep a (clM a) x s fa).2 = (rowStep b (clM b) y s fb).2 ∧ Corr a b (rowStep a (clM a) x s fa).1 (rowStep b (clM b) y s fb).1
  | 0, _ => ⟨rfl, hc⟩
  | s + 1, hs => by
    obtain ⟨ih1, ih2⟩ := row_corr ga gb hk hx hy hxy ha hb hc s (by omega)
    have ra := rowStep_ok ga hx ha s (by omega)
    have rb := rowStep_ok gb hy hb s (by omega)
    have ca := cl_good (m := a) (next_good ga hx (s := (s : Int)) ⟨by omega, by omega⟩)
    have cb := cl_good (m := b) (next_good gb hy (s := (s : Int)) ⟨by omega, by omega⟩)
    have hn : XEq a b (nextM a x (s : Int)) (nextM b y (s : Int)) := by
      intro w hw
      exact hxy ((s : Int) :: w) (fun z hz => by
        rw [List.mem_cons] at hz
        rcases hz with rfl | hz
        · exact ⟨by omega, by omega⟩
        · exact hw z hz)
    unfold rowStep
    try dsimp only
    generalize rowStep a (clM a) x s fa = A at *
    generalize rowStep b (clM b) y s fb = B at *
    generalize (clM a).getD (nextM a x (s : Int)).toNat 0 = cA at *
    generalize (clM b).getD (nextM b y (s : Int)).toNat 0 = cB at *
    have hcc : XEq a b cA cB := fun w hw => by
      rw [← ca.2.2 w hw, hn w hw]
      exact cb.2.2 w (by rw [← hk]; exact hw)
    have hidx : idxOf (fun z => decide (cA = z)) A.1 = idxOf (fun z => decide (cB = z)) B.1 := by
      refine idxOf_congr ih2.len fun j hj => ?_
      have h1 := ra.found.rep j hj
      have h2 := rb.found.rep j (by rw [← ih2.len]; exact hj)
      have h3 := ih2.eq j hj
      rw [decide_eq_decide]
      constructor
      · intro e
        refine rep_eq cb.1.1 h2.1.1 cb.2.1 h2.2 fun w hw => ?_
        rw [← hk] at hw
        rw [← hcc w hw, e, h3 w hw]
      · intro e
        refine rep_eq ca.1.1 h1.1.1 ca.2.1 h1.2 fun w hw => ?_
        rw [hcc w hw, e, h3 w hw]
    rw [hidx]
    by_cases hneg : idxOf (fun z => decide (cB = z)) B.1 < 0
    · simp only [if_pos hneg]
      refine ⟨by rw [ih1, ih2.len], by simp [ih2.len], fun j hj => ?_⟩
      simp only [List.length_append, List.length_cons, List.length_nil] at hj
      by_cases hj2 : j < A.1.length
      · rw [getD_app_left hj2, getD_app_left (by rw [← ih2.len]; exact hj2)]
        exact ih2.eq j hj2
      · have : j = A.1.length := by omega
        subst this
        have e1 : (A.1 ++ [cA]).getD A.1.length 0 = cA := by rw [getD_lt _ (by simp)]; simp
        have e2 : (B.1 ++ [cB]).getD A.1.length 0 = cB := by rw [ih2.len, getD_lt _ (by simp)]; simp
        rw [e1, e2]; exact hcc
    · simp only [if_neg hneg]
      exact ⟨by rw [ih1], ih2⟩

structure Corr3 (a b : Mach) (S T : LSt) : Prop where
  out : S.1 = T.1
  found : Corr a b S.2.1 T.2.1
  rows : S.2.2 = T.2.2

theorem step_corr {a b : Mach} (ga : GoodM a) (gb : GoodM b) (hk : a.2.1 = b.2.1) {i : Nat} {S T : LSt} (hS : LInv a i S) (hT : LInv b i T) (hi : i < S.2.1.length) (h : Corr3 a b S T) : Corr3 a b (stepL a (clM a) i S) (stepL b (clM b) i T) := by
  have hi2 : i < T.2.1.length := by rw [← h.found.len]; exact hi
  have hkn := ga.1.2.2.1
  have hx := (hS.found.rep i hi).1
  have hy := (hT.found.rep i hi2).1
  obtain ⟨k1, k2⟩ := row_corr ga gb hk hx hy (h.found.eq i hi) hS.found hT.found h.found a.2.1.toNat (by omega)
  have hka : b.2.1.toNat = a.2.1.toNat := by rw [hk]
  have hl : i < (rowStep a (clM a) (S.2.1.getD i 0) a.2.1.toNat S.2.1).1.length := by
    obtain ⟨l, hl⟩ := rowStep_pre a (clM a) (S.2.1.getD i 0) a.2.1.toNat S.2.1
    rw [hl]; simp; omega
  unfold stepL
  rw [hka]
  try dsimp only
  generalize rowStep a (clM a) (S.2.1.getD i 0) a.2.1.toNat S.2.1 = A at *
  generalize rowStep b (clM b) (T.2.1.getD i 0) a.2.1.toNat T.2.1 = B at *
  have hb : bt a.2.2.2.2 (A.1.getD i 0).toNat = bt b.2.2.2.2 (B.1.getD i 0).toNat := k2.eq i hl [] (fun z hz => by cases hz)
  refine ⟨?_, k2, ?_⟩
  · dsimp only
    rw [hb, h.out]
  · dsimp only
    rw [h.rows, k1]

theorem st_corr {a b : Mach} (ga : GoodM a) (gb : GoodM b) (hk : a.2.1 = b.2.1) (hal : Alike a b) : ∀ i, Corr3 a b (stL a (clM a) i) (stL b (clM b) i)
  | 0 => by
    have ca := cl_good (m := a) ga.2.2.2.1
    have cb := cl_good (m := b) gb.2.2.2.1
    refine ⟨rfl, ⟨by simp [stL], fun j hj => ?_⟩, rfl⟩
    have : j = 0 := by simp [stL] at hj; exact hj
    subst this
    intro w hw
    show accM a ((clM a).getD a.2.2.2.1.toNat 0) w = accM b ((clM b).getD b.2.2.2.1.toNat 0) w
    rw [← ca.2.2 w hw, hal w hw]
    exact cb.2.2 w (by rw [← hk]; exact hw)
  | i + 1 => by
    have ih := st_corr ga gb hk hal i
    have hS := stL_inv ga i
    have hT := stL_inv gb i
    rw [stL, stL]
    by_cases h : i < (stL a (clM a) i).2.1.length
    · have h2 : i < (stL b (clM b) i).2.1.length := by rw [← ih.found.len]; exact h
      rw [if_pos h, if_pos h2]
      rw [Nat.min_eq_left (Nat.le_of_lt h)] at hS
      rw [Nat.min_eq_left (Nat.le_of_lt h2)] at hT
      exact step_corr ga gb hk hS hT h ih
    · have h2 : ¬ i < (stL b (clM b) i).2.1.length := by rw [← ih.found.len]; exact h
      rw [if_neg h, if_neg h2]
      exact ih

theorem least_same {a b : Mach} (ga : GoodM a) (gb : GoodM b) (hk : a.2.1 = b.2.1) (hal : Alike a b) : leastF a = leastF b := by
  have h := st_corr ga gb hk hal 7
  rw [leastF_eq, leastF_eq]
  generalize stL a (clM a) 7 = S at h
  generalize stL b (clM b) 7 = T at h
  unfold mkL
  rw [h.out, h.rows, h.found.len, hk]

theorem VC68_of {a b : List Int} (hl : a.length ≤ 1000000) {K : Bool → Prop} (h : K (decide (a = b))) : VC68 a b K := by
  unfold VC68
  refine ⟨fun hne => ?_, fun heq => ?_⟩
  · have : a ≠ b := by
      intro e; subst e; simp at hne
    simpa [this] using h
  · have hlen : a.length = b.length := by
      simp only [Bool.not_eq_false', decide_eq_true_eq] at heq; omega
    refine loop_count a.length (fun i => ∀ j, j < i → a.getD j 0 = b.getD j 0) (fun j hj => absurd hj (by omega)) ?_
    intro i hi hP X hX
    unfold VC68_l1
    refine ⟨fun hlt => ?_, fun hge => ?_⟩
    · simp only [decide_eq_true_eq] at hlt
      simp only [Int.toNat_natCast]
      refine ⟨⟨by omega, by omega⟩, ⟨by omega, by omega⟩, fun hne => ?_, fun he => ⟨⟨by omega, by omega⟩, hX (by omega) fun j hj => ?_⟩⟩
      · have : a ≠ b := by
          intro e; subst e; simp at hne
        simpa [this] using h
      · by_cases hji : j < i
        · exact hP j hji
        · have : j = i := by omega
          subst this
          simpa [-List.getD_eq_getElem?_getD] using he
    · simp only [decide_eq_false_iff_not] at hge
      have : a = b := ext_getD 0 hlen fun j hj => hP j (by omega)
      unfold VC68_k1
      simpa [this] using h

theorem VC52_of {a b : List (List Int)} (hl : a.length ≤ 1000000) (hs : ∀ l ∈ a, l.length ≤ 1000000) {K : Bool → Prop} (h : K (decide (a = b))) : VC52 a b K := by
  unfold VC52
  refine ⟨fun hne => ?_, fun heq => ?_⟩
  · have : a ≠ b := by
      intro e; subst e; simp at hne
    simpa [this] using h
  · have hlen : a.length = b.length := by
      simp only [Bool.not_eq_false', decide_eq_true_eq] at heq; omega
    refine loop_count a.length (fun i => ∀ j, j < i → a.getD j [] = b.getD j []) (fun j hj => absurd hj (by omega)) ?_
    intro i hi hP X hX
    unfold VC52_l1
    refine ⟨fun hlt => ?_, fun hge => ?_⟩
    · simp only [decide_eq_true_eq] at hlt
      simp only [Int.toNat_natCast]
      refine ⟨⟨by omega, by omega⟩, ⟨by omega, by omega⟩, VC68_of (hs _ (getD_mem (by omega))) ⟨fun hne => ?_, fun he => ⟨⟨by omega, by omega⟩, hX (by omega) fun j hj => ?_⟩⟩⟩
      · have : a ≠ b := by
          intro e; subst e; simp at hne
        simpa [this] using h
      · by_cases hji : j < i
        · exact hP j hji
        · have : j = i := by omega
          subst this
          simpa [-List.getD_eq_getElem?_getD] using he
    · simp only [decide_eq_false_iff_not] at hge
      have : a = b := ext_getD [] hlen fun j hj => hP j (by omega)
      unfold VC52_k1
      simpa [this] using h

theorem VC28_of {a b : Mach} (ga : GoodM a) {K : Bool → Prop} (h : K (decide (a = b))) : VC28 a b K := by
  unfold VC28
  have hl := ga.2.1.1
  have h7 := ga.1.2.1
  have h3 := ga.1.2.2.2
  refine gcall_of (decide (a.2.2.1 = b.2.2.1)) (fun _ hk => VC52_of (by omega) (fun l hl' => by have := ga.2.1.2 l hl'; omega) hk) ?_
  obtain ⟨a1, a2, a3, a4, a5⟩ := a
  obtain ⟨b1, b2, b3, b4, b5⟩ := b
  dsimp only
  have e : decide ((a1, a2, a3, a4, a5) = (b1, b2, b3, b4, b5)) = (((((decide (a1 = b1)) && (decide (a2 = b2))) && (decide (a4 = b4))) && (decide (a5 = b5))) && (if ((((decide (a1 = b1)) && (decide (a2 = b2))) && (decide (a4 = b4))) && (decide (a5 = b5))) = true then decide (a3 = b3) else false)) := by
    by_cases e1 : a1 = b1 <;> by_cases e2 : a2 = b2 <;> by_cases e3 : a3 = b3 <;> by_cases e4 : a4 = b4 <;> by_cases e5 : a5 = b5 <;> simp [e1, e2, e3, e4, e5]
  rw [← e]
  exact h

theorem leastFew {a b : Mach} {w : List Int} (ha : Ok MachT a) (hb : Ok MachT b) : VC8 a b w (fun b => b = true) := by
  unfold VC8
  have bad : ¬ (GoodM a ∧ GoodM b) → ((!decide (chkM a = (0 : Int))) || (!decide ((if (!(!decide (chkM a = (0 : Int)))) then chkM b else 0) = (0 : Int)))) = true := by
    intro hno
    by_cases h1 : chkM a = 0
    · by_cases h2 : chkM b = 0
      · exact absurd ⟨(chkM_zero a).1 h1, (chkM_zero b).1 h2⟩ hno
      · simp [h1, h2]
    · simp [h1]
  refine VC25_of ha (fun e he hno => VC25_of hb (fun e2 he2 _ => VC26_of ha (gcall_of (chkM b) (fun _ hk => VC26_of hb hk) ?_)) (fun _ => VC26_of ha (gcall_of (chkM b) (fun _ hk => VC26_of hb hk) ?_))) (fun ga => VC25_of hb (fun e he hno => VC26_of ha (gcall_of (chkM b) (fun _ hk => VC26_of hb hk) ?_)) fun gb => VC26_of ha (gcall_of (chkM b) (fun _ hk => VC26_of hb hk) ?_))
  · rw [bad fun h => hno h.1]
    exact ⟨fun _ => (by simp [he]), fun hc => (by cases hc)⟩
  · rw [bad fun h => hno h.1]
    exact ⟨fun _ => (by simp [he]), fun hc => (by cases hc)⟩
  · rw [bad fun h => hno h.2]
    exact ⟨fun _ => (by simp [he]), fun hc => (by cases hc)⟩
  have hca := (chkM_zero a).2 ga
  have hcb := (chkM_zero b).2 gb
  have la := least_few ga
  have lb := least_few gb
  have gla := least_good ga
  have ola := least_ok ga
  have hka := least_k a
  have hsa := least_start a
  have hlang := fun w (hw : SymW a.2.1 w) => least_lang ga hw
  have hlangb := fun w (hw : SymW b.2.1 w) => least_lang gb hw
  have hsame : a.2.1 = b.2.1 → Alike a b → leastF a = leastF b := fun hk hal => least_same ga gb hk hal
  simp only [hca, hcb, decide_true, Bool.not_true, Bool.not_false, if_true, Bool.or_self]
  obtain ⟨x, hx⟩ : ∃ x, x = leastF a := ⟨_, rfl⟩
  obtain ⟨y, hy⟩ : ∃ y, y = leastF b := ⟨_, rfl⟩
  simp only [← hx, ← hy] at la lb gla ola hka hsa hlang hlangb hsame ⊢
  have tail : VC8_k1 a b (fun b => b = true) (x, 0) (y, 0) := by
    unfold VC8_k1
    refine VC27_of ha hb (fun hno e he => ⟨fun _ => (by simpa using he), fun hc => absurd ⟨ga, gb, by simpa using hc⟩ hno⟩) (fun _ _ hk w hw => ⟨fun hc => absurd hk (by simpa using hc), fun _ => ?_⟩) (fun _ _ hk hal => ⟨fun hc => absurd hk (by simpa using hc), fun _ => ?_⟩)
    · refine gcall_of (decide (x = y)) (fun _ hk' => VC28_of gla hk') ?_
      have : x ≠ y := by
        intro e
        refine hw.ne ?_
        rw [← hlang w hw.sym, e]
        exact hlangb w (by rw [← hk]; exact hw.sym)
      simp [this]
    · refine gcall_of (decide (x = y)) (fun _ hk' => VC28_of gla hk') ?_
      simp [hsame hk hal]
  refine ⟨fun hc => (by cases hc), fun _ => ⟨fun hc => ?_, fun _ => VC16_of ha ⟨fun hg => ?_, fun _ => tail⟩⟩⟩
  · exfalso
    simp only [Bool.false_or, Bool.or_eq_true, decide_eq_true_eq] at hc
    omega
  · obtain ⟨_, gw⟩ := goodB_true.1 hg
    have gwx : GoodW x.2.1 w := by rw [hka]; exact gw
    refine VC15_of ha (VC15_of ola ?_)
    rw [runR_good ga gw, runR_good gla gwx]
    have := hlang w gw.2
    unfold accM at this
    rw [hsa, this]
    exact ⟨fun hc => (by simp at hc), fun _ => tail⟩
end Dec
