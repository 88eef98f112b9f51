/-
The minimal machine of a sentence: the plain contract of after.Sure.
-/
import Derived.Test.YtckghdhnmpnljaaRefi
import Derived.Test.YtckghdhnmpnljaaCanon
set_option linter.unusedSimpArgs false
set_option linter.unusedVariables false
namespace Dec
open Go Go.Proofs Rex Gly
theorem idx_any2 (f : Int → Bool) (l : List Int) : (idxOf f l < 0 ∧ ∀ j, j < l.length → f (l.getD j 0) = false) ∨ ∃ n : Nat, idxOf f l = (n : Int) ∧ n < l.length ∧ f (l.getD n 0) = true := by
  unfold idxOf
  cases h : l.findIdx? f with
  | none =>
    refine .inl ⟨by simp, fun j hj => ?_⟩
    rw [List.findIdx?_eq_none_iff] at h
    exact h _ (getD_mem hj)
  | some n =>
    rw [List.findIdx?_eq_some_iff_getElem] at h
    obtain ⟨h1, h2, _⟩ := h
    exact .inr ⟨n, rfl, h1, by rw [getD_lt _ h1]; exact h2⟩
theorem VC55_of {s : List Int} {F : Int → (Bool → Prop) → Prop} {K : Int → Prop} (f : Int → Bool) (hl : s.length ≤ 4611686018427387904) (hF : ∀ x ∈ s, ∀ K' : Bool → Prop, K' (f x) → F x K') (h : K (idxOf f s)) : VC55 s F K :=
  VCidx_of (d := (0 : Int)) f hl hF h
structure FndC (n : Nat) (cl : LI) (fd : LI) : Prop where
  pos : 1 ≤ fd.length ∧ fd.getD 0 0 = 0
  st : ∀ p, p < fd.length → ∃ x : Nat, x < n ∧ fd.getD p 0 = (x : Int)
  dist : ∀ p q, p < q → q < fd.length → cl.getD (fd.getD p 0).toNat 0 ≠ cl.getD (fd.getD q 0).toNat 0
theorem FndC.few {n m : Nat} {cl fd : LI} (h : FndC n cl fd) (hc : Cls n cl m) : fd.length ≤ m := by
  have val : ∀ p, p < fd.length → ∃ v, v < m ∧ cl.getD (fd.getD p 0).toNat 0 = (v : Int) := fun p hp => by
    obtain ⟨x, h1, h2⟩ := h.st p hp
    rw [h2, Int.toNat_natCast]
    exact hc.val x h1
  refine pigeon m fd.length (fun p => (cl.getD (fd.getD p 0).toNat 0).toNat) (fun p hp => ?_) (fun p q hpq hq e => ?_)
  · obtain ⟨v, h1, h2⟩ := val p hp
    show (cl.getD (fd.getD p 0).toNat 0).toNat < m
    omega
  · obtain ⟨v, h1, h2⟩ := val p (by omega)
    obtain ⟨u, h3, h4⟩ := val q hq
    have e' : (cl.getD (fd.getD p 0).toNat 0).toNat = (cl.getD (fd.getD q 0).toNat 0).toNat := e
    exact h.dist p q hpq hq (by omega)
def RowC (L : LM) (cl fd : LI) (x : Nat) (row : LI) (s : Nat) : Prop := ∀ u, u < s → ∃ p, p < fd.length ∧ row.getD u 0 = (p : Int) ∧ cl.getD (fd.getD p 0).toNat 0 = cl.getD (nxL L x (u : Int)) 0
theorem RowC.more {L : LM} {cl fd e : LI} {x : Nat} {row : LI} {s : Nat} (h : RowC L cl fd x row s) : RowC L cl (fd ++ e) x row s := fun u hu => by
  obtain ⟨p, h1, h2, h3⟩ := h u hu
  exact ⟨p, by rw [List.length_append]; omega, h2, by rw [getD_app h1]; exact h3⟩
theorem FndC.more {n : Nat} {cl fd : LI} (h : FndC n cl fd) {x : Nat} (hx : x < n) (hno : ∀ p, p < fd.length → cl.getD (fd.getD p 0).toNat 0 ≠ cl.getD x 0) : FndC n cl (fd ++ [(x : Int)]) := by
  refine ⟨⟨by simp, by rw [getD_app h.pos.1]; exact h.pos.2⟩, fun p hp => ?_, fun p q hpq hq => ?_⟩
  · rw [List.length_append, List.length_singleton] at hp
    by_cases h1 : p < fd.length
    · rw [getD_app h1]; exact h.st p h1
    · have : p = fd.length := by omega
      subst this
      exact ⟨x, hx, getD_last⟩
  · rw [List.length_append, List.length_singleton] at hq
    rw [getD_app (by omega)]
    by_cases h1 : q < fd.length
    · rw [getD_app h1]; exact h.dist p q hpq h1
    · have : q = fd.length := by omega
      subst this
      rw [getD_last, Int.toNat_natCast]
      exact hno p (by omega)
structure SurI (k : Int) (L : LM) (cl : LI) (i : Nat) (out : Int) (fd : LI) (nx : LL) : Prop where
  fnd : FndC L.2.length cl fd
  le : i ≤ fd.length
  len : nx.length = i
  row : ∀ j, j < i → (nx.getD j []).length = k.toNat ∧ RowC L cl fd (fd.getD j 0).toNat (nx.getD j []) k.toNat
  u32 : U32 out
  bit : ∀ j, bt out j = (decide (j < i) && decide (fnL L (fd.getD j 0).toNat = 1))
  can : FRows nx fd.length
structure SureOk (k : Int) (l : List Nd) (M : Mach) : Prop where
  good : GoodM M
  u32 : U32 M.2.2.2.2
  sym : M.2.1 = k
  start : M.2.2.2.1 = 0
  own : leastF M = M
  lang : ∀ w, SymW k w → (accM M 0 w = true ↔ Mat l w (l.length - 1) 0 w.length)
theorem sure_end {k : Int} {l : List Nd} {L : LM} {cl : LI} {m : Nat} {out : Int} {fd : LI} {nx : LL} (hk : 1 ≤ k ∧ k ≤ 3) (hL : Dfa k L) (hlang : ∀ w, SyW k w → (fnL L (runL L 0 w) = 1 ↔ Mat l w (l.length - 1) 0 w.length))
    (hc : Cls L.2.length cl m) (heq : ∀ i j, i < L.2.length → j < L.2.length → (cl.getD i 0 = cl.getD j 0 ↔ EqL k L i j)) (hm : m ≤ 7) (h : SurI k L cl fd.length out fd nx) : SureOk k l ((m : Int), (k, (nx, ((0 : Int), out)))) := by
  have hpos := h.fnd.pos
  have hfew := h.fnd.few hc
  have hn := hL.few
  have hnl := h.len
  -- every state's class is found
  have all : ∀ w, SyW k w → ∃ p, p < fd.length ∧ cl.getD (fd.getD p 0).toNat 0 = cl.getD (runL L 0 w) 0 := by
    intro w
    refine snoc_ind (P := fun w => SyW k w → ∃ p, p < fd.length ∧ cl.getD (fd.getD p 0).toNat 0 = cl.getD (runL L 0 w) 0) ?_ ?_ _ w rfl
    · exact fun _ => ⟨0, by omega, by rw [hpos.2]; rfl⟩
    · intro w c ih hw
      obtain ⟨p, p1, p2⟩ := ih fun x hx => hw x (List.mem_append_left _ hx)
      have hcc := hw c (by simp)
      obtain ⟨x, x1, x2⟩ := h.fnd.st p p1
      obtain ⟨q, q1, _, q2⟩ := (h.row p p1).2 c.toNat (by omega)
      refine ⟨q, q1, ?_⟩
      rw [q2, show ((c.toNat : Nat) : Int) = c by omega, runL_app]
      rw [x2, Int.toNat_natCast] at p2 ⊢
      have hrun := hL.run (w := w) (i := 0) (by omega) fun x hx => hw x (List.mem_append_left _ hx)
      have he := (heq x _ x1 hrun).1 p2
      exact (heq _ _ (hL.nx x1 hcc).1 (hL.nx hrun hcc).1).2 (he.next hcc)
  have hmf : m ≤ fd.length := by
    have pick : ∀ v, ∃ p, v < m → (p < fd.length ∧ cl.getD (fd.getD p 0).toNat 0 = (v : Int)) := fun v => by
      by_cases hv : v < m
      · obtain ⟨i, i1, i2⟩ := hc.all v hv
        obtain ⟨w, w1, w2⟩ := hL.reach i i1
        obtain ⟨p, p1, p2⟩ := all w w1
        exact ⟨p, fun _ => ⟨p1, by rw [p2, w2]; exact i2⟩⟩
      · exact ⟨0, fun h => absurd h hv⟩
    refine pigeon fd.length m (fun v => (pick v).choose) (fun v hv => ((pick v).choose_spec hv).1) (fun u v huv hv e => ?_)
    have h1 := ((pick u).choose_spec (by omega)).2
    have h2 := ((pick v).choose_spec hv).2
    rw [e, h2] at h1
    omega
  have hme : m = fd.length := by omega
  subst hme
  have hg : GoodM (((fd.length : Nat) : Int), (k, (nx, ((0 : Int), out)))) := by
    refine ⟨⟨by simp only; omega, by simp only; omega, hk.1, hk.2⟩, ⟨by simp only; omega, fun r hr => ?_⟩, fun r hr x hx => ?_, ⟨by simp only; omega, by simp only; omega⟩, ?_⟩
    · obtain ⟨j, hj, rfl⟩ := List.mem_iff_getElem.1 hr
      have hj' : j < nx.length := hj
      rw [← getD_lt ([] : List Int) hj]
      have := (h.row j (by omega)).1
      simp only
      omega
    · obtain ⟨j, hj, rfl⟩ := List.mem_iff_getElem.1 hr
      have hj' : j < nx.length := hj
      have hx : x ∈ nx[j] := hx
      rw [← getD_lt ([] : List Int) hj'] at hx
      obtain ⟨u, hu, rfl⟩ := List.mem_iff_getElem.1 hx
      rw [← getD_lt (0 : Int) hu]
      obtain ⟨r1, r2⟩ := h.row j (by omega)
      obtain ⟨p, p1, p2, _⟩ := r2 u (by omega)
      simp only
      omega
    · show out < ((2 ^ ((fd.length : Nat) : Int).toNat : Nat) : Int)
      rw [Int.toNat_natCast]
      refine (below_bt h.u32).2 fun i hi => ?_
      rw [h.bit]
      simp; omega
  have step : ∀ (p : Nat) (c : Int), p < fd.length → 0 ≤ c ∧ c < k → ∃ q : Nat, q < fd.length ∧ nextM (((fd.length : Nat) : Int), (k, (nx, ((0 : Int), out)))) (p : Int) c = (q : Int) ∧ EqL k L (fd.getD q 0).toNat (nxL L (fd.getD p 0).toNat c) := by
    intro p c hp hcc
    obtain ⟨q, q1, q2, q3⟩ := (h.row p hp).2 c.toNat (by omega)
    obtain ⟨x, x1, x2⟩ := h.fnd.st p hp
    obtain ⟨y, y1, y2⟩ := h.fnd.st q q1
    refine ⟨q, q1, ?_, ?_⟩
    · unfold nextM
      simp only [Int.toNat_natCast]
      exact q2
    · rw [show ((c.toNat : Nat) : Int) = c by omega] at q3
      rw [x2, Int.toNat_natCast] at q3 ⊢
      rw [y2, Int.toNat_natCast] at q3 ⊢
      exact (heq _ _ y1 (hL.nx x1 hcc).1).1 q3
  have acc : ∀ (w : List Int) (p : Nat), p < fd.length → SymW k w → (accM (((fd.length : Nat) : Int), (k, (nx, ((0 : Int), out)))) (p : Int) w = true ↔ fnL L (runL L (fd.getD p 0).toNat w) = 1) := by
    intro w
    induction w with
    | nil =>
      intro p hp _
      unfold accM runM
      show bt out ((p : Int)).toNat = true ↔ fnL L (fd.getD p 0).toNat = 1
      rw [Int.toNat_natCast, h.bit]
      simp [hp, -List.getD_eq_getElem?_getD]
    | cons c w ih =>
      intro p hp hw
      have hcc := hw c List.mem_cons_self
      have hw' : SymW k w := fun x hx => hw x (List.mem_cons_of_mem _ hx)
      obtain ⟨q, q1, q2, q3⟩ := step p c hp hcc
      have e : accM (((fd.length : Nat) : Int), (k, (nx, ((0 : Int), out)))) (p : Int) (c :: w) = accM (((fd.length : Nat) : Int), (k, (nx, ((0 : Int), out)))) (q : Int) w := by
        unfold accM runM
        rw [List.foldl_cons, q2]
      rw [e, ih q q1 hw', runL_cons, q3 w hw']
  have hap : Apart (((fd.length : Nat) : Int), (k, (nx, ((0 : Int), out)))) := by
    intro i j hi hj he
    have hi' : i < fd.length := by simp only at hi; omega
    have hj' : j < fd.length := by simp only at hj; omega
    obtain ⟨x, x1, x2⟩ := h.fnd.st i hi'
    obtain ⟨y, y1, y2⟩ := h.fnd.st j hj'
    have hE : EqL k L x y := by
      intro w hw
      have e1 := he w hw
      have a1 := acc w i hi' hw
      have a2 := acc w j hj' hw
      rw [e1, a2, x2, y2, Int.toNat_natCast, Int.toNat_natCast] at a1
      have f1 := hL.fin _ (hL.run x1 hw)
      have f2 := hL.fin _ (hL.run y1 hw)
      unfold fnL at a1 ⊢
      omega
    have hcl := (heq x y x1 y1).2 hE
    rcases Nat.lt_trichotomy i j with hij | hij | hij
    · exact absurd (by rw [x2, y2]; simpa using hcl) (h.fnd.dist i j hij hj')
    · exact hij
    · exact absurd (by rw [x2, y2]; simpa using hcl.symm) (h.fnd.dist j i hij hi')
  refine ⟨hg, h.u32, rfl, rfl, canon_least hg h.u32 hap rfl ?_, fun w hw => ?_⟩
  · simp only [Int.toNat_natCast]
    exact h.can
  · have := acc w 0 (by omega) hw
    rw [hpos.2] at this
    exact this.trans (hlang w hw)
theorem sure_big {k : Int} {l : List Nd} {L : LM} {cl : LI} {m : Nat} (hL : Dfa k L) (hlang : ∀ w, SyW k w → (fnL L (runL L 0 w) = 1 ↔ Mat l w (l.length - 1) 0 w.length))
    (hc : Cls L.2.length cl m) (heq : ∀ i j, i < L.2.length → j < L.2.length → (cl.getD i 0 = cl.getD j 0 ↔ EqL k L i j)) (hm : 7 < m) {M : Mach} (g : GoodM M) (hk : M.2.1 = k) (hM : ∀ w, SymW k w → (accM M M.2.2.2.1 w = true ↔ Mat l w (l.length - 1) 0 w.length)) : False := by
  have hn := hL.few
  have gd := g.2.2.2.1
  unfold mD at gd
  have gA := g.1
  unfold mA at gA
  have pick : ∀ v, ∃ w, v < m → (SyW k w ∧ cl.getD (runL L 0 w) 0 = (v : Int)) := fun v => by
    by_cases hv : v < m
    · obtain ⟨i, i1, i2⟩ := hc.all v hv
      obtain ⟨w, w1, w2⟩ := hL.reach i i1
      exact ⟨w, fun _ => ⟨w1, by rw [w2]; exact i2⟩⟩
    · exact ⟨[], fun h => absurd h hv⟩
  obtain ⟨wd, hwd⟩ : ∃ wd : Nat → List Int, ∀ v, v < m → (SyW k (wd v) ∧ cl.getD (runL L 0 (wd v)) 0 = (v : Int)) := ⟨fun v => (pick v).choose, fun v => (pick v).choose_spec⟩
  have run : ∀ v, v < m → 0 ≤ runM M M.2.2.2.1 (wd v) ∧ runM M M.2.2.2.1 (wd v) < M.1 := fun v hv => run_good g gd fun x hx => by rw [hk]; exact (hwd v hv).1 x hx
  have := pigeon M.1.toNat m (fun v => (runM M M.2.2.2.1 (wd v)).toNat) (fun v hv => by have := run v hv; show (runM M M.2.2.2.1 (wd v)).toNat < _; omega) (fun u v huv hv e => by
    have ru := run u (by omega)
    have rv := run v hv
    have e' : (runM M M.2.2.2.1 (wd u)).toNat = (runM M M.2.2.2.1 (wd v)).toNat := e
    have er : runM M M.2.2.2.1 (wd u) = runM M M.2.2.2.1 (wd v) := by omega
    obtain ⟨su, cu⟩ := hwd u (by omega)
    obtain ⟨sv, cv⟩ := hwd v hv
    have hE : EqL k L (runL L 0 (wd u)) (runL L 0 (wd v)) := by
      intro z hz
      have app : ∀ y, SyW k y → SyW k (y ++ z) := fun y hy x hx => by
        rcases List.mem_append.1 hx with hx | hx
        · exact hy x hx
        · exact hz x hx
      have h1 := hlang _ (app _ su)
      have h2 := hlang _ (app _ sv)
      have h3 := hM _ (app _ su)
      have h4 := hM _ (app _ sv)
      have ea : accM M M.2.2.2.1 (wd u ++ z) = accM M M.2.2.2.1 (wd v ++ z) := by
        unfold accM
        rw [runM_append, runM_append, er]
      rw [← h3, ea, h4, ← h2, runL_app, runL_app] at h1
      have f1 := hL.fin _ (hL.run (hL.run (w := wd u) (i := 0) (by omega) su) hz)
      have f2 := hL.fin _ (hL.run (hL.run (w := wd v) (i := 0) (by omega) sv) hz)
      unfold fnL at h1 ⊢
      omega
    have := (heq _ _ (hL.run (w := wd u) (i := 0) (by omega) su) (hL.run (w := wd v) (i := 0) (by omega) sv)).2 hE
    omega)
  omega
theorem VC28_of {k : Int} {l : List Nd} {K : Mach × Int → Prop} (hbad : ∀ e, e ≠ 0 → ¬ Good k l → K (((0 : Int), ((0 : Int), (([] : LL), ((0 : Int), (0 : Int))))), e))
    (hbig : Good k l → (∀ M : Mach, GoodM M → M.2.1 = k → ¬ ∀ w, SymW k w → (accM M M.2.2.2.1 w = true ↔ Mat l w (l.length - 1) 0 w.length)) → K (((0 : Int), ((0 : Int), (([] : LL), ((0 : Int), (0 : Int))))), 1))
    (h : Good k l → ∀ M, SureOk k l M → K (M, 0)) : VC28 k l K := by
  unfold VC28
  refine VC45_of (fun e he hno => ⟨fun _ => hbad e he hno, fun hc => absurd (by simpa using hc) he⟩) (fun hg => ⟨fun hc => by simp at hc, fun _ => ?_⟩)
  have hk := hg.sym
  refine VC52_of hg fun A sets L hA hLr => ?_
  obtain ⟨hL, hlang⟩ := lrg_dfa hk.1 hA hLr
  refine VC53_of hk hL fun cl m hc heq => ?_
  have hn := hL.few
  have hml := hc.le
  refine ⟨fun hb => ?_, fun hb => ?_⟩
  · simp only [decide_eq_true_eq] at hb
    exact hbig hg fun M g hMk hM => sure_big hL hlang hc heq (by omega) g hMk hM
  · simp only [decide_eq_false_iff_not] at hb
    have hm7 : m ≤ 7 := by omega
    refine Loop.by (fun x : Int × Int × LI × LL => ∃ i : Nat, x.1 = (i : Int) ∧ SurI k L cl i x.2.1 x.2.2.1 x.2.2.2) (fun x => (8 - x.1).toNat) ⟨0, rfl, ⟨⟨by simp, rfl⟩, fun p hp => ?_, fun p q hpq hq => ?_⟩, by simp, rfl, fun j hj => by omega, u32_zero, fun j => ?_, .nil⟩ ?_
    · have : p = 0 := by simp only [List.length_singleton] at hp; omega
      subst this
      exact ⟨0, by omega, rfl⟩
    · simp only [List.length_singleton] at hq
      omega
    · simp [bt_zero]
    rintro ⟨c, out, fd, nx⟩ ⟨i, rfl, hI⟩ X hX
    simp only at hI ⊢
    have hfew := hI.fnd.few hc
    have hile := hI.le
    unfold VC28_l1
    refine ⟨fun hb2 => ?_, fun hb2 => ?_⟩
    · simp only [decide_eq_true_eq] at hb2
      have hil : i < fd.length := by omega
      obtain ⟨x, x1, x2⟩ := hI.fnd.st i hil
      refine ⟨⟨by omega, by omega⟩, ?_⟩
      refine loopI k.toNat (fun s (y : LI × LI) => FndC L.2.length cl y.1 ∧ (∃ e, y.1 = fd ++ e) ∧ y.2.length = k.toNat ∧ RowC L cl y.1 x y.2 s ∧ FRow fd.length (y.2.take s) y.1.length) ⟨hI.fnd, ⟨[], by simp⟩, by simp, fun u hu => by omega, by simp [FRow]⟩ ?_
      rintro s hs ⟨fd2, row⟩ ⟨hF, ⟨e, he⟩, hrl, hrc, hfr⟩ Y hY
      simp only at hF he hrl hrc hfr ⊢
      have hfew2 := hF.few hc
      have hle2 : fd.length ≤ fd2.length := by rw [he, List.length_append]; omega
      have hgi : fd2.getD i 0 = (x : Int) := by rw [he, getD_app hil]; exact x2
      unfold VC28_l2
      simp only [List.length_replicate, Int.toNat_natCast]
      refine ⟨fun hb3 => ?_, fun hb3 => ?_⟩
      · simp only [decide_eq_true_eq] at hb3
        have hsk : s < k.toNat := by omega
        have hcc : 0 ≤ (s : Int) ∧ (s : Int) < k := by omega
        have hnx := hL.nx x1 hcc
        rw [Int.toNat_natCast] at hnx
        have hrow := hL.row x x1
        have hll := hL.len
        rw [hgi, Int.toNat_natCast, hnx.2]
        have hcll := hc.len
        have blk : ∀ C : Int → LI → Prop, (∀ (n : Int) (l16 : LI), VC28_k5 (s : Int) row Y n l16 → C n l16) → VC55 fd2 (fun (x_1 : Int) (K : Bool → Prop) => VC56 x_1 cl (nxL L x (s : Int) : Int) K) (fun (ret8v : Int) => (((decide (ret8v < (0 : Int))) = true → (roomN (fd2.length + [(nxL L x (s : Int) : Int)].length) ∧ C (fd2.length : Int) (fd2 ++ [(nxL L x (s : Int) : Int)]))) ∧ ((decide (ret8v < (0 : Int))) = false → C ret8v fd2))) := by
          intro C hC
          refine VC55_of (fun y => decide (cl.getD y.toNat 0 = cl.getD (nxL L x (s : Int)) 0)) (by omega) (fun y hy K' hK' => ?_) ?_
          · obtain ⟨p, hp, rfl⟩ := List.mem_iff_getElem.1 hy
            rw [← getD_lt (0 : Int) hp] at hK' ⊢
            obtain ⟨z, z1, z2⟩ := hF.st p hp
            unfold VC56
            refine ⟨⟨by omega, by omega⟩, ⟨by omega, by omega⟩, ?_⟩
            simp only [Int.toNat_natCast]
            exact hK'
          · have fin : ∀ (n : Nat) (f3 : LI), FndC L.2.length cl f3 → (∃ e, f3 = fd ++ e) → fd2.length ≤ f3.length → RowC L cl f3 x row s → n < f3.length → cl.getD (f3.getD n 0).toNat 0 = cl.getD (nxL L x (s : Int)) 0 → ((n < fd2.length ∧ f3.length = fd2.length) ∨ (n = fd2.length ∧ f3.length = fd2.length + 1)) → C (n : Int) f3 := by
              intro n f3 hF3 he3 hle3 hr3 hn3 hcl3 hcase
              refine hC _ _ ?_
              unfold VC28_k5 VC28_k4
              simp only [Int.toNat_natCast]
              refine ⟨⟨by omega, by omega⟩, ⟨by omega, by omega⟩, hY _ hsk ⟨hF3, he3, by simp only [List.length_set]; exact hrl, fun u hu => ?_, ?_⟩⟩
              · simp only
                rw [set_snoc (by omega)]
                by_cases hus : s = u
                · subst hus
                  rw [if_pos rfl]
                  exact ⟨n, hn3, rfl, hcl3⟩
                · rw [if_neg hus]
                  exact hr3 u (by omega)
              · simp only
                have et : (row.set s (n : Int)).take (s + 1) = row.take s ++ [(n : Int)] := by
                  rw [List.take_succ_eq_append_getElem (by rw [List.length_set]; omega), List.getElem_set_self, List.take_set_of_le (Nat.le_refl _)]
                rw [et]
                exact hfr.snoc (by omega)
            rcases idx_any2 (fun y => decide (cl.getD y.toNat 0 = cl.getD (nxL L x (s : Int)) 0)) fd2 with ⟨h1, h2⟩ | ⟨n, h1, h2, h3⟩
            · refine ⟨fun _ => ⟨by unfold roomN; simp only [List.length_singleton]; omega, ?_⟩, fun hf => by simp only [decide_eq_false_iff_not] at hf; omega⟩
              refine fin fd2.length _ (hF.more hnx.1 fun p hp hce => ?_) ⟨e ++ [(nxL L x (s : Int) : Int)], by rw [he, List.append_assoc]⟩ (by rw [List.length_append]; omega) hrc.more (by simp) (by rw [getD_last, Int.toNat_natCast]) (.inr ⟨rfl, by simp⟩)
              have := h2 p hp
              simp only [decide_eq_false_iff_not] at this
              exact this hce
            · simp only [decide_eq_true_eq] at h3
              refine ⟨fun ht => by simp only [decide_eq_true_eq] at ht; omega, fun _ => ?_⟩
              rw [h1]
              exact fin n fd2 hF ⟨e, he⟩ (Nat.le_refl _) hrc h2 h3 (.inl ⟨h2, rfl⟩)
        have i1 : inIdx (i : Int) fd2.length := ⟨by omega, by omega⟩
        have i2 : inIdx (x : Int) L.1.length := ⟨by omega, by omega⟩
        have i3 : inIdx (s : Int) (L.1.getD x []).length := ⟨by omega, by omega⟩
        exact ⟨⟨i1, i2, i3, blk _ fun n l16 hh => hh⟩, i1, ⟨i2, i3, blk _ fun n l16 hh => hh⟩, i2, i3, blk _ fun n l16 hh => hh⟩
      · simp only [decide_eq_false_iff_not] at hb3
        have hsk : s = k.toNat := by omega
        subst hsk
        have hnl := hI.len
        have hll := hL.len
        unfold VC28_k2
        simp only [Int.toNat_natCast]
        simp only [hgi, Int.toNat_natCast]
        rw [List.take_of_length_le (by omega)] at hfr
        have fin : ∀ out2 : Int, U32 out2 → (∀ j, bt out2 j = (bt out j || (decide (i = j) && decide (fnL L x = 1)))) → VC28_k3 (i : Int) nx X fd2 row out2 := by
          intro out2 hu2 hb2'
          unfold VC28_k3
          refine ⟨⟨by omega, by omega⟩, hX _ ⟨i + 1, by simp, hF, by simp only; omega, by simp [hnl], fun j hj => ?_, hu2, fun j => ?_, ?_⟩ (by simp only; omega)⟩
          · simp only
            by_cases hji : j < i
            · rw [getD_app (by omega), he, getD_app (by omega)]
              obtain ⟨r1, r2⟩ := hI.row j hji
              exact ⟨r1, r2.more⟩
            · have : j = nx.length := by omega
              subst this
              rw [getD_last, hnl, hgi, Int.toNat_natCast]
              exact ⟨hrl, hrc⟩
          · simp only
            rw [hb2', hI.bit]
            by_cases hji : j < i
            · rw [he, getD_app (by omega)]
              have h1 : ¬ i = j := by omega
              simp [hji, h1, show j < i + 1 by omega, -List.getD_eq_getElem?_getD]
            · by_cases hij : i = j
              · subst hij
                rw [hgi, Int.toNat_natCast]
                simp
              · simp [hji, hij, show ¬ j < i + 1 by omega]
          · exact .snoc nx row fd.length fd2.length hI.can (by omega) hfr
        refine ⟨by unfold roomN; simp only [List.length_singleton]; omega, ⟨by omega, by omega⟩, ⟨by omega, by omega⟩, fun ht => ⟨by omega, fin _ (u32_or hI.u32 (u32_shl1 _)) fun j => ?_⟩, fun hf => fin _ hI.u32 fun j => ?_⟩
        · simp only [decide_eq_true_eq] at ht
          have hfx : fnL L x = 1 := ht
          rw [bt_or hI.u32 (u32_shl1 _), bt_shl1 (by omega)]
          simp [hfx]
        · simp only [decide_eq_false_iff_not] at hf
          have hfx : ¬ fnL L x = 1 := hf
          simp [hfx]
    · simp only [decide_eq_false_iff_not] at hb2
      have hin : i = fd.length := by omega
      subst hin
      unfold VC28_k1
      exact h hg _ (sure_end hk hL hlang hc heq hm7 hI)
end Dec
