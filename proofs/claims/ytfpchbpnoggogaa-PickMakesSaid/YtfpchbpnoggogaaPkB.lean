/-
  pick.nth: it writes the tree that stands at a place (plain).
-/
import Derived.Test.YtfpchbpnoggogaaPkA
set_option linter.unusedSimpArgs false
set_option linter.unusedVariables false
namespace Dec
open Go Go.Proofs Cfg
def SC : Nat → List Nat → Nat → Prop
  | a, [], b => a ≤ b
  | a, e :: es, b => a < e ∧ e ≤ b ∧ SC e es b
theorem cuts_sc : ∀ (n a b : Nat) (es : List Nat), a < b → es ∈ cutsL n a b → SC a es b
  | 0, _, _, es, _, h => by simp [cutsL] at h
  | 1, a, b, es, hab, h => by
    simp [cutsL] at h
    subst h
    exact ⟨hab, Nat.le_refl _, Nat.le_refl _⟩
  | n + 2, a, b, es, hab, h => by
    rw [cutsL_succ, List.mem_flatMap] at h
    obtain ⟨m, hm, h⟩ := h
    obtain ⟨z, hz, rfl⟩ := List.mem_map.1 hm
    have hz' := List.mem_range.1 hz
    obtain ⟨t, ht, rfl⟩ := List.mem_map.1 h
    exact ⟨by omega, by omega, cuts_sc (n + 1) _ b t (by omega) ht⟩
theorem SC.chain {N : Nat} : ∀ {es : List Nat} {a b : Nat}, SC a es b → b ≤ N → Chain N a es
  | [], _, _, _, _ => trivial
  | _ :: _, _, _, h, hb => ⟨Nat.le_of_lt h.1, Nat.le_trans h.2.1 hb, SC.chain h.2.2 hb⟩
theorem rangesL_len : ∀ (es : List Int) (a : Int), (rangesL a es).length = es.length
  | [], _ => rfl
  | e :: es, _ => by simp only [rangesL, List.length_cons, rangesL_len es e]
theorem div_cap {i r : Int} {A B : Nat} (h0 : 0 ≤ i) (h1 : i ≤ 1099511627776) (hlt : i.toNat < A * B) (hc : CapV r B) :
    0 < r ∧ 0 ≤ i / r ∧ i / r ≤ 1099511627776 ∧ (i / r).toNat = i.toNat / B ∧ (i / r).toNat < A ∧ 0 ≤ i % r ∧ i % r ≤ 1099511627776 ∧ (i % r).toNat = i.toNat % B ∧ (i % r).toNat < B := by
  have hB : 0 < B := by
    refine Nat.pos_of_ne_zero fun e => ?_
    rw [e, Nat.mul_zero] at hlt
    omega
  have hA : 0 < A := by
    refine Nat.pos_of_ne_zero fun e => ?_
    rw [e, Nat.zero_mul] at hlt
    omega
  obtain ⟨n, rfl⟩ := Int.eq_ofNat_of_zero_le h0
  simp only [Int.toNat_natCast] at hlt ⊢
  unfold CapV at hc
  by_cases hs : (B : Int) ≤ 1099511627777
  · have e : r = (B : Int) := by omega
    subst e
    rw [← Int.natCast_ediv, ← Int.natCast_emod, Int.toNat_natCast, Int.toNat_natCast]
    have h2 : n / B ≤ n := Nat.div_le_self _ _
    have h3 : n % B ≤ n := Nat.mod_le _ _
    have h4 := (Nat.div_lt_iff_lt_mul hB).2 hlt
    have h5 := Nat.mod_lt n hB
    generalize n / B = q at *
    generalize n % B = m at *
    exact ⟨by omega, by omega, by omega, rfl, h4, by omega, by omega, rfl, h5⟩
  · have e : r = 1099511627777 := by omega
    subst e
    have e1 : (n : Int) / 1099511627777 = 0 := Int.ediv_eq_zero_of_lt (by omega) (by omega)
    have e2 : (n : Int) % 1099511627777 = n := Int.emod_eq_of_lt (by omega) (by omega)
    have e3 : n / B = 0 := Nat.div_eq_of_lt (by omega)
    have e4 : n % B = n := Nat.mod_eq_of_lt (by omega)
    rw [e1, e2, e3, e4]
    exact ⟨by omega, by omega, by omega, rfl, hA, by omega, by omega, by simp, by simp; omega⟩
section
variable {g : Gr} {w : List Int}
def blk (g : Gr) (w : List Int) (s : Int) (a b : Nat) (k : Nat) : List (List Int) := if (g.2.2.2.getD k (0, [])).1 = s - g.1 then (rowT (SG g w) (g.2.2.2.getD k (0, [])).2 a b).map ((k : Int) :: ·) else []
def from_ (g : Gr) (w : List Int) (s : Int) (a b : Nat) (v : Nat) : List (List Int) := ((List.range g.2.2.2.length).drop v).flatMap (blk g w s a b)
theorem sg_blk (hp : Prop1 g) {s : Int} (hs : ¬ s < g.1) {a b : Nat} (hb : b ≤ w.length) : SG g w s a b = from_ g w s a b 0 := by
  unfold SG from_
  rw [sgnT_name hs, List.drop_zero]
  refine flatMap_congr' fun k hk => ?_
  have hk' := List.mem_range.1 hk
  unfold blk
  rw [row_stable hp (getD_mem hk') (by omega)]
theorem from_succ {s : Int} {a b v : Nat} (hv : v < g.2.2.2.length) : from_ g w s a b v = blk g w s a b v ++ from_ g w s a b (v + 1) := by
  unfold from_
  have hl : v < (List.range g.2.2.2.length).length := by simpa using hv
  rw [List.drop_eq_getElem_cons hl, List.flatMap_cons, List.getElem_range]
theorem from_end {s : Int} {a b : Nat} : from_ g w s a b g.2.2.2.length = [] := by
  unfold from_
  rw [List.drop_eq_nil_of_le (by simp)]
  rfl
def TLs (g : Gr) (w : List Int) (s : Int) (a b v : Nat) (L : List (List Nat)) : List (List Int) := (L.flatMap fun es => (prodT (SG g w) (g.2.2.2.getD v (0, [])).2 a es).map ((v : Int) :: ·)) ++ from_ g w s a b (v + 1)
theorem blk_hit {s : Int} {a b v : Nat} (h : (g.2.2.2.getD v (0, [])).1 = s - g.1) : blk g w s a b v ++ from_ g w s a b (v + 1) = TLs g w s a b v (cutsL (g.2.2.2.getD v (0, [])).2.length a b) := by
  unfold blk TLs rowT
  rw [if_pos h, List.map_flatMap]
theorem TLs_cons {s : Int} {a b v : Nat} {es : List Nat} {L : List (List Nat)} : TLs g w s a b v (es :: L) = (prodT (SG g w) (g.2.2.2.getD v (0, [])).2 a es).map ((v : Int) :: ·) ++ TLs g w s a b v L := by
  unfold TLs
  rw [List.flatMap_cons, List.append_assoc]
theorem TLs_nil {s : Int} {a b v : Nat} : TLs g w s a b v [] = from_ g w s a b (v + 1) := by
  unfold TLs; simp
theorem toNat_sub {i n : Int} {m : Nat} (h : n ≤ i) (hn : n = (m : Int)) : (i - n).toNat = i.toNat - m := by omega
def NthI (g : Gr) (w : List Int) (T : List Int) (s : Int) (a b v : Nat) (L : List (List Nat)) (i : Int) (out : List Int) (kn : Kn) : Prop :=
  KnOk g w kn ∧ out = [] ∧ 0 ≤ i ∧ i ≤ 1099511627776 ∧ i.toNat < (TLs g w s a b v L).length ∧ T = (TLs g w s a b v L).getD i.toNat [] ∧ ∀ es ∈ L, es ∈ cutsL (g.2.2.2.getD v (0, [])).2.length a b
def NthF (g : Gr) (w : List Int) (T : List Int) (k i : Int) (out : List Int) (kn : Kn) : Prop := k = 1 ∧ KnOk g w kn ∧ out = T
set_option maxHeartbeats 4000000 in
theorem nth_of (hg : GoodG g) (hw : GoodW g.1 w) (hp : Prop1 g) : ∀ (f : Nat) (s : Int) (a b : Nat) (i : Int) (kn : Kn) (K : List Int × Kn → Prop), (if s < g.1 then 1 else b - a + 2) ≤ f → 0 ≤ s ∧ s < g.1 + g.2.1 → a ≤ b → b ≤ w.length → 0 ≤ i → i ≤ 1099511627776 → i.toNat < cntS g w s a b → KnOk g w kn →
    (∀ kn', KnOk g w kn' → K ((SG g w s a b).getD i.toNat [], kn')) → VCc67_it g.1 g.2.1 g.2.2.1 g.2.2.2 w f s (a : Int) (b : Int) i kn K := by
  intro f
  induction f with
  | zero => intro s a b i kn K h; split at h <;> omega
  | succ f ih =>
    intro s a b i kn K hf hs hab hb hi0 hi1 hi hk hK
    have hk3 := hg.k
    have hn5 := hg.n
    have hfew := hg.few
    have hw12 := hw.1
    show VCc67 g.1 g.2.1 g.2.2.1 g.2.2.2 w (VCc67_it g.1 g.2.1 g.2.2.1 g.2.2.2 w f) s (a : Int) (b : Int) i kn K
    unfold VCc67
    refine ⟨fun hsym => ?_, fun hname => ?_⟩
    · simp only [decide_eq_true_eq] at hsym
      have h0 := hK kn hk
      have e : (SG g w s a b).getD i.toNat [] = [] := by
        unfold SG
        rw [sgnT_sym hsym]
        split
        · cases i.toNat <;> rfl
        · rfl
      rw [e] at h0
      exact h0
    · simp only [decide_eq_false_iff_not] at hname
      rw [if_neg hname] at hf
      have hin : (SG g w s a b).getD i.toNat [] ∈ SG g w s a b := getD_mem hi
      have hlt : a < b := sgn_lt hp _ s a b _ hin
      obtain ⟨T, hT⟩ : ∃ T, (SG g w s a b).getD i.toNat [] = T := ⟨_, rfl⟩
      rw [hT] at hK hin
      have hT24 : T.length ≤ 24 := by
        have := sgn_steps hp _ s a b _ hin
        omega
      unfold cntS at hi
      rw [sg_blk hp hname hb] at hT hi
      refine Loop.by (fun t : Int × Int × List Int × Kn => ∃ v : Nat, t.1 = (v : Int) ∧ v ≤ g.2.2.2.length ∧ t.2.2.1 = [] ∧ KnOk g w t.2.2.2 ∧ 0 ≤ t.2.1 ∧ t.2.1 ≤ 1099511627776 ∧ t.2.1.toNat < (from_ g w s a b v).length ∧ T = (from_ g w s a b v).getD t.2.1.toNat []) (fun t => ((g.2.2.2.length : Int) - t.1).toNat) ⟨0, rfl, by omega, rfl, hk, hi0, hi1, hi, hT.symm⟩ ?_
      rintro ⟨v', i2, out, kn1⟩ ⟨v, e, hv, ho, hk1, h20, h21, h22, h23⟩ X hX
      dsimp only at e ho hk1 h20 h21 h22 h23 hX
      subst e ho
      dsimp only
      unfold VCc67_l1
      simp only [Int.toNat_natCast]
      refine ⟨fun hb' => ?_, fun hb' => ?_⟩
      · simp only [decide_eq_true_eq] at hb'
        have hvl : v < g.2.2.2.length := by omega
        rw [from_succ hvl] at h22 h23
        have hmem : g.2.2.2.getD v (0, []) ∈ g.2.2.2 := getD_mem hvl
        have hshort := hg.short _ hmem
        have hright := hg.right _ hmem
        obtain ⟨hne, hlone⟩ := hp _ hmem
        have hpos : 0 < (g.2.2.2.getD v (0, [])).2.length := List.length_pos_iff.2 hne
        refine ⟨⟨by omega, by omega⟩, by unfold InR; omega, fun hmiss => ?_, fun hhit => ?_⟩
        · simp only [Bool.not_eq_true', decide_eq_false_iff_not] at hmiss
          have eb : blk g w s a b v = [] := by unfold blk; rw [if_neg hmiss]
          rw [eb, List.nil_append] at h22 h23
          unfold VCc67_k2
          exact ⟨by unfold InR; omega, hX _ ⟨v + 1, by simp, by omega, rfl, hk1, h20, h21, h22, h23⟩ (by dsimp only; omega)⟩
        · simp only [Bool.not_eq_false', decide_eq_true_eq] at hhit
          rw [blk_hit hhit] at h22 h23
          obtain ⟨L, hLe⟩ : ∃ L, (g.2.2.2.getD v (0, [])).2 = L := ⟨_, rfl⟩
          refine ⟨L.length + 1, ?_⟩
          rw [hLe] at hshort hright hne hlone hpos
          have key := choose_of (c1 := g.1) (c2 := g.2.1) (c3 := g.2.2.1) (c4 := g.2.2.2) (c5 := w) (c7 := (a : Int)) (c8 := (b : Int)) (c11 := (v : Int)) (c12 := (g.2.2.2.getD v (0, [])).1) (c13 := (g.2.2.2.getD v (0, [])).2) (Y := VCc67_y1 g.1 g.2.1 g.2.2.1 g.2.2.2 w (VCc67_it g.1 g.2.1 g.2.2.1 g.2.2.2 w f) (a : Int) (v : Int)) (parts := L.length) (i0 := a) (j0 := b) (I := NthI g w T s a b v) (F := NthF g w T) ⟨hpos, by omega⟩ (by omega) (by omega) ?_
            (L.length + 1) L.length [] a (by omega) hpos (by simp) rfl (by omega) [] i2 [] kn1
          · rw [hLe]
            rw [hLe] at key
            refine key _ ?_ (fun i' out' kn' h => ?_) (fun k i' out' kn' h => ?_)
            · simp only [List.nil_append, List.append_nil, List.map_id']
              refine ⟨hk1, rfl, h20, h21, ?_, ?_, ?_⟩
              · rw [← hLe]; exact h22
              · rw [← hLe]; exact h23
              · rw [hLe]; exact fun es h => h
            · dsimp only
              obtain ⟨q1, q2, q3, q4, q5, q6, _⟩ := h
              subst q2
              rw [TLs_nil] at q5 q6
              refine ⟨fun _ => ?_, fun h => (by cases h)⟩
              unfold VCc67_k2
              exact ⟨by unfold InR; omega, hX _ ⟨v + 1, by simp, by omega, rfl, q1, q3, q4, q5, q6⟩ (by dsimp only; omega)⟩
            · dsimp only
              obtain ⟨q1, q2, q3⟩ := h
              subst q1 q3
              exact ⟨fun h => (by cases h), fun _ => ⟨rfl, hK _ q2⟩⟩
          · -- the body
            clear hX
            intro es rest i' out' kn' hI Kt Kf hKt hKf
            obtain ⟨q1, q2, q3, q4, q5, q6, q7⟩ := hI
            subst q2
            have hmemc := q7 es List.mem_cons_self
            rw [TLs_cons] at q5 q6
            rw [hLe] at q5 q6 hmemc
            have hsc := cuts_sc _ a b es hlt hmemc
            have hesl := (cutsL_mem _ _ _ _ hmemc).1
            unfold VCc67_y1
            refine VC97_of (by rw [List.length_map]; omega) ?_
            refine many_of hg hw hp (L := (g.2.2.2.getD v (0, [])).2) (es := es) (by rw [hLe]; exact hright) (by rw [hLe]; exact hshort) (by rw [hLe]; exact hesl) (hsc.chain hb) q1 (fun n kn2 hk2 hn => ?_)
            rw [hLe] at hn
            dsimp only
            refine ⟨fun hskip => ?_, fun hin => ?_⟩
            · simp only [decide_eq_true_eq] at hskip
              have hn' : n = ((prodT (SG g w) L a es).length : Int) := by unfold CapV at hn; omega
              have hle : (prodT (SG g w) L a es).length ≤ i'.toNat := by omega
              refine ⟨by unfold InR; omega, hKt _ _ _ ⟨hk2, rfl, by omega, by omega, ?_, ?_, fun x hx => q7 x (List.mem_cons_of_mem _ hx)⟩⟩
              · rw [toNat_sub hskip hn']
                rw [List.length_append, List.length_map] at q5
                omega
              · rw [toNat_sub hskip hn', q6, getD_append_r (by rw [List.length_map]; exact hle), List.length_map]
            · simp only [decide_eq_false_iff_not] at hin
              have hlt' : i'.toNat < (prodT (SG g w) L a es).length := by unfold CapV at hn; omega
              rw [getD_append_l (by rw [List.length_map]; exact hlt'), getD_map' (d := []) hlt'] at q6
              refine Loop.by (fun t : Int × List Int × Int × Kn => ∃ j av : Nat, t.1 = (j : Int) ∧ j ≤ L.length ∧ (j = 0 → av = a) ∧ (0 < j → a < av) ∧ SC av (es.drop j) b ∧ (rangesL (a : Int) (ints es)).drop j = rangesL (av : Int) (ints (es.drop j)) ∧ 0 ≤ t.2.2.1 ∧ t.2.2.1 ≤ 1099511627776 ∧ t.2.2.1.toNat < (prodT (SG g w) (L.drop j) av (es.drop j)).length ∧ T = t.2.1 ++ (prodT (SG g w) (L.drop j) av (es.drop j)).getD t.2.2.1.toNat [] ∧ KnOk g w t.2.2.2) (fun t => ((L.length : Int) - t.1).toNat) ⟨0, a, rfl, by omega, fun _ => rfl, fun h => by omega, by simpa using hsc, by simp, q3, q4, by simpa using hlt', by simpa using q6, hk2⟩ ?_
              rintro ⟨j', out3, i3, kn3⟩ ⟨j, av, e, hj, hj0, hj1, c1, c2, c3, c4, c5, c6, c7⟩ X2 hX2
              dsimp only at e c3 c4 c5 c6 c7 hX2
              subst e
              dsimp only
              unfold VCc67_l2
              simp only [Int.toNat_natCast, hLe]
              refine ⟨fun hjl => ?_, fun hjl => ?_⟩
              · simp only [decide_eq_true_eq] at hjl
                have hjL : j < L.length := by omega
                have hje : j < es.length := by omega
                have eL : L.drop j = L.getD j 0 :: L.drop (j + 1) := by rw [List.drop_eq_getElem_cons hjL, getD_lt _ hjL]
                have eE : es.drop j = es.getD j 0 :: es.drop (j + 1) := by rw [List.drop_eq_getElem_cons hje, getD_lt _ hje]
                have hsig : L.getD j 0 ∈ L := getD_mem hjL
                obtain ⟨sg, hsg⟩ : ∃ sg, L.getD j 0 = sg := ⟨_, rfl⟩
                obtain ⟨q, hq⟩ : ∃ q, es.getD j 0 = q := ⟨_, rfl⟩
                rw [hsg] at eL hsig
                rw [hq] at eE
                rw [eL, eE] at c5 c6
                rw [eE] at c1 c2
                obtain ⟨d1, d2, d3⟩ := c1
                have c2' : (rangesL (a : Int) (ints es)).drop j = ((av : Int), (q : Int)) :: rangesL (q : Int) (ints (es.drop (j + 1))) := c2
                have hRj : j < (rangesL (a : Int) (ints es)).length := by rw [rangesL_len, List.length_map]; omega
                have eR := List.drop_eq_getElem_cons hRj
                rw [c2'] at eR
                injection eR with eR1 eR2
                have hRl : (rangesL (a : Int) (ints es)).length = L.length := by rw [rangesL_len, List.length_map]; exact hesl
                rw [prodT_len] at c5
                have ec6 : T = out3 ++ ((SG g w sg av q).getD (i3.toNat / (prodT (SG g w) (L.drop (j + 1)) q (es.drop (j + 1))).length) [] ++ (prodT (SG g w) (L.drop (j + 1)) q (es.drop (j + 1))).getD (i3.toNat % (prodT (SG g w) (L.drop (j + 1)) q (es.drop (j + 1))).length) []) := by
                  rw [c6]
                  congr 1
                  exact prod_getD _ _ _ c5
                have hdl : (es.drop (j + 1)).length = (L.drop (j + 1)).length := by rw [List.length_drop, List.length_drop, hesl]
                have e1 : ((j : Int) + 1).toNat = j + 1 := by omega
                have hfin : ∀ (restv : Int) (kn4 : Kn), KnOk g w kn4 → CapV restv (prodT (SG g w) (L.drop (j + 1)) q (es.drop (j + 1))).length → (inIdx (j : Int) (rangesL (a : Int) (ints es)).length ∧ (0 ≤ i3 ∧ 0 < restv) ∧ VCc67_it g.1 g.2.1 g.2.2.1 g.2.2.2 w f (L.getD j 0) (((rangesL (a : Int) (ints es)).getD j (0, 0)).1) (((rangesL (a : Int) (ints es)).getD j (0, 0)).2) (i3 / restv) kn4 (fun ret98v => (roomN (out3.length + ret98v.1.length) ∧ ((0 ≤ i3 ∧ 0 < restv) ∧ (InR ((j : Int) + (1 : Int)) ∧ X2 (((j : Int) + (1 : Int)), (out3 ++ ret98v.1), (i3 % restv), ret98v.2)))))) := by
                  intro restv kn4 hk4 hr
                  obtain ⟨z1, z2, z3, z4, z5, z6, z7, z8, z9⟩ := div_cap c3 c4 c5 hr
                  rw [getD_lt _ hRj, ← eR1, hsg]
                  refine ⟨⟨by omega, by omega⟩, ⟨c3, z1⟩, ih sg av q (i3 / restv) kn4 _ ?_ (hright sg hsig) (by omega) (by omega) z2 z3 z5 hk4 (fun kn5 hk5 => ⟨?_, ⟨c3, z1⟩, by unfold InR; omega, ?_⟩)⟩
                  · by_cases hsy : sg < g.1
                    · rw [if_pos hsy]; omega
                    · rw [if_neg hsy]
                      by_cases hj00 : j = 0
                      · have hav := hj0 hj00
                        subst hav
                        cases hLL : L with
                        | nil => rw [hLL] at hpos; simp at hpos
                        | cons x l =>
                          cases l with
                          | nil =>
                            have := hlone x hLL
                            rw [hLL, hj00] at hsg
                            simp at hsg
                            omega
                          | cons y l =>
                            have h9 : (es.drop (j + 1)).length = l.length + 1 := by rw [hdl, hLL, hj00]; simp
                            cases hd : es.drop (j + 1) with
                            | nil => rw [hd] at h9; simp at h9
                            | cons z t =>
                              rw [hd] at d3
                              have h8 := d3.1
                              have h7 := d3.2.1
                              omega
                      · have := hj1 (by omega)
                        omega
                  · have h9 : T.length = out3.length + (((SG g w sg av q).getD (i3.toNat / (prodT (SG g w) (L.drop (j + 1)) q (es.drop (j + 1))).length) []).length + ((prodT (SG g w) (L.drop (j + 1)) q (es.drop (j + 1))).getD (i3.toNat % (prodT (SG g w) (L.drop (j + 1)) q (es.drop (j + 1))).length) []).length) := by
                      rw [ec6, List.length_append, List.length_append]
                    unfold roomN
                    rw [z4]
                    dsimp only
                    omega
                  · refine hX2 _ ⟨j + 1, q, by simp, by omega, fun h => by omega, fun _ => ?_, d3, eR2.symm, z6, z7, z9, ?_, hk5⟩ (by dsimp only; omega)
                    · rcases Nat.eq_zero_or_pos j with h | h
                      · rw [hj0 h] at d1; exact d1
                      · exact Nat.lt_trans (hj1 h) d1
                    · dsimp only
                      rw [z4, z8, List.append_assoc]
                      exact ec6
                refine ⟨⟨by omega, by omega⟩, by unfold InR; omega, ⟨by omega, by omega⟩, by unfold InR; omega, ⟨by omega, by omega⟩, ?_⟩
                rw [e1, ← eR2]
                refine many_of hg hw hp (fun s hs => hright s (List.mem_of_mem_drop hs)) (by rw [List.length_drop]; omega) hdl (d3.chain hb) c7 (fun n kn4 hk4 hn4 => ?_)
                exact hfin n kn4 hk4 hn4
              · simp only [decide_eq_false_iff_not] at hjl
                have ej : j = L.length := by omega
                subst ej
                unfold VCc67_k3
                rw [List.drop_length] at c5 c6
                have e0 : i3.toNat = 0 := by simpa [prodT] using c5
                rw [e0] at c6
                have e2 : T = out3 := by simpa [prodT] using c6
                exact hKf _ _ _ _ ⟨rfl, c7, e2.symm⟩
      · simp only [decide_eq_false_iff_not] at hb'
        have ev : v = g.2.2.2.length := by omega
        subst ev
        rw [from_end] at h22
        simp at h22
end
end Dec
namespace Dec
open Go Go.Proofs Cfg
section
variable {g : Gr} {w : List Int}
def badR (k : Int) (r : Rl) : Bool := decide ((r.2.length : Int) = 0) || (decide ((r.2.length : Int) = 1) && decide (k ≤ r.2.getD 0 0))
theorem badR_iff {k : Int} {r : Rl} : badR k r = false ↔ r.2 ≠ [] ∧ ∀ s, r.2 = [s] → s < k := by
  obtain ⟨A, l⟩ := r
  unfold badR
  rcases l with _ | ⟨x, _ | ⟨y, t⟩⟩
  · simp
  · simp
  · simp only [List.length_cons]
    constructor
    · intro _
      exact ⟨by simp, by intro s h; cases h⟩
    · intro _
      have h1 : decide (((t.length + 1 + 1 : Nat) : Int) = 0) = false := by simp only [decide_eq_false_iff_not]; omega
      have h2 : decide (((t.length + 1 + 1 : Nat) : Int) = 1) = false := by simp only [decide_eq_false_iff_not]; omega
      rw [h1, h2]; rfl
theorem VC84_of (hg : GoodG g) {K : Bool → Prop} (h : ∀ b : Bool, (b = true ↔ Prop1 g) → K b) : VC84 g K := by
  have hfew := hg.few
  unfold VC84
  refine VC77_of (badR g.1) (by omega) (fun x hx K' hK' => ?_) (h _ ?_)
  · unfold VC108
    refine ⟨fun _ h1 => ?_, hK'⟩
    simp only [decide_eq_true_eq] at h1
    exact ⟨by omega, by omega⟩
  · rw [Bool.not_eq_true', List.any_eq_false]
    unfold Prop1
    refine forall_congr' fun r => forall_congr' fun hr => ?_
    rw [Bool.not_eq_true, badR_iff]
theorem VC28_of (hg : GoodG g) {K : Bool → Prop} (h : ∀ b : Bool, (b = true ↔ Prop1 g) → K b) : VC28 g K := by
  have hfew := hg.few
  unfold VC28
  refine loop_count g.2.2.2.length (fun i => ∀ j, j < i → badR g.1 (g.2.2.2.getD j (0, [])) = false) (by intro j hj; omega) ?_
  intro i hi hP X hX
  unfold VC28_l1
  simp only [Int.toNat_natCast]
  refine ⟨fun hb => ?_, fun hb => ?_⟩
  · simp only [decide_eq_true_eq] at hb
    refine ⟨⟨by omega, by omega⟩, fun _ h1 => ?_, fun hbad => h _ ?_, fun hgood => ⟨by unfold InR; omega, hX (by omega) fun j hj => ?_⟩⟩
    · simp only [decide_eq_true_eq] at h1
      exact ⟨by omega, by omega⟩
    · refine ⟨fun h => (by cases h), fun hp => ?_⟩
      have := badR_iff.2 (hp _ (getD_mem (l := g.2.2.2) (i := i) (d := (0, [])) (by omega)))
      rw [show badR g.1 (g.2.2.2.getD i (0, [])) = true from hbad] at this
      cases this
    · by_cases e : j < i
      · exact hP j e
      · have : j = i := by omega
        subst this
        exact hgood
  · simp only [decide_eq_false_iff_not] at hb
    unfold VC28_k1
    refine h _ ⟨fun _ r hr => ?_, fun _ => rfl⟩
    obtain ⟨a, ha, ea⟩ := List.mem_iff_getElem.1 hr
    rw [← ea, ← getD_lt (0, []) ha]
    exact badR_iff.1 (hP a (by omega))
def All (g : Gr) (w : List Int) : Prop := GoodG g ∧ GoodW g.1 w ∧ Prop1 g
abbrev cntW (g : Gr) (w : List Int) : Nat := cntS g w (g.1 + g.2.2.1) 0 w.length
def Spot (g : Gr) (w : List Int) (i : Int) : Prop := All g w ∧ 0 ≤ i ∧ i < (cntW g w : Int) ∧ (cntW g w : Int) ≤ 1099511627776
def PickIs (g : Gr) (w : List Int) (i : Int) (r : List Int × Int) : Prop := (r.2 ≠ 0 ∧ r.1 = [] ∧ ¬ Spot g w i) ∨ (r.2 = 0 ∧ Spot g w i ∧ r.1 = (SG g w (g.1 + g.2.2.1) 0 w.length).getD i.toNat [])
theorem VC33_of {i : Int} {K : List Int × Int → Prop} (h : ∀ r, PickIs g w i r → K r) : VC33 g w i K := by
  have hk1 : ∀ e : Int, e ≠ 0 → ¬ Spot g w i → VC33_k1 g i K e := by
    intro e he hn
    unfold VC33_k1
    refine ⟨fun _ => h ([], e) (.inl ⟨he, rfl, hn⟩), fun h0 => ?_⟩
    simp at h0
    exact absurd h0 he
  unfold VC33
  refine VC44_of (fun e he hng => ⟨fun _ => hk1 e he fun hs => hng ⟨hs.1.1, hs.1.2.1⟩, fun h0 => ?_⟩) (fun hg hw => ⟨fun h0 => ?_, fun _ => VC84_of hg fun b hb => ⟨fun hb0 => ?_, fun hb1 => ?_⟩⟩)
  · simp at h0; exact absurd h0 he
  · simp at h0
  · refine hk1 3 (by omega) fun hs => ?_
    rw [hb.2 hs.1.2.2] at hb0
    cases hb0
  have hp : Prop1 g := hb.1 (by cases b with
    | true => rfl
    | false => cases hb1)
  have hk := hg.k
  have hn := hg.n
  have hst := hg.start
  have hfew := hg.few
  have hw12 := hw.1
  have hs : ¬ g.1 + g.2.2.1 < g.1 := by omega
  refine ⟨by unfold InR; omega, fun hc => ?_, fun _ => ⟨fun hsome => ?_, fun _ => ?_⟩⟩
  · simp only [decide_eq_true_eq] at hc
    omega
  · cases hsome
  · refine sign_loop (w := w) hp (s := g.1 + g.2.2.1) (i := 0) (j := w.length) hs (Nat.le_refl _) knOk_nil ?_ ?_
    · intro n v kn X hv hk' hhit hmiss
      dsimp only
      unfold VC33_l1 VC33_k4
      simp only [Int.toNat_natCast]
      refine ⟨fun hb => ⟨⟨by omega, by omega⟩, by unfold InR; omega, fun he => ?_, fun hne => ?_⟩, fun hb => ?_⟩
      · simp only [decide_eq_true_eq] at he
        have hvm : g.2.2.2.getD v (0, []) ∈ g.2.2.2 := getD_mem hv
        have hne := (hp _ hvm).1
        refine ⟨2 * w.length + 1, row_of hg hw hp _ v 0 0 w.length kn _ (by rw [if_pos rfl]; omega) hv (List.length_pos_iff.2 hne) (by omega) (by omega) hk' (fun r kn' hk'' hr' => ?_)⟩
        rw [List.drop_zero] at hr'
        have := hhit he r kn' hk'' hr'
        exact ⟨this.1, by unfold InR; omega, this.2⟩
      · simp only [decide_eq_false_iff_not] at hne
        exact ⟨by unfold InR; omega, hmiss hne⟩
      · simp only [decide_eq_false_iff_not] at hb
        omega
    · intro n kn X hk' hn''
      have hn' : CapV n (cntW g w) := hn''
      dsimp only
      unfold VC33_l1
      simp only [Int.toNat_natCast]
      refine ⟨fun hb => ?_, fun _ => ?_⟩
      · simp only [decide_eq_true_eq] at hb
        omega
      · unfold VC33_k3 VC33_k2
        refine ⟨fun hc => hk1 1 (by omega) fun hs => ?_, fun hc => ⟨fun h0 => (by simp at h0), fun _ => ⟨fun hout => h ([], 5) (.inl ⟨by simp, rfl, fun hs => ?_⟩), fun hin => ⟨by unfold InR; omega, ?_⟩⟩⟩⟩
        · simp only [decide_eq_true_eq] at hc
          have := hs.2.2.2
          unfold CapV at hn'
          omega
        · simp only [Bool.or_eq_true, decide_eq_true_eq] at hout
          have h1 := hs.2.1
          have h2 := hs.2.2.1
          have h3 := hs.2.2.2
          unfold CapV at hn'
          omega
        · simp only [decide_eq_false_iff_not] at hc
          simp only [Bool.or_eq_false_iff, decide_eq_false_iff_not] at hin
          have hcn : n = (cntW g w : Int) := by unfold CapV at hn'; omega
          refine ⟨w.length + 2, nth_of hg hw hp _ _ 0 w.length i _ _ (by rw [if_neg hs]; omega) (by omega) (by omega) (Nat.le_refl _) (by omega) (by omega) (show i.toNat < cntW g w by omega) (knOk_mset hk' (by rw [show (0 : Int) = ((0 : Nat) : Int) from rfl, mean_sign]; exact hn')) (fun kn' _ => ?_)⟩
          exact h _ (.inr ⟨rfl, ⟨⟨hg, hw, hp⟩, by omega, by omega, by omega⟩, rfl⟩)
end
end Dec
