/-
  ahead.Parse of any grammar, and the law AheadSteps over plain data.
-/
import Derived.Test.YtfpchbpnoggogaaPot
import Derived.Test.YtfpchbpnoggogaaGro
set_option linter.unusedSimpArgs false
set_option linter.unusedVariables false
namespace Dec
open Go Go.Proofs Cfg
/-! ### steps that grow, at any height -/
theorem growL_mono {S S' : Int → List Int → Option (Tree × List Int)} (h : ∀ s st x, S s st = some x → S' s st = some x) : ∀ (l st : List Int) (x : List Tree × List Int × List Int), growL S l st = some x → growL S' l st = some x
  | [], st, x, hx => hx
  | s :: l, st, x, hx => by
    rw [growL] at hx ⊢
    cases h1 : S s st with
    | none => rw [h1] at hx; cases hx
    | some z =>
      rw [h1] at hx
      rw [h s st z h1]
      simp only [Option.bind_some] at hx ⊢
      cases h2 : growL S l z.2 with
      | none => rw [h2] at hx; cases hx
      | some y =>
        rw [h2] at hx
        rw [growL_mono h l z.2 y h2]
        exact hx
theorem growF_mono (g : Gr) : ∀ (f : Nat) (s : Int) (st : List Int) (x : Tree × List Int), growF g f s st = some x → growF g (f + 1) s st = some x
  | 0, _, _, _, h => by cases h
  | f + 1, s, st, x, h => by
    by_cases hs : s < g.1
    · rw [growF_sym hs] at h ⊢; exact h
    · cases st with
      | nil => rw [growF_nil hs] at h; cases h
      | cons k st =>
        rw [growF_cons hs] at h ⊢
        split at h
        · rename_i hk
          rw [if_pos hk]
          cases h1 : growL (growF g f) (g.2.2.2.getD k.toNat (0, [])).2 st with
          | none => rw [h1] at h; cases h
          | some y =>
            rw [h1] at h
            rw [growL_mono (growF_mono g f) _ _ _ h1]
            exact h
        · cases h
theorem growL_append {S : Int → List Int → Option (Tree × List Int)} : ∀ (l m st : List Int) (ts : List Tree) (wd r : List Int), growL S (l ++ m) st = some (ts, wd, r) → ∃ ts1 wd1 r1 ts2 wd2, growL S l st = some (ts1, wd1, r1) ∧ growL S m r1 = some (ts2, wd2, r) ∧ wd = wd1 ++ wd2
  | [], m, st, ts, wd, r, h => ⟨[], [], st, ts, wd, rfl, h, rfl⟩
  | s :: l, m, st, ts, wd, r, h => by
    rw [List.cons_append, growL] at h
    cases h1 : S s st with
    | none => rw [h1] at h; cases h
    | some z =>
      rw [h1] at h
      simp only [Option.bind_some] at h
      cases h2 : growL S (l ++ m) z.2 with
      | none => rw [h2] at h; cases h
      | some y =>
        rw [h2] at h
        simp only [Option.bind_some] at h
        injection h with h; injection h with h3 h4; injection h4 with h4 h5
        obtain ⟨ts1, wd1, r1, ts2, wd2, q1, q2, q3⟩ := growL_append l m z.2 y.1 y.2.1 y.2.2 h2
        refine ⟨z.1 :: ts1, z.1.word ++ wd1, r1, ts2, wd2, ?_, by rw [← h5]; exact q2, by rw [← h4, q3, List.append_assoc]⟩
        rw [growL, h1]
        simp only [Option.bind_some]
        rw [q1]
        rfl
theorem growF_any (g : Gr) : ∀ (f : Nat) (s : Int) (st : List Int) (t : Tree) (r : List Int), growF g f s st = some (t, r) → r.length ≤ st.length ∧ ∀ F, st.length - r.length + 1 < F → growF g F s st = some (t, r)
  | 0, _, _, _, _, h => by cases h
  | f + 1, s, st, t, r, h => by
    by_cases hs : s < g.1
    · rw [growF_sym hs] at h
      injection h with h; injection h with h1 h2
      subst h1 h2
      refine ⟨Nat.le_refl _, fun F hF => ?_⟩
      obtain ⟨F', rfl⟩ : ∃ F', F = F' + 1 := ⟨F - 1, by omega⟩
      exact growF_sym hs
    · cases st with
      | nil => rw [growF_nil hs] at h; cases h
      | cons k st =>
        rw [growF_cons hs] at h
        split at h
        · rename_i hk
          have key : ∀ (l st : List Int) (y : List Tree × List Int × List Int), growL (growF g f) l st = some y → y.2.2.length ≤ st.length ∧ ∀ F, st.length - y.2.2.length + 1 < F → growL (growF g F) l st = some y := by
            intro l
            induction l with
            | nil =>
              intro st y hy
              rw [growL] at hy
              injection hy with hy; subst hy
              exact ⟨Nat.le_refl _, fun F _ => rfl⟩
            | cons x l ih =>
              intro st y hy
              rw [growL] at hy
              cases h1 : growF g f x st with
              | none => rw [h1] at hy; cases hy
              | some z =>
                rw [h1] at hy
                simp only [Option.bind_some] at hy
                cases h2 : growL (growF g f) l z.2 with
                | none => rw [h2] at hy; cases hy
                | some q =>
                  rw [h2] at hy
                  simp only [Option.bind_some] at hy
                  injection hy with hy; subst hy
                  obtain ⟨a1, a2⟩ := growF_any g f x st z.1 z.2 h1
                  obtain ⟨b1, b2⟩ := ih _ _ h2
                  refine ⟨by dsimp only; omega, fun F hF => ?_⟩
                  dsimp only at hF
                  rw [growL, a2 F (by omega)]
                  simp only [Option.bind_some]
                  rw [b2 F (by omega)]
                  rfl
          cases h1 : growL (growF g f) (g.2.2.2.getD k.toNat (0, [])).2 st with
          | none => rw [h1] at h; cases h
          | some y =>
            rw [h1] at h
            simp only [Option.bind_some] at h
            injection h with h; injection h with h2 h3
            obtain ⟨c1, c2⟩ := key _ _ _ h1
            rw [h3] at c1 c2
            refine ⟨by simp only [List.length_cons]; omega, fun F hF => ?_⟩
            simp only [List.length_cons] at hF
            obtain ⟨F', rfl⟩ : ∃ F', F = F' + 1 := ⟨F - 1, by omega⟩
            rw [growF_cons hs, if_pos hk, c2 F' (by omega)]
            simp only [Option.bind_some]
            rw [h2, h3]
        · cases h
section
variable {g : Gr} {w : List Int} {sv : Int} {first follow : List Int} {rk : Nat → Nat → Nat}
def symAt (g : Gr) (w : List Int) (a : Nat) : Int := if a < w.length then w.getD a 0 else g.1
noncomputable def phi (g : Gr) (w first : List Int) (rk : Nat → Nat → Nat) (a : Nat) (rs : List Int) : Nat := vsum g rs + crd g.1 first rk (symAt g w a).toNat rs + 220000 * (w.length - a)
structure PInv (g : Gr) (w first : List Int) (rk : Nat → Nat → Nat) (a : Nat) (st out : List Int) : Prop where
  le : a ≤ w.length
  signs : ∀ s ∈ st, 0 ≤ s ∧ s < g.1 + g.2.1
  reach : ∀ s ∈ st, ¬ s < g.1 → Rch g.1 g.2.2.1 g.2.2.2 (s - g.1)
  sim : ∀ f steps ts wd r, growL (growF g f) st.reverse steps = some (ts, wd, r) → ∃ f' t, growF g f' (g.1 + g.2.2.1) (out ++ steps) = some (t, r) ∧ t.word = w.take a ++ wd
  size : st.length + 4 * phi g w first rk a st.reverse ≤ 20000000
  outs : out.length + phi g w first rk a st.reverse ≤ 20000000
theorem gcall_off {α : Type} {b : Bool} {X : (α → Prop) → Prop} {d : α} {k : α → Prop} (hb : b = false) (h : k d) : gcall b X d k := by
  rw [hb]; exact h
theorem gcall_on {α : Type} {b : Bool} {X : (α → Prop) → Prop} {d : α} {k : α → Prop} (hb : b = true) (h : X k) : gcall b X d k := by
  rw [hb]; exact h
set_option maxHeartbeats 1000000 in
theorem parse_loop (hg : GoodG g) (hw : GoodW g.1 w) (hs : SetsOk g sv first follow) (hc : ClearS g sv first follow) (hrk : RkOk g sv first rk) {K : LI × Int → Prop}
    (hok : ∀ f t out, growF g f (g.1 + g.2.2.1) out = some (t, []) → t.word = w → K (out, 0)) (hno : K ([], 5)) :
    Loop (σ := Int × LI × LI) (fun s X => VC29_l1 g w K (g.1, g.2.1, g.2.2.1, g.2.2.2, sv, first, follow) s.1 s.2.1 s.2.2 X) ((0 : Int), [(g.1 + g.2.2.1)], ([] : List Int)) := by
  have hK := hg.k
  have hN := hg.n
  have hst := hg.start
  have hfew := hg.few
  have hw12 := hw.1
  have hphi0 : phi g w first rk 0 [g.1 + g.2.2.1] ≤ 3000000 := by
    unfold phi
    have h1 := crd_le hg hs hrk (a := (symAt g w 0).toNat) (l := [g.1 + g.2.2.1]) (fun x hx => by rw [List.mem_singleton] at hx; omega)
    have h2 := vw_le hg (g.1 + g.2.2.1)
    simp only [vsum]
    omega
  refine Loop.by (fun t => ∃ a : Nat, t.1 = (a : Int) ∧ PInv g w first rk a t.2.1 t.2.2) (fun t => phi g w first rk t.1.toNat t.2.1.reverse) ⟨0, rfl, by omega, ?_, ?_, ?_, ?_, ?_⟩ ?_
  · intro s hs
    rw [List.mem_singleton] at hs
    subst hs; omega
  · intro s hs _
    rw [List.mem_singleton] at hs
    subst hs
    rw [show g.1 + g.2.2.1 - g.1 = g.2.2.1 by omega]
    exact .start
  · intro f steps ts wd r h
    dsimp only at h
    rw [List.reverse_cons, List.reverse_nil, List.nil_append, growL] at h
    cases h1 : growF g f (g.1 + g.2.2.1) steps with
    | none => rw [h1] at h; cases h
    | some z =>
      rw [h1] at h
      simp only [Option.bind_some, growL, List.append_nil] at h
      injection h with h; injection h with h2 h3; injection h3 with h3 h4
      exact ⟨f, z.1, by rw [List.nil_append, h1, ← h4], by rw [← h3]; rfl⟩
  · dsimp only
    simp only [List.reverse_cons, List.reverse_nil, List.nil_append, List.length_cons, List.length_nil]
    omega
  · dsimp only
    simp only [List.reverse_cons, List.reverse_nil, List.nil_append, List.length_nil]
    omega
  rintro ⟨a', st, out⟩ ⟨a, e, hi⟩ X hX
  dsimp only at e hi hX
  subst e
  rw [Int.toNat_natCast] at hX
  dsimp only
  have hle := hi.le
  unfold VC29_l1
  simp only [Int.toNat_natCast]
  refine ⟨fun hb => ?_, fun hb => ?_⟩
  · simp only [decide_eq_true_eq] at hb
    obtain ⟨init, t, rfl⟩ : ∃ init t, st = init ++ [t] := by
      rcases List.eq_nil_or_concat st with e | ⟨i, t, e⟩
      · subst e; simp at hb
      · exact ⟨i, t, by rw [e, List.concat_eq_append]⟩
    have hlen : (init ++ [t]).length = init.length + 1 := by simp
    have hlenI : (((init ++ [t]).length : Int) - 1) = (init.length : Int) := by rw [hlen]; omega
    have hget : (init ++ [t]).getD init.length 0 = t := by simp [List.getD_eq_getElem?_getD]
    have htake : (init ++ [t]).take init.length = init := by simp
    have hrev : (init ++ [t]).reverse = t :: init.reverse := by simp
    have hsize := hi.size
    have houts := hi.outs
    have hsim := hi.sim
    have htr := hi.signs t (by simp)
    have htreach := hi.reach t (by simp)
    have hsin : ∀ s ∈ init, 0 ≤ s ∧ s < g.1 + g.2.1 := fun s hs => hi.signs s (by simp [hs])
    have hrin : ∀ s ∈ init, ¬ s < g.1 → Rch g.1 g.2.2.1 g.2.2.2 (s - g.1) := fun s hs => hi.reach s (by simp [hs])
    rw [hrev] at hsize houts hsim
    rw [hrev] at hX
    rw [hlen] at hsize
    have hk4 : VC29_k4 g K (g.1, g.2.1, g.2.2.1, g.2.2.2, sv, first, follow) (a : Int) (init ++ [t]) out X (symAt g w a) := by
      unfold VC29_k4
      rw [hlenI]
      simp only [Int.toNat_natCast, hget, htake]
      refine ⟨fun hsym => ⟨fun hne => hno, fun he => ?_⟩, fun hname => ?_⟩
      · simp only [decide_eq_true_eq] at hsym
        have he' : t = symAt g w a := by
          by_cases e : t = symAt g w a
          · exact e
          · rw [show decide (t = symAt g w a) = false from decide_eq_false e] at he
            cases he
        have hal : a < w.length := by
          refine Nat.lt_of_not_le fun hle => ?_
          unfold symAt at he'
          rw [if_neg (by omega)] at he'
          omega
        have hm : phi g w first rk (a + 1) init.reverse < phi g w first rk a (t :: init.reverse) := by
          have h3 := crd_le hg hs hrk (a := (symAt g w (a + 1)).toNat) (l := init.reverse) (fun x hx => hsin x (by simpa using hx))
          unfold phi
          simp only [vsum]
          omega
        unfold VC29_k3
        refine ⟨by unfold InR; omega, hX _ ⟨a + 1, by simp, by omega, hsin, hrin, ?_, by dsimp only; omega, by dsimp only; omega⟩ ?_⟩
        · dsimp only
          intro f steps ts wd r h
          obtain ⟨f', t', h1, h2⟩ := hsim (f + 1) steps (.node (-1) [] [t] :: ts) ([t] ++ wd) r (by
            rw [growL, growF_sym hsym]
            simp only [Option.bind_some]
            rw [growL_mono (growF_mono g f) _ _ _ h]
            rfl)
          refine ⟨f', t', h1, ?_⟩
          rw [h2, List.take_add_one, getD_opt (d := 0) hal, List.append_assoc]
          have : w.getD a 0 = t := by rw [he']; unfold symAt; rw [if_pos hal]
          rw [this]
          rfl
        · dsimp only
          rw [show ((a : Int) + 1).toNat = a + 1 by omega]
          exact hm
      · simp only [decide_eq_false_iff_not] at hname
        have hsA : 0 ≤ symAt g w a := by
          unfold symAt
          split
          · rename_i h3
            exact (hw.2 _ (getD_mem h3)).1
          · omega
        -- a rule is chosen
        have hk5 : ∀ v : Nat, v < g.2.2.2.length → (g.2.2.2.getD v (0, [])).1 = t - g.1 → LookS g sv first follow v (symAt g w a).toNat → VC29_k5 g K (a : Int) (init ++ [t]) out X (v : Int) := by
          intro v hv hvn hvl
          have hmem : g.2.2.2.getD v (0, []) ∈ g.2.2.2 := getD_mem hv
          have hright := hg.right _ hmem
          have hshort := hg.short _ hmem
          unfold VC29_k5
          rw [hlenI]
          simp only [Int.toNat_natCast, htake]
          refine ⟨fun h => hno, fun _ => ⟨?_, ⟨by omega, by omega⟩, by unfold InR; omega, ?_⟩⟩
          · unfold roomN
            simp only [List.length_cons, List.length_nil]
            omega
          obtain ⟨row, hrow⟩ : ∃ row, (g.2.2.2.getD v (0, [])).2 = row := ⟨_, rfl⟩
          have hrowJ : rowJ g v = row := hrow
          have hlr : row.length ≤ 4 := by rw [← hrow]; exact hshort
          have hmlt : phi g w first rk a (row ++ init.reverse) < phi g w first rk a (t :: init.reverse) := by
            have := expand hg hs hc hrk hname htr.2 hv hvn hvl (htreach hname) init.reverse
            rw [hrowJ] at this
            unfold phi
            omega
          refine Loop.by (fun q : Int × LI => ∃ n : Nat, q.1 = (n : Int) - 1 ∧ n ≤ row.length ∧ q.2 = init ++ (row.drop n).reverse) (fun q => (q.1 + 1).toNat) ⟨row.length, by rw [hrow], Nat.le_refl _, by simp⟩ ?_
          rintro ⟨i', l2⟩ ⟨n, e, hn, hl2⟩ Z hZ
          dsimp only at e hl2 hZ
          subst e
          dsimp only
          unfold VC29_l2
          simp only [Int.toNat_natCast]
          simp only [hrow]
          refine ⟨fun hb => ?_, fun hb => ?_⟩
          · simp only [decide_eq_true_eq] at hb
            obtain ⟨m, rfl⟩ : ∃ m, n = m + 1 := ⟨n - 1, by omega⟩
            have em : ((m + 1 : Nat) : Int) - 1 = (m : Int) := by omega
            rw [em] at hZ ⊢
            simp only [Int.toNat_natCast]
            unfold VC29_y1
            refine ⟨⟨by omega, by omega⟩, ?_, by unfold InR; omega, hZ _ ⟨m, rfl, by omega, ?_⟩ (by dsimp only; omega)⟩
            · rw [hl2]
              unfold roomN
              simp only [List.length_append, List.length_reverse, List.length_drop, List.length_cons, List.length_nil]
              omega
            · dsimp only
              rw [hl2]
              have : row.drop m = row.getD m 0 :: row.drop (m + 1) := by
                rw [List.drop_eq_getElem_cons (show m < row.length by omega), getD_lt _ (show m < row.length by omega)]
              rw [this, List.reverse_cons, List.append_assoc]
          · simp only [decide_eq_false_iff_not] at hb
            have hn0 : n = 0 := by omega
            subst hn0
            rw [List.drop_zero] at hl2
            subst hl2
            unfold VC29_k6 VC29_k3
            have hrev2 : (init ++ row.reverse).reverse = row ++ init.reverse := by simp
            refine hX _ ⟨a, rfl, hle, ?_, ?_, ?_, ?_, ?_⟩ ?_
            · dsimp only
              intro s hs
              rw [List.mem_append, List.mem_reverse] at hs
              rcases hs with hs | hs
              · exact hsin s hs
              · exact hright s (by rw [hrow]; exact hs)
            · dsimp only
              intro s hs' hx
              rw [List.mem_append, List.mem_reverse] at hs'
              rcases hs' with hs' | hs'
              · exact hrin s hs' hx
              · refine .step (t - g.1) row s ?_ (htreach hname) hs' hx
                have h9 : g.2.2.2.getD v (0, []) = (t - g.1, row) := by rw [← hvn, ← hrow]
                rw [← h9]; exact hmem
            · dsimp only
              rw [hrev2]
              intro f steps ts wd r h
              obtain ⟨ts1, wd1, r1, ts2, wd2, q1, q2, q3⟩ := growL_append _ _ _ _ _ _ h
              have := hsim (f + 1) ((v : Int) :: steps) (.node (v : Int) ts1 wd1 :: ts2) (wd1 ++ wd2) r (by
                rw [growL, growF_cons hname, Int.toNat_natCast, if_pos ⟨by omega, by omega, hvn⟩, hrow, q1]
                simp only [Option.bind_some]
                rw [growL_mono (growF_mono g f) _ _ _ q2]
                rfl)
              obtain ⟨f', t', h1, h2⟩ := this
              refine ⟨f', t', ?_, by rw [h2, q3]⟩
              rw [List.append_assoc]
              exact h1
            · dsimp only
              rw [hrev2, List.length_append, List.length_reverse]
              omega
            · dsimp only
              rw [hrev2, List.length_append]
              simp only [List.length_cons, List.length_nil]
              omega
            · dsimp only
              rw [hrev2, Int.toNat_natCast]
              exact hmlt
        refine Loop.by (fun q : Int => ∃ v : Nat, q = (v : Int) ∧ v ≤ g.2.2.2.length) (fun q => ((g.2.2.2.length : Int) - q).toNat) ⟨0, rfl, by omega⟩ ?_
        rintro v' ⟨v, e, hv⟩ Z hZ
        subst e
        unfold VC29_l3
        rw [hlenI]
        simp only [Int.toNat_natCast, hget]
        refine ⟨fun hb => ?_, fun hb => ?_⟩
        · simp only [decide_eq_true_eq] at hb
          have hvl : v < g.2.2.2.length := by omega
          have hmem : g.2.2.2.getD v (0, []) ∈ g.2.2.2 := getD_mem hvl
          have hleft := hg.left _ hmem
          have hnext : InR ((v : Int) + 1) ∧ Z ((v : Int) + 1) := ⟨by unfold InR; omega, hZ _ ⟨v + 1, by simp, by omega⟩ (by omega)⟩
          refine ⟨⟨by omega, by omega⟩, by unfold InR; omega, fun hm => ?_, fun hm => ?_⟩
          · have hm' := hm
            simp only [decide_eq_true_eq] at hm'
            refine look_loop hg hvl hs.usv hs.ok1 (k3 := VC29_k9 g K (g.1, g.2.1, g.2.2.1, g.2.2.2, sv, first, follow) (a : Int) (init ++ [t]) out X (symAt g w a) (v : Int) Z) ?_
            intro v4 v5 hu hp5 hp4
            have hlf : (g.2.2.2.getD v (0, [])).1.toNat < g.2.1.toNat := by omega
            have hlen2 := hs.ok2.1
            have hk10 : ∀ o, U32 o → (∀ s : Nat, bt o s = true → LookS g sv first follow v s) → VC29_k10 g K (a : Int) (init ++ [t]) out X (symAt g w a) (v : Int) Z o := by
              intro o ho hob
              unfold VC29_k10
              rw [hlenI]
              simp only [Int.toNat_natCast, hget]
              refine gcall_on hm (VC47_of ho hsA ?_)
              rw [hm, Bool.true_and]
              unfold VC29_k8
              exact ⟨fun hbt => hk5 v hvl hm' (hob _ hbt), fun _ => hnext⟩
            unfold VC29_k9
            simp only [Int.toNat_natCast]
            refine ⟨fun h5 => ⟨⟨by omega, by omega⟩, hk10 _ (u32_or hu (hs.ok2.2 _ hlf)) fun s hs' => ?_⟩, fun _ => hk10 _ hu fun s hs' => .inl ((hp4 s).1 hs')⟩
            rw [bt_or hu (hs.ok2.2 _ hlf), Bool.or_eq_true] at hs'
            rcases hs' with h | h
            · exact .inl ((hp4 s).1 h)
            · exact .inr ⟨hp5.1 h5, h⟩
          · refine gcall_off hm ?_
            rw [hm, Bool.false_and]
            unfold VC29_k8
            exact ⟨fun h => (by cases h), fun _ => hnext⟩
        · unfold VC29_k7 VC29_k5
          refine ⟨fun _ => hno, fun h => ?_⟩
          simp at h
    rw [hlenI]
    refine ⟨by unfold InR; omega, ⟨by omega, by rw [hlen]; omega⟩, by unfold InR; omega, ⟨by omega, by omega⟩, fun hb => ⟨?_, ?_⟩, fun hb => ?_⟩
    · simp only [decide_eq_true_eq] at hb
      exact ⟨by omega, by omega⟩
    · simp only [decide_eq_true_eq] at hb
      have : symAt g w a = w.getD a 0 := by unfold symAt; rw [if_pos (by omega)]
      rw [this] at hk4
      exact hk4
    · simp only [decide_eq_false_iff_not] at hb
      have : symAt g w a = g.1 := by unfold symAt; rw [if_neg (by omega)]
      rw [this] at hk4
      exact hk4
  · simp only [decide_eq_false_iff_not] at hb
    have hst0 : st = [] := by
      cases st with
      | nil => rfl
      | cons x l => simp only [List.length_cons] at hb; omega
    subst hst0
    unfold VC29_k2
    refine ⟨fun hb2 => hno, fun hb2 => ?_⟩
    simp only [decide_eq_false_iff_not] at hb2
    have : a = w.length := by omega
    subst this
    obtain ⟨f', t, h1, h2⟩ := hi.sim 0 [] [] [] [] rfl
    rw [List.append_nil] at h1
    exact hok f' t out h1 (by rw [h2, List.take_length, List.append_nil])
theorem VC29_of {K : LI × Int → Prop} (hbad : ∀ e, e ≠ 0 → ¬ (GoodG g ∧ GoodW g.1 w) → K ([], e)) (h3 : GoodG g → GoodW g.1 w → K ([], 3)) (h5 : GoodG g → GoodW g.1 w → K ([], 5))
    (hok : GoodG g → GoodW g.1 w → ∀ f t out, growF g f (g.1 + g.2.2.1) out = some (t, []) → t.word = w → K (out, 0)) : VC29 g w K := by
  unfold VC29
  refine VC44_of (fun e he hng => ⟨fun _ => hbad e he hng, fun h0 => ?_⟩) (fun hg hw => ⟨fun h0 => ?_, fun _ => ?_⟩)
  · simp at h0; exact absurd h0 he
  · simp at h0
  have hK := hg.k
  have hN := hg.n
  have hst := hg.start
  refine VCo52_of hg fun sv l16 l19 hs => ⟨⟨by dsimp only; omega, by dsimp only; omega⟩, ?_⟩
  refine seen_loop hg hs (Kt := VC29_k12 g w K (g.1, g.2.1, g.2.2.1, g.2.2.2, sv, l16, l19)) (Kf := VC29_k1 g w K (g.1, g.2.1, g.2.2.1, g.2.2.2, sv, l16, l19) false) (fun hc => ?_) ?_
  · unfold VC29_k12 VC29_k1
    obtain ⟨rk, hrk⟩ := hs.rank
    exact ⟨fun h => (by cases h), fun _ => ⟨by unfold InR; omega, parse_loop hg hw hs hc hrk (hok hg hw) (h5 hg hw)⟩⟩
  · unfold VC29_k1
    exact ⟨fun _ => h3 hg hw, fun h => (by cases h)⟩
end
theorem VC22_of {a b : List Int} (hl : a.length ≤ 1000) {K : Bool → Prop} (h : K (decide (a = b))) : VC22 a b K := by
  unfold VC22
  refine ⟨fun hne => ?_, fun heq => ?_⟩
  · have : a ≠ b := by
      intro e
      simp only [Bool.not_eq_true', decide_eq_false_iff_not] at hne
      exact hne (by rw [e])
    rwa [decide_eq_false this] at h
  · have hlen : a.length = b.length := by
      simp only [Bool.not_eq_false', decide_eq_true_eq] at heq
      omega
    refine loop_count a.length (fun i => ∀ j, j < i → a.getD j 0 = b.getD j 0) (by intro j hj; omega) ?_
    intro i hi hP X hX
    unfold VC22_l1
    simp only [Int.toNat_natCast]
    refine ⟨fun hb => ?_, fun hb => ?_⟩
    · simp only [decide_eq_true_eq] at hb
      refine ⟨⟨by omega, by omega⟩, ⟨by omega, by omega⟩, fun hd => ?_, fun hs => ⟨by unfold InR; omega, hX (by omega) fun j hj => ?_⟩⟩
      · simp only [Bool.not_eq_true', decide_eq_false_iff_not] at hd
        have : a ≠ b := fun e => hd (by rw [e])
        rwa [decide_eq_false this] at h
      · simp only [Bool.not_eq_false', decide_eq_true_eq] at hs
        by_cases e : j < i
        · exact hP j e
        · have : j = i := by omega
          subst this
          exact hs
    · simp only [decide_eq_false_iff_not] at hb
      unfold VC22_k1
      have : a = b := ext_getD 0 hlen fun j hj => hP j (by omega)
      rwa [decide_eq_true this] at h
theorem aheadSteps (g : Gr) (w : List Int) : VC8 g w (fun b => b = true) := by
  unfold VC8
  have good : ∀ {b : Bool}, (b = true ↔ GoodG g ∧ GoodW g.1 w) → GoodG g → GoodW g.1 w → (!b) = true → False := by
    intro b hb h1 h2 h
    rw [hb.2 ⟨h1, h2⟩] at h
    cases h
  refine VC29_of (fun e he hng => VC21_of fun b hb => ⟨fun _ => by simp [he], fun h => ?_⟩) (fun hg hw => VC21_of fun b hb => ⟨fun h => absurd (good hb hg hw h) id, fun _ => ⟨fun _ => by simp, fun h => by simp at h⟩⟩)
    (fun hg hw => VC21_of fun b hb => ⟨fun h => absurd (good hb hg hw h) id, fun _ => ⟨fun _ => by simp, fun h => by simp at h⟩⟩) (fun hg hw f t out hgrow hword => VC21_of fun b hb => ⟨fun h => absurd (good hb hg hw h) id, fun _ => ⟨fun h => by simp at h, fun _ => VC30_of fun r hr => ?_⟩⟩)
  · exfalso
    cases b with
    | true => exact hng (hb.1 rfl)
    | false => cases h
  · have hw12 := hw.1
    by_cases h60 : out.length ≤ 60
    · have h62 := (growF_any g f _ out t [] hgrow).2 62 (by simp only [List.length_nil]; omega)
      rcases hr with ⟨_, _, h⟩ | ⟨h0, _, _, t', h1, h2, _⟩
      · exact absurd ⟨hg, h60, t, h62, by rw [hword]; omega⟩ h
      · rw [h62] at h1
        injection h1 with h1; injection h1 with h1 _
        have hrw : r.1 = w := by rw [h2, ← h1, hword]
        have hd : decide ((60 : Int) < (out.length : Int)) = false := by simp only [decide_eq_false_iff_not]; omega
        simp only [h0, hrw, hd, decide_true, Bool.not_true, Bool.and_false, Bool.not_false, Bool.and_true, Bool.false_or, Bool.true_and]
        refine gcall_on rfl (VC22_of (by omega) ?_)
        simp
    · have hd : decide ((60 : Int) < (out.length : Int)) = true := by simp only [decide_eq_true_eq]; omega
      rcases hr with ⟨h0, _, _⟩ | ⟨_, _, h, _⟩
      · have h0' : decide (r.2 = 0) = false := decide_eq_false h0
        simp only [hd, h0', Bool.not_false, Bool.and_true, Bool.not_true, Bool.and_false, Bool.true_or]
        exact gcall_off rfl trivial
      · exact absurd h h60
end Dec
