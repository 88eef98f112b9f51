/-
  Parse ends: a weight of stacks (plain).
-/
import Derived.Test.YtfpchbpnoggogaaAhd
import Derived.Test.YtfpchbpnoggogaaMaps
set_option linter.unusedSimpArgs false
set_option linter.unusedVariables false
namespace Dec
open Go Go.Proofs Cfg
def GnN (K : Int) (R : List Rl) : Nat → Int → Prop
  | 0, _ => False
  | n + 1, A => ∃ l, (A, l) ∈ R ∧ ∀ s ∈ l, ¬ s < K ∧ GnN K R n (s - K)
section
variable {K : Int} {R : List Rl}
theorem GnN.up : ∀ {n : Nat} {A : Int}, GnN K R n A → GnN K R (n + 1) A
  | 0, _, h => h.elim
  | n + 1, _, ⟨l, h1, h2⟩ => ⟨l, h1, fun s hs => ⟨(h2 s hs).1, (h2 s hs).2.up⟩⟩
theorem GnN.mono {n m : Nat} {A : Int} (h : GnN K R n A) (hm : n ≤ m) : GnN K R m A := by
  induction m with
  | zero => have : n = 0 := by omega
            subst this; exact h
  | succ m ih =>
    by_cases e : n = m + 1
    · subst e; exact h
    · exact (ih (by omega)).up
theorem gnN_all : ∀ l : List Int, (∀ s ∈ l, ∃ n, GnN K R n (s - K)) → ∃ n, ∀ s ∈ l, GnN K R n (s - K)
  | [], _ => ⟨0, by simp⟩
  | x :: l, h => by
    obtain ⟨n, hn⟩ := h x List.mem_cons_self
    obtain ⟨m, hm⟩ := gnN_all l fun s hs => h s (List.mem_cons_of_mem _ hs)
    refine ⟨max n m, fun s hs => ?_⟩
    rcases List.mem_cons.1 hs with e | e
    · subst e; exact hn.mono (Nat.le_max_left _ _)
    · exact (hm s e).mono (Nat.le_max_right _ _)
theorem gn_gnN {A : Int} (h : Gn K R false A) : ∃ n, GnN K R n A := by
  induction h with
  | mk A l h h1 h2 ih =>
    have hk : ∀ s ∈ l, ¬ s < K := fun s hs hlt => by have := h1 s hs hlt; cases this
    obtain ⟨n, hn⟩ := gnN_all l fun s hs => ih s hs (hk s hs)
    exact ⟨n + 1, l, h, fun s hs => ⟨hk s hs, hn s hs⟩⟩
theorem gnN_gn : ∀ {n : Nat} {A : Int}, GnN K R n A → Gn K R false A
  | 0, _, h => h.elim
  | n + 1, A, ⟨l, h1, h2⟩ => .mk A l h1 (fun s hs hlt => absurd hlt (h2 s hs).1) fun s hs _ => gnN_gn (h2 s hs).2
theorem gn_names : ∀ (n : Nat) (A : Int), GnN K R (n + 1) A → ¬ GnN K R n A → ∃ l : List Int, l.length = n + 1 ∧ l.Nodup ∧ ∀ B ∈ l, (∃ r ∈ R, r.1 = B) ∧ GnN K R (n + 1) B
  | 0, A, h, hn => by
    obtain ⟨l, h1, h2⟩ := id h
    exact ⟨[A], rfl, by simp, by simpa using ⟨⟨l, h1⟩, h⟩⟩
  | n + 1, A, h, hn => by
    obtain ⟨l, h1, h2⟩ := id h
    obtain ⟨s, hs, hsn⟩ : ∃ s ∈ l, ¬ GnN K R n (s - K) := by
      refine Classical.byContradiction fun hno => hn ⟨l, h1, fun s hs => ⟨(h2 s hs).1, Classical.byContradiction fun h3 => hno ⟨s, hs, h3⟩⟩⟩
    obtain ⟨q, q1, q2, q3⟩ := gn_names n (s - K) (h2 s hs).2 hsn
    refine ⟨A :: q, by simp [q1], List.nodup_cons.2 ⟨fun hm => hn (q3 A hm).2, q2⟩, ?_⟩
    intro B hB
    rcases List.mem_cons.1 hB with e | e
    · rw [e]; exact ⟨⟨(A, l), h1, rfl⟩, h⟩
    · exact ⟨(q3 B e).1, (q3 B e).2.up⟩
theorem nodup_le' {α : Type} [DecidableEq α] {a b : List α} (ha : a.Nodup) (hb : ∀ x, x ∈ a → x ∈ b) : a.length ≤ b.length := by
  refine Dec.pigeon b.length a.length (fun i => match a[i]? with | some x => b.idxOf x | none => 0) (fun i hi => ?_) fun i j hij hj e => ?_
  · simp only [List.getElem?_eq_getElem hi]
    exact List.idxOf_lt_length_of_mem (hb _ (List.getElem_mem hi))
  · simp only [List.getElem?_eq_getElem (show i < a.length by omega), List.getElem?_eq_getElem hj] at e
    have h1 := List.idxOf_lt_length_of_mem (hb _ (List.getElem_mem (show i < a.length by omega)))
    have h2 := List.idxOf_lt_length_of_mem (hb _ (List.getElem_mem hj))
    have e1 : b[b.idxOf a[i]]'h1 = a[i] := List.getElem_idxOf h1
    have e2 : b[b.idxOf a[j]]'h2 = a[j] := List.getElem_idxOf h2
    have e3 : a[i] = a[j] := by rw [← e1, ← e2]; congr 1
    have := (List.nodup_iff_pairwise_ne.1 ha)
    rw [List.pairwise_iff_getElem] at this
    exact this i j (by omega) hj hij e3
theorem nodup_few {l : List Int} (hl : l.Nodup) {N : Nat} (h : ∀ x ∈ l, 0 ≤ x ∧ x < (N : Int)) : l.length ≤ N := by
  have h1 : (l.map Int.toNat).Nodup := by
    rw [List.nodup_iff_pairwise_ne, List.pairwise_map]
    refine List.Pairwise.imp_of_mem ?_ (List.nodup_iff_pairwise_ne.1 hl)
    intro a b ha hb hne e
    have := h a ha
    have := h b hb
    exact hne (by omega)
  have := nodup_le' h1 (b := List.range N) (fun x hx => by
    obtain ⟨y, hy, rfl⟩ := List.mem_map.1 hx
    have := h y hy
    rw [List.mem_range]; omega)
  simpa using this
theorem gn_five {A : Int} (hR : ∀ r ∈ R, 0 ≤ r.1 ∧ r.1 < 5) {n : Nat} (hn : GnN K R n A) : GnN K R 5 A := by
  induction n with
  | zero => exact hn.elim
  | succ n ih =>
    by_cases h1 : GnN K R n A
    · exact ih h1
    · obtain ⟨l, h2, h3, h4⟩ := gn_names n A hn h1
      have := nodup_few h3 (N := 5) (fun x hx => by
        obtain ⟨r, h5, h6⟩ := (h4 x hx).1
        have := hR r h5
        omega)
      exact hn.mono (by omega)
theorem gn_least {A : Int} (h : ∃ n, GnN K R n A) : ∃ n, GnN K R n A ∧ ∀ m, m < n → ¬ GnN K R m A := by
  obtain ⟨n, hn⟩ := h
  induction n using Nat.strongRecOn with
  | _ n ih =>
    by_cases h : ∃ m, m < n ∧ GnN K R m A
    · obtain ⟨m, h1, h2⟩ := h; exact ih m h1 h2
    · exact ⟨n, hn, fun m hm h' => h ⟨m, hm, h'⟩⟩
open Classical in
noncomputable def nr (K : Int) (R : List Rl) (A : Int) : Nat := if h : ∃ n, GnN K R n A then Classical.choose (gn_least h) else 0
theorem nr_spec {A : Int} (h : ∃ n, GnN K R n A) : GnN K R (nr K R A) A ∧ ∀ m, m < nr K R A → ¬ GnN K R m A := by
  unfold nr
  rw [dif_pos h]
  exact Classical.choose_spec (gn_least h)
theorem nr_le {A : Int} {n : Nat} (h : GnN K R n A) : nr K R A ≤ n := Nat.le_of_not_lt fun hlt => (nr_spec ⟨n, h⟩).2 n hlt h
theorem nr_five (hR : ∀ r ∈ R, 0 ≤ r.1 ∧ r.1 < 5) (A : Int) : nr K R A ≤ 5 := by
  by_cases h : ∃ n, GnN K R n A
  · obtain ⟨n, hn⟩ := h; exact nr_le (gn_five hR hn)
  · unfold nr; rw [dif_neg h]; omega
def nw : Nat → Nat
  | 0 => 0
  | n + 1 => 4 * nw n + 1
theorem nw_mono : ∀ {n m : Nat}, n ≤ m → nw n ≤ nw m
  | 0, m, _ => Nat.zero_le _
  | n + 1, 0, h => absurd h (by omega)
  | n + 1, m + 1, h => by have := nw_mono (n := n) (m := m) (by omega); unfold nw; omega
end
section
variable {g : Gr} {sv : Int} {first follow : List Int}
noncomputable def vw (g : Gr) (x : Int) : Nat := if x < g.1 then 0 else nw (nr g.1 g.2.2.2 (x - g.1))
noncomputable def vsum (g : Gr) : List Int → Nat
  | [] => 0
  | x :: l => vw g x + vsum g l
theorem vsum_append (a b : List Int) : vsum g (a ++ b) = vsum g a + vsum g b := by
  induction a with
  | nil => simp [vsum]
  | cons x a ih => simp only [List.cons_append, vsum, ih]; omega
theorem rules_five (hg : GoodG g) : ∀ r ∈ g.2.2.2, 0 ≤ r.1 ∧ r.1 < 5 := fun r hr => by have := hg.left r hr; have := hg.n; omega
theorem vw_le (hg : GoodG g) (x : Int) : vw g x ≤ 341 := by
  unfold vw
  split
  · omega
  · have := nw_mono (nr_five (K := g.1) (rules_five hg) (x - g.1))
    have e : nw 5 = 341 := rfl
    omega
theorem vsum_le {b : Nat} : ∀ {l : List Int}, (∀ x ∈ l, vw g x ≤ b) → vsum g l ≤ l.length * b
  | [], _ => by simp [vsum]
  | x :: l, h => by
    have h1 := h x List.mem_cons_self
    have h2 := vsum_le (l := l) fun y hy => h y (List.mem_cons_of_mem _ hy)
    simp only [vsum, List.length_cons, Nat.add_mul, Nat.one_mul]
    omega
def crd (K : Int) (first : List Int) (rk : Nat → Nat → Nat) (a : Nat) : List Int → Nat
  | [] => 0
  | x :: l => if x < K then 0 else if bt (first.getD (x - K).toNat 0) a = true then 1366 * (rk (x - K).toNat a + 1) else crd K first rk a l
theorem crd_skip {K : Int} {rk : Nat → Nat → Nat} {a : Nat} : ∀ {pre l : List Int}, (∀ y ∈ pre, ¬ y < K ∧ ¬ bt (first.getD (y - K).toNat 0) a = true) → crd K first rk a (pre ++ l) = crd K first rk a l
  | [], _, _ => rfl
  | y :: pre, l, h => by
    obtain ⟨h1, h2⟩ := h y List.mem_cons_self
    rw [List.cons_append, crd, if_neg h1, if_neg h2]
    exact crd_skip fun z hz => h z (List.mem_cons_of_mem _ hz)
def RkOk (g : Gr) (sv : Int) (first : List Int) (rk : Nat → Nat → Nat) : Prop := ∀ A s, A < g.2.1.toNat → bt (first.getD A 0) s = true → rk A s ≤ pops first ∧ Wit g sv first rk A s
theorem crd_le (hg : GoodG g) (hs : SetsOk g sv first follow) {rk : Nat → Nat → Nat} (hrk : RkOk g sv first rk) {a : Nat} : ∀ {l : List Int}, (∀ x ∈ l, 0 ≤ x ∧ x < g.1 + g.2.1) → crd g.1 first rk a l ≤ 219926
  | [], _ => by simp [crd]
  | x :: l, h => by
    rw [crd]
    split
    · omega
    · rename_i hx
      split
      · rename_i hb
        have hr := h x List.mem_cons_self
        have h1 := (hrk _ a (by omega) hb).1
        have h2 := pops_le first
        have h3 := hs.ok1.1
        have h4 := hg.n
        omega
      · exact crd_le hg hs hrk fun y hy => h y (List.mem_cons_of_mem _ hy)
theorem clear_one (hc : ClearS g sv first follow) {a b : Nat} (ha : a < g.2.2.2.length) (hb : b < g.2.2.2.length) (hn : leftJ g a = leftJ g b) {s : Nat} (h1 : LookS g sv first follow a s) (h2 : LookS g sv first follow b s) : a = b := by
  rcases Nat.lt_trichotomy a b with h | h | h
  · exact absurd ⟨h1, h2⟩ (hc a b h hb hn s)
  · exact h
  · exact absurd ⟨h2, h1⟩ (hc b a h ha hn.symm s)
theorem mem_rule {r : Rl} (h : r ∈ g.2.2.2) : ∃ j, j < g.2.2.2.length ∧ g.2.2.2.getD j (0, []) = r := by
  obtain ⟨a, ha, ea⟩ := List.mem_iff_getElem.1 h
  exact ⟨a, ha, by rw [getD_lt _ ha, ea]⟩
theorem rch_kid (hg : GoodG g) {j : Nat} (hj : j < g.2.2.2.length) (hr : Rch g.1 g.2.2.1 g.2.2.2 (leftJ g j)) {m : Nat} (hm : m < (rowJ g j).length) (hx : ¬ (rowJ g j).getD m 0 < g.1) : Rch g.1 g.2.2.1 g.2.2.2 ((rowJ g j).getD m 0 - g.1) :=
  .step (leftJ g j) (rowJ g j) _ (getD_mem (d := ((0 : Int), ([] : List Int))) hj) hr (getD_mem hm) hx
theorem nl_gn (hg : GoodG g) (hs : SetsOk g sv first follow) {x : Int} : NlAt g.1 sv x ↔ ¬ x < g.1 ∧ Gn g.1 g.2.2.2 false (x - g.1) := by
  unfold NlAt
  refine and_congr_right fun hx => ?_
  rw [hs.null, Int.toNat_of_nonneg (by omega)]
theorem no_both (hg : GoodG g) (hs : SetsOk g sv first follow) (hc : ClearS g sv first follow) {rk : Nat → Nat → Nat} (hrk : RkOk g sv first rk) {a : Nat} : ∀ (n : Nat) (X : Int), GnN g.1 g.2.2.2 n X → Rch g.1 g.2.2.1 g.2.2.2 X → 0 ≤ X ∧ X < g.2.1 → bt (follow.getD X.toNat 0) a = true → bt (first.getD X.toNat 0) a = true → False
  | 0, _, h, _, _, _, _ => h
  | n + 1, X, ⟨l, hmem, hkids⟩, hr, hX, hfol, hfst => by
    obtain ⟨j0, hj0, e0⟩ := mem_rule hmem
    have erow : rowJ g j0 = l := by unfold rowJ; rw [e0]
    have eleft : leftJ g j0 = X := by unfold leftJ; rw [e0]
    have hall : ∀ q, q < l.length → NlAt g.1 sv (l.getD q 0) := fun q hq => by
      have := hkids _ (getD_mem (d := 0) hq)
      exact (nl_gn hg hs).2 ⟨this.1, gnN_gn this.2⟩
    have hl0 : LookS g sv first follow j0 a := .inr ⟨fun q _ hq => by rw [erow] at hq ⊢; exact hall q hq, by rw [eleft]; exact hfol⟩
    obtain ⟨_, j1, m, w1, w2, w3, w4, w5, w6⟩ := hrk X.toNat a (by omega) hfst
    have hl1 : LookS g sv first follow j1 a := .inl ⟨m, by omega, w3, fun q _ hq => w4 q hq, w5, fun hx => (w6 hx).1⟩
    have ej := clear_one hc w1 hj0 (by rw [w2, eleft]; omega) hl1 hl0
    subst ej
    rw [erow] at w3 w5 w6
    have hkid := hkids _ (getD_mem (d := 0) w3)
    have hkr := kid_range hg hj0 (m := m) (by rw [erow]; exact w3)
    rw [erow] at hkr
    refine no_both hg hs hc hrk n (l.getD m 0 - g.1) hkid.2 ?_ (by omega) ?_ (w6 hkid.1).1
    · have := rch_kid hg hj0 (by rw [eleft]; exact hr) (m := m) (by rw [erow]; exact w3) (by rw [erow]; exact hkid.1)
      rw [erow] at this
      exact this
    · have := hs.fol j1 hj0 (by rw [eleft]; exact hr) m (by rw [erow]; exact w3) (by rw [erow]; exact hkid.1) a (.inr ⟨fun q _ hq => by rw [erow] at hq ⊢; exact hall q hq, by rw [eleft]; exact hfol⟩)
      rw [erow] at this
      exact this
theorem expand (hg : GoodG g) (hs : SetsOk g sv first follow) (hc : ClearS g sv first follow) {rk : Nat → Nat → Nat} (hrk : RkOk g sv first rk) {x : Int} (hx : ¬ x < g.1) (hxr : x < g.1 + g.2.1) {j : Nat} (hj : j < g.2.2.2.length) (hl : leftJ g j = x - g.1) {a : Nat} (hlook : LookS g sv first follow j a) (hr : Rch g.1 g.2.2.1 g.2.2.2 (x - g.1)) (st : List Int) :
    vsum g (rowJ g j ++ st) + crd g.1 first rk a (rowJ g j ++ st) < vsum g (x :: st) + crd g.1 first rk a (x :: st) := by
  have hshort : (rowJ g j).length ≤ 4 := hg.short _ (getD_mem (d := ((0 : Int), ([] : List Int))) hj)
  have hrj : Rch g.1 g.2.2.1 g.2.2.2 (leftJ g j) := by rw [hl]; exact hr
  rw [vsum_append]
  simp only [vsum]
  rw [crd, if_neg hx]
  by_cases hf : bt (first.getD (x - g.1).toNat 0) a = true
  · rw [if_pos hf]
    obtain ⟨_, j0, m, w1, w2, w3, w4, w5, w6⟩ := hrk _ a (by omega) hf
    have hl0 : LookS g sv first follow j0 a := .inl ⟨m, by omega, w3, fun q _ hq => w4 q hq, w5, fun hx => (w6 hx).1⟩
    have ej := clear_one hc w1 hj (by rw [w2, hl]; omega) hl0 hlook
    subst ej
    have hv : vsum g (rowJ g j0) ≤ (rowJ g j0).length * 341 := vsum_le fun y _ => vw_le hg y
    have hsplit : rowJ g j0 = (rowJ g j0).take m ++ ((rowJ g j0).getD m 0 :: (rowJ g j0).drop (m + 1)) := by
      rw [getD_lt _ w3, ← List.drop_eq_getElem_cons w3, List.take_append_drop]
    have hcr : crd g.1 first rk a (rowJ g j0 ++ st) ≤ 1366 * rk (x - g.1).toNat a := by
      rw [hsplit, List.append_assoc, crd_skip]
      · rw [List.cons_append, crd]
        split
        · omega
        · rename_i hxm
          obtain ⟨w7, w8⟩ := w6 hxm
          rw [if_pos w7]
          omega
      · intro y hy
        obtain ⟨q, hq, e⟩ := List.mem_iff_getElem.1 hy
        rw [List.length_take] at hq
        have hq2 : q < (rowJ g j0).length := by omega
        rw [List.getElem_take] at e
        have hnl := w4 q (by omega)
        rw [getD_lt _ hq2, e] at hnl
        refine ⟨hnl.1, fun hb => ?_⟩
        obtain ⟨n, hn⟩ := gn_gnN ((nl_gn hg hs).1 hnl).2
        have hkr := kid_range hg hj hq2
        rw [getD_lt _ hq2, e] at hkr
        have hrk2 := rch_kid hg hj hrj hq2 (by rw [getD_lt _ hq2, e]; exact hnl.1)
        rw [getD_lt _ hq2, e] at hrk2
        have hfo := hs.fol j0 hj hrj q hq2 (by rw [getD_lt _ hq2, e]; exact hnl.1) a (.inl ⟨m, by omega, w3, fun p _ hp => w4 p hp, w5, fun hx => (w6 hx).1⟩)
        rw [getD_lt _ hq2, e] at hfo
        exact no_both hg hs hc hrk n (y - g.1) hn hrk2 (by have := hnl.1; omega) hfo hb
    omega
  · rw [if_neg hf]
    have hnobeg : ¬ Beg g.1 sv first (rowJ g j) 0 a := fun h => hf (by have := hs.clos j hj a h; rw [hl] at this; exact this)
    rcases hlook with h | ⟨hall, hfol⟩
    · exact absurd h hnobeg
    have hcr : crd g.1 first rk a (rowJ g j ++ st) = crd g.1 first rk a st := by
      refine crd_skip fun y hy => ?_
      obtain ⟨q, hq, e⟩ := List.mem_iff_getElem.1 hy
      have hnl := hall q (by omega) hq
      rw [getD_lt _ hq, e] at hnl
      refine ⟨hnl.1, fun hb => hnobeg ⟨q, by omega, hq, fun p hp1 hp2 => hall p hp1 (by omega), ?_⟩⟩
      rw [getD_lt _ hq, e]
      exact ⟨fun h => absurd h hnl.1, fun _ => hb⟩
    rw [hcr]
    -- the name's least rule
    have hgn : Gn g.1 g.2.2.2 false (x - g.1) := by
      refine .mk _ (rowJ g j) (by rw [← hl]; exact getD_mem (d := ((0 : Int), ([] : List Int))) hj) (fun s hs' hlt => ?_) (fun s hs' _ => ?_)
      · obtain ⟨q, hq, e⟩ := List.mem_iff_getElem.1 hs'
        have hnl := hall q (by omega) hq
        rw [getD_lt _ hq, e] at hnl
        exact absurd hlt hnl.1
      · obtain ⟨q, hq, e⟩ := List.mem_iff_getElem.1 hs'
        have hnl := hall q (by omega) hq
        rw [getD_lt _ hq, e] at hnl
        exact ((nl_gn hg hs).1 hnl).2
    obtain ⟨h1, h2⟩ := nr_spec (gn_gnN hgn)
    obtain ⟨k, hk⟩ : ∃ k, nr g.1 g.2.2.2 (x - g.1) = k := ⟨_, rfl⟩
    have hvx : vw g x = nw k := by unfold vw; rw [if_neg hx, hk]
    rw [hk] at h1
    cases k with
    | zero => exact h1.elim
    | succ k =>
      obtain ⟨l, hmem, hkids⟩ := h1
      obtain ⟨j0, hj0, e0⟩ := mem_rule hmem
      have erow : rowJ g j0 = l := by unfold rowJ; rw [e0]
      have eleft : leftJ g j0 = x - g.1 := by unfold leftJ; rw [e0]
      have hl0 : LookS g sv first follow j0 a := .inr ⟨fun q _ hq => by
        rw [erow] at hq ⊢
        have := hkids _ (getD_mem (d := 0) hq)
        exact (nl_gn hg hs).2 ⟨this.1, gnN_gn this.2⟩, by rw [eleft, ← hl]; exact hfol⟩
      have ej := clear_one hc hj0 hj (by rw [eleft, hl]) hl0 (.inr ⟨hall, hfol⟩)
      subst ej
      have hv : vsum g (rowJ g j0) ≤ (rowJ g j0).length * nw k := vsum_le fun y hy => by
        rw [erow] at hy
        have := hkids y hy
        unfold vw
        rw [if_neg this.1]
        exact nw_mono (nr_le this.2)
      have h4 : (rowJ g j0).length * nw k ≤ 4 * nw k := Nat.mul_le_mul_right _ hshort
      rw [hvx]
      show vsum g (rowJ g j0) + vsum g st + crd g.1 first rk a st < (4 * nw k + 1) + vsum g st + crd g.1 first rk a st
      omega
end
end Dec
