/-
thicket.rows: all ways to divide a range among signs (plain).
-/
import Derived.Test.YtfchgkifdfgbmaaCountZ
set_option linter.unusedSimpArgs false
set_option linter.unusedVariables false
namespace Dec
open Go Go.Proofs Cfg
abbrev Key := Int × (Int × Int)
theorem VC68_of {n : Int} (h0 : 0 ≤ n) (h1 : n ≤ 1000) {K : List Key → Prop} (h : K []) : VC68 n K := by
 unfold VC68 VC68_k1
 refine ⟨fun hc => (by simp only [decide_eq_true_eq] at hc; omega), fun _ => ⟨by unfold InR; omega, by unfold InR; omega, fun hp => ?_, fun _ => h⟩⟩
 simp only [decide_eq_true_eq] at hp
 exact ⟨⟨by omega, by omega⟩, ⟨by omega, by omega⟩, ⟨by omega, by omega⟩, by simpa using h⟩
theorem VC59_of {a b : List Key} (hl : a.length + b.length ≤ 1000) {K : List Key → Prop} (h : K (a ++ b)) : VC59 [a, b] K := by
 unfold VC59
 refine Loop.by (fun t : Int × Int => (t = (0, 0)) ∨ (t = ((a.length : Int), 1)) ∨ t = ((a.length : Int) + b.length, 2)) (fun t => (2 - t.2).toNat) (.inl rfl) ?_
 have h2 : ([a, b] : List (List Key)).length = 2 := rfl
 rintro ⟨n, v⟩ ht X hX
 dsimp only
 unfold VC59_l2
 rw [h2]
 rcases ht with e | e | e <;> cases e
 ·refine ⟨fun _ => ⟨⟨by omega, by omega⟩, ?_⟩, fun hb => (by simp at hb)⟩
  show InR (0 + (a.length : Int)) ∧ _
  refine ⟨by unfold InR; omega, fun hc => (by simp only [decide_eq_true_eq] at hc; omega), fun _ => ⟨by unfold InR; omega, hX _ (.inr (.inl ?_)) (by dsimp only; omega)⟩⟩
  show ((0 : Int) + (a.length : Int), (0 : Int) + 1) = _
  simp
 ·refine ⟨fun _ => ⟨⟨by omega, by omega⟩, ?_⟩, fun hb => (by simp at hb)⟩
  show InR ((a.length : Int) + (b.length : Int)) ∧ _
  refine ⟨by unfold InR; omega, fun hc => ?_, fun _ => ⟨by unfold InR; omega, hX _ (.inr (.inr ?_)) (by dsimp only; omega)⟩⟩
  ·have hc : ((a.length : Int) + (b.length : Int)) < 0 := by simpa using hc
   omega
  ·show ((a.length : Int) + (b.length : Int), (1 : Int) + 1) = _
   rfl
 ·refine ⟨fun hb => (by simp at hb), fun _ => ?_⟩
  unfold VC59_k1
  refine VC68_of (by omega) (by omega) ?_
  refine Loop.by (fun t : Int × List Key => (t = (0, [])) ∨ (t = (1, a)) ∨ t = (2, a ++ b)) (fun t => (2 - t.1).toNat) (.inl rfl) ?_
  rintro ⟨v, l⟩ ht X hX
  dsimp only
  unfold VC59_l1
  rw [h2]
  rcases ht with e | e | e <;> cases e
  ·refine ⟨fun _ => ⟨⟨by omega, by omega⟩, ?_⟩, fun hb => (by simp at hb)⟩
   show roomN (([] : List Key).length + a.length) ∧ _
   exact ⟨by unfold roomN; simp only [List.length_nil]; omega, by unfold InR; omega, hX _ (.inr (.inl rfl)) (by dsimp only; omega)⟩
  ·refine ⟨fun _ => ⟨⟨by omega, by omega⟩, ?_⟩, fun hb => (by simp at hb)⟩
   show roomN (a.length + b.length) ∧ _
   exact ⟨by unfold roomN; omega, by unfold InR; omega, hX _ (.inr (.inr rfl)) (by dsimp only; omega)⟩
  ·refine ⟨fun hb => (by simp at hb), fun _ => ?_⟩
   unfold VC59_k2
   exact h
def rowsL (D : Int → Nat → Nat → Bool) : List Int → Nat → Nat → List (List Key)
 | [], _, _ => []
 | [s], i, j => if D s i j then [[(s, ((i : Int), (j : Int)))]] else []
 | s :: t :: l, i, j => ((List.range (j - (i + 1))).map (· + (i + 1))).flatMap fun e => if D s i e then (rowsL D (t :: l) e j).map ((s, ((i : Int), (e : Int))) :: ·) else []
theorem rows_two {D : Int → Nat → Nat → Bool} {s t : Int} {l : List Int} {i j : Nat} : rowsL D (s :: t :: l) i j = ((List.range (j - (i + 1))).map (· + (i + 1))).flatMap fun e => if D s i e then (rowsL D (t :: l) e j).map ((s, ((i : Int), (e : Int))) :: ·) else [] := by rw [rowsL]
theorem flat_le {α β : Type} {f : α → List β} {c : Nat} : ∀ (l : List α), (∀ x ∈ l, (f x).length ≤ c) → (l.flatMap f).length ≤ l.length * c
 | [], _ => by simp
 | x :: l, h => by
  have := flat_le l fun y hy => h y (List.mem_cons_of_mem _ hy)
  have := h x List.mem_cons_self
  rw [List.flatMap_cons, List.length_append, List.length_cons, Nat.add_mul, Nat.one_mul]
  omega
theorem rows_few {D : Int → Nat → Nat → Bool} : ∀ (l : List Int) (i j : Nat), j ≤ 12 → (rowsL D l i j).length ≤ 13 ^ l.length
 | [], _, _, _ => by simp [rowsL]
 | [s], i, j, _ => by rw [rowsL]; split <;> simp
 | s :: t :: l, i, j, hj => by
  rw [rows_two]
  refine Nat.le_trans (flat_le (c := 13 ^ (t :: l).length) _ fun e he => ?_) ?_
  ·obtain ⟨z, hz, rfl⟩ := List.mem_map.1 he
   have hz' := List.mem_range.1 hz
   split
   ·rw [List.length_map]
    exact rows_few (t :: l) _ j hj
   ·simp
  ·rw [List.length_map, List.length_range, show (s :: t :: l).length = (t :: l).length + 1 from rfl, Nat.pow_succ, Nat.mul_comm (13 ^ _)]
   exact Nat.mul_le_mul_right _ (by omega)
theorem rows_len {D : Int → Nat → Nat → Bool} : ∀ (l : List Int) (i j : Nat) (r : List Key), r ∈ rowsL D l i j → r.length = l.length
 | [], _, _, r, h => by simp [rowsL] at h
 | [s], i, j, r, h => by
  rw [rowsL] at h
  split at h
  ·rw [List.mem_singleton] at h
   subst h; rfl
  ·cases h
 | s :: t :: l, i, j, r, h => by
  rw [rows_two] at h
  obtain ⟨e, _, h⟩ := List.mem_flatMap.1 h
  split at h
  ·obtain ⟨q, hq, rfl⟩ := List.mem_map.1 h
   rw [List.length_cons, rows_len (t :: l) e j q hq]
   rfl
  ·cases h
section
variable {g : Gr} {w : List Int} {sv : Tbl}
open Classical in
noncomputable def drv (g : Gr) (w : List Int) (s : Int) (i j : Nat) : Bool := decide (SignS g.1 w (fun A i j => Der g.1 g.2.2.2 w A i j) s i j)
def TabD (g : Gr) (w : List Int) (sv : Tbl) : Prop := TabOk w.length sv ∧ ∀ i j (a : Nat), i ≤ j → j ≤ w.length → (bt (tb sv i j) a = true ↔ Der g.1 g.2.2.2 w (a : Int) i j)
theorem VC58_drv (hg : GoodG g) (hw : GoodW g.1 w) (ht : TabD g w sv) {s : Int} {i j : Nat} (hs : 0 ≤ s ∧ s ≤ 100) (hij : i ≤ j) (hj : j ≤ w.length) {K : Bool → Prop} (h : K (drv g w s i j)) : VC58 sv g w s ((i : Int), (j : Int)) K := by
 refine VC58_of hg.k ht.1 hs hj hw.1 hij fun b hb => ?_
 have e : b = drv g w s i j := by
  unfold drv
  rw [Bool.eq_iff_iff, hb]
  simp only [decide_eq_true_eq]
  unfold SignS
  split
  ·exact Iff.rfl
  ·rename_i hk
   unfold Sv
   have := ht.2 i j (s - g.1).toNat hij hj
   rw [show (((s - g.1).toNat : Nat) : Int) = s - g.1 by omega] at this
   rw [this]
   exact ⟨fun h => h.2, fun h => ⟨by omega, h⟩⟩
 rw [← e] at h
 exact h
theorem rows_of (hg : GoodG g) (hw : GoodW g.1 w) (ht : TabD g w sv) {c6 : List (Key × List (Int × List Key))} : ∀ (f : Nat) (l : List Int) (i j : Nat) (K : List (List Key) → Prop), l.length ≤ f → l ≠ [] → l.length ≤ 4 → (∀ s ∈ l, 0 ≤ s ∧ s ≤ 100) → i ≤ j → j ≤ w.length → K (rowsL (drv g w) l i j) →
  VCc34_it g.1 g.2.1 g.2.2.1 g.2.2.2 w sv c6 f l (i : Int) (j : Int) K := by
 intro f
 induction f with
 | zero => intro l i j K hf hne; exact absurd (List.length_eq_zero_iff.1 (by omega)) hne
 | succ f ih =>
  intro l i j K hf hne h4 hs hij hj hK
  have hw12 := hw.1
  show VCc34 g.1 g.2.1 g.2.2.1 g.2.2.2 w sv c6 (VCc34_it g.1 g.2.1 g.2.2.1 g.2.2.2 w sv c6 f) l (i : Int) (j : Int) K
  unfold VCc34
  have hg' : (g.1, (g.2.1, (g.2.2.1, g.2.2.2))) = g := rfl
  cases l with
  | nil => exact absurd rfl hne
  | cons s l =>
  have hs0 := hs s List.mem_cons_self
  cases l with
  | nil =>
   refine ⟨fun _ => ⟨⟨by omega, by simp⟩, ?_⟩, fun h => (by simp at h)⟩
   rw [hg']
   show VC58 sv g w s ((i : Int), (j : Int)) _
   refine VC58_drv hg hw ht hs0 hij hj ⟨fun hd => ⟨⟨by omega, by simp⟩, ?_⟩, fun hd => ?_⟩
   ·rw [rowsL, if_pos hd] at hK
    exact hK
   ·rw [rowsL, if_neg (by rw [hd]; decide)] at hK
    exact hK
  | cons t l =>
  have hlen : (s :: t :: l).length = l.length + 2 := rfl
  refine ⟨fun h => (by simp only [hlen, decide_eq_true_eq] at h; omega), fun _ => ⟨by unfold InR; omega, ?_⟩⟩
  obtain ⟨F, hF⟩ : ∃ F : Nat → List (List Key), F = fun e => if drv g w s i e then (rowsL (drv g w) (t :: l) e j).map ((s, ((i : Int), (e : Int))) :: ·) else [] := ⟨_, rfl⟩
  have hall : rowsL (drv g w) (s :: t :: l) i j = ((List.range (j - (i + 1))).map (· + (i + 1))).flatMap F := by rw [rows_two, hF]
  have hfew := rows_few (D := drv g w) (s :: t :: l) i j (by omega)
  have h13 : 13 ^ (s :: t :: l).length ≤ 28561 := Nat.le_trans (Nat.pow_le_pow_right (by decide) h4) (by decide)
  rw [hall] at hK hfew
  refine Loop.by (fun q : Int × List (List Key) => ∃ e : Nat, q.1 = (e : Int) ∧ i + 1 ≤ e ∧ e ≤ 60 ∧ q.2 ++ ((List.range (j - e)).map (· + e)).flatMap F = ((List.range (j - (i + 1))).map (· + (i + 1))).flatMap F) (fun q => ((j : Int) - q.1).toNat) ⟨i + 1, by simp, Nat.le_refl _, by omega, by simp⟩ ?_
  rintro ⟨e', out⟩ ⟨e, he, hie, he60, hout⟩ X hX
  dsimp only at he hout hX
  subst he
  dsimp only
  unfold VCc34_l1
  refine ⟨fun hb => ?_, fun hb => ?_⟩
  ·simp only [decide_eq_true_eq] at hb
   have e2 : j - e = (j - (e + 1)) + 1 := by omega
   have e3 : ((List.range (j - e)).map (· + e)).flatMap F = F e ++ ((List.range (j - (e + 1))).map (· + (e + 1))).flatMap F := by
    rw [e2, List.range_succ_eq_map]
    simp only [List.map_cons, List.map_map, List.flatMap_cons, Nat.zero_add]
    congr 3
    funext x
    simp only [Function.comp]
    omega
   rw [e3, ← List.append_assoc] at hout
   have hnext : ∀ o, o = out ++ F e → VCc34_k2 (e : Int) X o := by
    rintro o rfl
    unfold VCc34_k2
    exact ⟨by unfold InR; omega, hX _ ⟨e + 1, by simp, by omega, by omega, hout⟩ (by dsimp only; omega)⟩
   refine ⟨⟨by omega, by simp only [hlen]; omega⟩, ?_⟩
   rw [hg']
   show VC58 sv g w s ((i : Int), (e : Int)) _
   refine VC58_drv hg hw ht hs0 (by omega) (by omega) ⟨fun hd => ?_, fun hd => ⟨⟨by omega, by simp only [hlen]; omega⟩, ?_⟩⟩
   ·refine hnext _ ?_
    have hd' : drv g w s i e = false := by simpa using hd
    rw [hF]
    simp [hd']
   ·have hd' : drv g w s i e = true := by simpa using hd
    have hFe : F e = (rowsL (drv g w) (t :: l) e j).map ((s, ((i : Int), (e : Int))) :: ·) := by rw [hF]; simp [hd']
    refine ih (t :: l) e j _ (by simp only [List.length_cons] at hf ⊢; omega) (by simp) (by simp only [List.length_cons] at h4 ⊢; omega) (fun x hx => hs x (List.mem_cons_of_mem _ hx)) (by omega) hj ?_
    obtain ⟨RR, hRR⟩ : ∃ RR, rowsL (drv g w) (t :: l) e j = RR := ⟨_, rfl⟩
    rw [hRR] at hFe ⊢
    have hRlen : ∀ r ∈ RR, r.length = l.length + 1 := by
     intro r hr
     rw [← hRR] at hr
     exact rows_len _ _ _ _ hr
    have hfewo : out.length + RR.length ≤ 28561 := by
     have h9 : ((out ++ F e) ++ ((List.range (j - (e + 1))).map (· + (e + 1))).flatMap F).length ≤ 28561 := by rw [hout]; omega
     rw [List.length_append, List.length_append, hFe, List.length_map] at h9
     omega
    refine Loop.by (fun q : Int × List (List Key) => ∃ v : Nat, q.1 = (v : Int) ∧ v ≤ RR.length ∧ q.2 = out ++ (RR.take v).map ((s, ((i : Int), (e : Int))) :: ·)) (fun q => ((RR.length : Int) - q.1).toNat) ⟨0, rfl, by omega, by simp⟩ ?_
    rintro ⟨v', out2⟩ ⟨v, hv, hvl, ho2⟩ X2 hX2
    dsimp only at hv ho2 hX2
    subst hv ho2
    dsimp only
    unfold VCc34_l2
    simp only [Int.toNat_natCast]
    refine ⟨fun hb2 => ⟨⟨by omega, by simp only [decide_eq_true_eq] at hb2; omega⟩, ⟨by omega, by simp only [hlen]; omega⟩, ?_⟩, fun hb2 => ?_⟩
    ·simp only [decide_eq_true_eq] at hb2
     have hvR : v < RR.length := by omega
     have hmem : RR.getD v [] ∈ RR := getD_mem hvR
     have hlr := hRlen _ hmem
     simp only [hlen] at h4
     show VC59 [[(s, ((i : Int), (e : Int)))], RR.getD v []] _
     refine VC59_of (by simp only [List.length_cons, List.length_nil]; omega) ⟨?_, by unfold InR; omega, hX2 _ ⟨v + 1, by simp, by omega, ?_⟩ (by dsimp only; omega)⟩
     ·unfold roomN
      simp only [List.length_append, List.length_map, List.length_take, List.length_cons, List.length_nil]
      omega
     ·dsimp only
      rw [List.append_assoc, List.take_succ_eq_append_getElem hvR, List.map_append, getD_lt _ hvR]
      rfl
    ·simp only [decide_eq_false_iff_not] at hb2
     have : v = RR.length := by omega
     subst this
     unfold VCc34_k3
     refine hnext _ ?_
     rw [List.take_length, hFe]
  ·simp only [decide_eq_false_iff_not] at hb
   have e2 : j - e = 0 := by omega
   rw [e2] at hout
   simp only [List.range_zero, List.map_nil, List.flatMap_nil, List.append_nil] at hout
   unfold VCc34_k1
   rw [hout]
   exact hK
end
end Dec
namespace Dec
open Go Go.Proofs Cfg
abbrev Wy := List (Int × List Key)
abbrev Wm := List (Key × Wy)
def allKeys : List Key := (List.range 8).flatMap fun (s : Nat) => (List.range 13).flatMap fun (i : Nat) => (List.range 13).map fun (j : Nat) => ((s : Int), ((i : Int), (j : Int)))
theorem allKeys_len : allKeys.length = 1352 := by
 simp only [allKeys, List.length_flatMap, List.length_map, List.length_range]
 rfl
theorem allKeys_mem {s i j : Nat} (hs : s < 8) (hi : i < 13) (hj : j < 13) : ((s : Int), ((i : Int), (j : Int))) ∈ allKeys := by
 unfold allKeys
 exact List.mem_flatMap.2 ⟨s, List.mem_range.2 hs, List.mem_flatMap.2 ⟨i, List.mem_range.2 hi, List.mem_map.2 ⟨j, List.mem_range.2 hj, rfl⟩⟩⟩
section
variable {g : Gr} {w : List Int} {sv : Tbl}
noncomputable def waysAt (g : Gr) (w : List Int) (key : Key) (v : Nat) : Wy := if key.1 = g.1 + (g.2.2.2.getD v (0, [])).1 then (rowsL (drv g w) (g.2.2.2.getD v (0, [])).2 key.2.1.toNat key.2.2.toNat).map fun r => ((v : Int), r) else []
noncomputable def waysOf (g : Gr) (w : List Int) (key : Key) : Wy := (List.range g.2.2.2.length).flatMap (waysAt g w key)
def kids (l : Wy) : List Key := l.flatMap (·.2)
def KeyOk (g : Gr) (w : List Int) (key : Key) : Prop := (0 ≤ key.1 ∧ key.1 < g.1 + g.2.1) ∧ ∃ i j : Nat, key.2 = ((i : Int), (j : Int)) ∧ i ≤ j ∧ j ≤ w.length ∧ drv g w key.1 i j = true
theorem rows_keys : ∀ (l : List Int) (i j : Nat) (r : List Key), (∀ s ∈ l, 0 ≤ s ∧ s < g.1 + g.2.1) → i ≤ j → j ≤ w.length → r ∈ rowsL (drv g w) l i j → ∀ y ∈ r, KeyOk g w y
 | [], _, _, r, _, _, _, h => by simp [rowsL] at h
 | [s], i, j, r, hs, hij, hj, h => by
  rw [rowsL] at h
  split at h
  ·rename_i hd
   rw [List.mem_singleton] at h
   subst h
   intro y hy
   rw [List.mem_singleton] at hy
   subst hy
   exact ⟨hs s List.mem_cons_self, i, j, rfl, hij, hj, hd⟩
  ·cases h
 | s :: t :: l, i, j, r, hs, hij, hj, h => by
  rw [rows_two] at h
  obtain ⟨e, he, h⟩ := List.mem_flatMap.1 h
  obtain ⟨z, hz, rfl⟩ := List.mem_map.1 he
  have hz' := List.mem_range.1 hz
  split at h
  ·rename_i hd
   obtain ⟨q, hq, rfl⟩ := List.mem_map.1 h
   intro y hy
   rcases List.mem_cons.1 hy with rfl | hy
   ·exact ⟨hs s List.mem_cons_self, i, _, rfl, by omega, by omega, hd⟩
   ·exact rows_keys (t :: l) _ j q (fun x hx => hs x (List.mem_cons_of_mem _ hx)) (by omega) hj hq y hy
  ·cases h
theorem ways_kids (hg : GoodG g) {key : Key} (hk : KeyOk g w key) {x : Int × List Key} (hx : x ∈ waysOf g w key) : ∀ y ∈ x.2, KeyOk g w y := by
 obtain ⟨_, i, j, e, hij, hj, _⟩ := hk
 obtain ⟨v, hv, hx⟩ := List.mem_flatMap.1 hx
 have hv' := List.mem_range.1 hv
 unfold waysAt at hx
 split at hx
 ·obtain ⟨r, hr, rfl⟩ := List.mem_map.1 hx
  rw [e] at hr
  dsimp only at hr
  rw [Int.toNat_natCast, Int.toNat_natCast] at hr
  exact rows_keys _ i j r (hg.right _ (getD_mem hv')) hij hj hr
 ·cases hx
theorem ways_len (hg : GoodG g) {key : Key} {x : Int × List Key} (hx : x ∈ waysOf g w key) : x.2.length ≤ 4 := by
 obtain ⟨v, hv, hx⟩ := List.mem_flatMap.1 hx
 have hv' := List.mem_range.1 hv
 unfold waysAt at hx
 split at hx
 ·obtain ⟨r, hr, rfl⟩ := List.mem_map.1 hx
  have := rows_len _ _ _ _ hr
  have := hg.short _ (getD_mem (d := ((0 : Int), ([] : List Int))) hv')
  dsimp only
  omega
 ·cases hx
structure WOk (g : Gr) (w : List Int) (W : Wm) : Prop where
 nd : (W.map Prod.fst).Nodup
 ok : ∀ key ∈ W.map Prod.fst, KeyOk g w key ∧ mget W key = some (waysOf g w key)
theorem WOk.few (hg : GoodG g) (hw : GoodW g.1 w) {W : Wm} (h : WOk g w W) : W.length ≤ 1352 := by
 have hk := hg.k
 have hn := hg.n
 have hw12 := hw.1
 have := nodup_le' h.nd (b := allKeys) fun x hx => by
  obtain ⟨⟨h1, i, j, e, hij, hj, _⟩, _⟩ := h.ok x hx
  obtain ⟨s, p⟩ := x
  dsimp only at h1 e
  subst e
  obtain ⟨m, rfl⟩ := Int.eq_ofNat_of_zero_le h1.1
  exact allKeys_mem (by omega) (by omega) (by omega)
 rw [List.length_map, allKeys_len] at this
 exact this
theorem wOk_nil : WOk g w [] := ⟨by simp, by intro key h; cases h⟩
theorem wOk_mset {W : Wm} (h : WOk g w W) {key : Key} (hk : KeyOk g w key) (hn : (mget W key).isSome = false) : WOk g w (mset W key (waysOf g w key)) ∧ (mset W key (waysOf g w key)).map Prod.fst = W.map Prod.fst ++ [key] := by
 have e := mset_keys W key (waysOf g w key)
 rw [hn, if_neg (by decide)] at e
 have hno := mget_none_keys W key hn
 refine ⟨⟨?_, fun y hy => ?_⟩, e⟩
 ·rw [e, List.nodup_append]
  exact ⟨h.nd, by simp, fun x hx y hy e => hno (by rw [← List.mem_singleton.1 hy, ← e]; exact hx)⟩
 ·rw [mget_mset]
  rw [e] at hy
  rcases List.mem_append.1 hy with hy | hy
  ·have hne : y ≠ key := fun e => hno (e ▸ hy)
   rw [if_neg hne]
   exact h.ok y hy
  ·rw [List.mem_singleton.1 hy, if_pos rfl]
   exact ⟨hk, rfl⟩
def keysOf (W : Wm) : List Key := W.map Prod.fst
def Grown (g : Gr) (w : List Int) (W W' : Wm) : Prop := (∀ y ∈ keysOf W, y ∈ keysOf W') ∧ W.length ≤ W'.length ∧ ∀ y ∈ keysOf W', y ∉ keysOf W → ∀ z ∈ kids (waysOf g w y), z ∈ keysOf W'
theorem Grown.refl {W : Wm} : Grown g w W W := ⟨fun _ h => h, Nat.le_refl _, fun y h1 h2 => absurd h1 h2⟩
theorem Grown.trans {A B C : Wm} (h1 : Grown g w A B) (h2 : Grown g w B C) : Grown g w A C := by
 refine ⟨fun y h => h2.1 y (h1.1 y h), Nat.le_trans h1.2.1 h2.2.1, fun y hy hno z hz => ?_⟩
 by_cases hb : y ∈ keysOf B
 ·exact h2.1 z (h1.2.2 y hb hno z hz)
 ·exact h2.2.2 y hy hb z hz
theorem mem_keys_of_some {W : Wm} : ∀ {key : Key}, (mget W key).isSome = true → key ∈ keysOf W := by
 intro key h
 unfold keysOf
 induction W with
 | nil => simp [mget] at h
 | cons x W ih =>
  obtain ⟨a, b⟩ := x
  by_cases e : key = a
  ·subst e; simp
  ·rw [List.map_cons]
   refine List.mem_cons_of_mem _ (ih ?_)
   simpa [mget, e] using h
theorem waysAt_few (hg : GoodG g) (hw : GoodW g.1 w) {key : Key} (hk : KeyOk g w key) (v : Nat) (hv : v < g.2.2.2.length) : (waysAt g w key v).length ≤ 28561 := by
 obtain ⟨_, i, j, e, hij, hj, _⟩ := hk
 have hw12 := hw.1
 unfold waysAt
 split
 ·rw [List.length_map, e]
  have h1 := rows_few (D := drv g w) (g.2.2.2.getD v (0, [])).2 i j (by omega)
  have h2 : 13 ^ (g.2.2.2.getD v (0, [])).2.length ≤ 28561 := Nat.le_trans (Nat.pow_le_pow_right (by decide) (hg.short _ (getD_mem hv))) (by decide)
  simpa using Nat.le_trans h1 h2
 ·simp
set_option maxHeartbeats 1000000 in
theorem grow_tree (hg : GoodG g) (hw : GoodW g.1 w) (hp : Prop1 g) (ht : TabD g w sv) : ∀ (f : Nat) (key : Key) (W : Wm) (K : Wm → Prop), 1352 < W.length + f → WOk g w W → KeyOk g w key → (∀ W', WOk g w W' → Grown g w W W' → key ∈ keysOf W' → K W') →
  VCc16_it g.1 g.2.1 g.2.2.1 g.2.2.2 w sv f key.1 key.2.1 key.2.2 W K := by
 intro f
 induction f with
 | zero => intro key W K hf hW _ _; have := hW.few hg hw; omega
 | succ f ih =>
  intro key W K hf hW hkey hK
  have hk3 := hg.k
  have hn5 := hg.n
  have hfew := hg.few
  have hw12 := hw.1
  show VCc16 g.1 g.2.1 g.2.2.1 g.2.2.2 w sv (VCc16_it g.1 g.2.1 g.2.2.1 g.2.2.2 w sv f) key.1 key.2.1 key.2.2 W K
  unfold VCc16
  have hkk : (key.1, (key.2.1, key.2.2)) = key := rfl
  rw [hkk]
  refine ⟨fun hsome => hK W hW .refl (mem_keys_of_some hsome), fun hnone => ?_⟩
  obtain ⟨hW1, hkeys1⟩ := wOk_mset hW hkey hnone
  have hlen1 : (mset W key (waysOf g w key)).length = W.length + 1 := by
   have := congrArg List.length hkeys1
   simpa using this
  have hmem1 : key ∈ keysOf (mset W key (waysOf g w key)) := by unfold keysOf; rw [hkeys1]; simp
  refine Loop.by (fun q : Int × Wy => ∃ v : Nat, q.1 = (v : Int) ∧ v ≤ g.2.2.2.length ∧ q.2 = ((List.range g.2.2.2.length).take v).flatMap (waysAt g w key) ∧ q.2.length ≤ v * 28561) (fun q => ((g.2.2.2.length : Int) - q.1).toNat) ⟨0, rfl, by omega, by simp, by simp⟩ ?_
  rintro ⟨v', l⟩ ⟨v, hv, hvl, hl, hll⟩ X hX
  dsimp only at hv hl hll hX
  subst hv
  dsimp only
  unfold VCc16_l3
  simp only [Int.toNat_natCast]
  refine ⟨fun hb => ⟨⟨by omega, by simp only [decide_eq_true_eq] at hb; omega⟩, ?_⟩, fun hb => ?_⟩
  ·simp only [decide_eq_true_eq] at hb
   have hvr : v < g.2.2.2.length := by omega
   have hmem : g.2.2.2.getD v (0, []) ∈ g.2.2.2 := getD_mem hvr
   have hleft := hg.left _ hmem
   have htake : ((List.range g.2.2.2.length).take (v + 1)).flatMap (waysAt g w key) = l ++ waysAt g w key v := by
    rw [hl, List.take_succ_eq_append_getElem (by simpa using hvr), List.flatMap_append]
    simp
   have hat := waysAt_few hg hw hkey v hvr
   have hnext : ∀ l2, l2 = l ++ waysAt g w key v → VCc16_k4 (v : Int) X l2 := by
    rintro l2 rfl
    unfold VCc16_k4
    refine ⟨by unfold InR; omega, hX _ ⟨v + 1, by simp, by omega, htake.symm, ?_⟩ (by dsimp only; omega)⟩
    dsimp only
    rw [List.length_append, Nat.add_mul, Nat.one_mul]
    omega
   refine ⟨by unfold InR; omega, fun hhit => ?_, fun hmiss => ?_⟩
   ·simp only [decide_eq_true_eq] at hhit
    obtain ⟨hsr, i, j, e, hij, hj, hd⟩ := hkey
    refine ⟨(g.2.2.2.getD v (0, [])).2.length, ?_⟩
    rw [e]
    refine rows_of hg hw ht _ _ i j _ (Nat.le_refl _) (hp _ hmem).1 (hg.short _ hmem) (fun s hs => by have := hg.right _ hmem s hs; omega) hij hj ?_
    have hwa : waysAt g w key v = (rowsL (drv g w) (g.2.2.2.getD v (0, [])).2 i j).map fun r => ((v : Int), r) := by
     unfold waysAt
     rw [if_pos hhit, e]
     dsimp only
     rw [Int.toNat_natCast, Int.toNat_natCast]
    obtain ⟨RR, hRR⟩ : ∃ RR, rowsL (drv g w) (g.2.2.2.getD v (0, [])).2 i j = RR := ⟨_, rfl⟩
    rw [hRR] at hwa ⊢
    have hRl : RR.length ≤ 28561 := by rw [hwa, List.length_map] at hat; exact hat
    refine Loop.by (fun q : Int × Wy => ∃ u : Nat, q.1 = (u : Int) ∧ u ≤ RR.length ∧ q.2 = l ++ (RR.take u).map fun r => ((v : Int), r)) (fun q => ((RR.length : Int) - q.1).toNat) ⟨0, rfl, by omega, by simp⟩ ?_
    rintro ⟨u', l2⟩ ⟨u, hu, hul, hl2⟩ X2 hX2
    dsimp only at hu hl2 hX2
    subst hu hl2
    dsimp only
    unfold VCc16_l4
    simp only [Int.toNat_natCast]
    refine ⟨fun hb2 => ⟨⟨by omega, by simp only [decide_eq_true_eq] at hb2; omega⟩, ?_, by unfold InR; omega, hX2 _ ⟨u + 1, by simp, by simp only [decide_eq_true_eq] at hb2; omega, ?_⟩ (by simp only [decide_eq_true_eq] at hb2; dsimp only; omega)⟩, fun hb2 => ?_⟩
    ·unfold roomN
     simp only [List.length_append, List.length_map, List.length_take, List.length_cons, List.length_nil]
     have : v * 28561 ≤ 10 * 28561 := Nat.mul_le_mul_right _ (by omega)
     omega
    ·simp only [decide_eq_true_eq] at hb2
     have huR : u < RR.length := by omega
     dsimp only
     rw [List.append_assoc, List.take_succ_eq_append_getElem huR, List.map_append, getD_lt _ huR]
     rfl
    ·simp only [decide_eq_false_iff_not] at hb2
     have : u = RR.length := by omega
     subst this
     unfold VCc16_k5
     refine hnext _ ?_
     rw [List.take_length, hwa]
   ·simp only [decide_eq_false_iff_not] at hmiss
    refine hnext _ ?_
    have : waysAt g w key v = [] := by unfold waysAt; rw [if_neg hmiss]
    rw [this, List.append_nil]
  ·simp only [decide_eq_false_iff_not] at hb
   have : v = g.2.2.2.length := by omega
   subst this
   have hlw : l = waysOf g w key := by
    rw [hl, List.take_of_length_le (by simp)]
    rfl
   clear hX
   subst hlw
   unfold VCc16_k1
   rw [hkk]
   obtain ⟨L, hL⟩ : ∃ L, waysOf g w key = L := ⟨_, rfl⟩
   rw [hL] at hW1 hkeys1 hlen1 hmem1 hll ⊢
   have hx4 : ∀ x ∈ L, x.2.length ≤ 4 := fun x hx => ways_len hg (by rw [hL]; exact hx)
   have hLl : L.length ≤ 285610 := Nat.le_trans hll (Nat.mul_le_mul_right _ hfew)
   have hkids : ∀ x ∈ L, ∀ y ∈ x.2, KeyOk g w y := by
    intro x hx
    rw [← hL] at hx
    exact ways_kids hg hkey hx
   refine Loop.by (fun q : Int × Wm => ∃ v : Nat, q.1 = (v : Int) ∧ v ≤ L.length ∧ WOk g w q.2 ∧ Grown g w (mset W key L) q.2 ∧ ∀ x ∈ L.take v, ∀ y ∈ x.2, y ∈ keysOf q.2) (fun q => ((L.length : Int) - q.1).toNat) ⟨0, rfl, by omega, hW1, .refl, by simp⟩ ?_
   rintro ⟨v', W2⟩ ⟨v, hv, hvl, hW2, hG2, hd2⟩ X hX
   dsimp only at hv hW2 hG2 hd2 hX
   subst hv
   dsimp only
   unfold VCc16_l1
   refine ⟨fun hb => ⟨⟨by omega, by simp only [decide_eq_true_eq] at hb; omega⟩, ?_⟩, fun hb => ?_⟩
   ·simp only [decide_eq_true_eq] at hb
    have hvL : v < L.length := by omega
    obtain ⟨x, hx⟩ : ∃ x, L.getD v ((0 : Int), ([] : List Key)) = x := ⟨_, rfl⟩
    have hxm : x ∈ L := by rw [← hx]; exact getD_mem hvL
    have hxe : L[v] = x := by rw [← hx, getD_lt _ hvL]
    have hx4' := hx4 x hxm
    refine Loop.by (fun q : Int × Wm => ∃ u : Nat, q.1 = (u : Int) ∧ u ≤ x.2.length ∧ WOk g w q.2 ∧ Grown g w W2 q.2 ∧ ∀ y ∈ x.2.take u, y ∈ keysOf q.2) (fun q => ((x.2.length : Int) - q.1).toNat) ⟨0, rfl, by omega, hW2, .refl, by simp⟩ ?_
    rintro ⟨u', W3⟩ ⟨u, hu, hul, hW3, hG3, hd3⟩ X2 hX2
    dsimp only at hu hW3 hG3 hd3 hX2
    subst hu
    dsimp only
    unfold VCc16_l2
    simp only [Int.toNat_natCast, hx]
    refine ⟨fun hb2 => ⟨⟨by omega, by simp only [decide_eq_true_eq] at hb2; omega⟩, ?_⟩, fun hb2 => ?_⟩
    ·simp only [decide_eq_true_eq] at hb2
     have hux : u < x.2.length := by omega
     have hym : x.2.getD u z3 ∈ x.2 := getD_mem hux
     have hye : x.2[u] = x.2.getD u z3 := by rw [getD_lt _ hux]
     have hlen3 : (mset W key L).length ≤ W3.length := Nat.le_trans hG2.2.1 hG3.2.1
     refine ih (x.2.getD u z3) W3 _ (by omega) hW3 (hkids x hxm _ hym) fun W4 hW4 hG4 hm4 => ⟨by unfold InR; omega, hX2 _ ⟨u + 1, by simp, by omega, hW4, hG3.trans hG4, ?_⟩ (by dsimp only; omega)⟩
     intro y hy
     rw [List.take_succ_eq_append_getElem hux] at hy
     rcases List.mem_append.1 hy with hy | hy
     ·exact hG4.1 y (hd3 y hy)
     ·rw [List.mem_singleton.1 hy, hye]
      exact hm4
    ·simp only [decide_eq_false_iff_not] at hb2
     have : u = x.2.length := by omega
     subst this
     rw [List.take_length] at hd3
     unfold VCc16_k3
     refine ⟨by unfold InR; omega, hX _ ⟨v + 1, by simp, by omega, hW3, hG2.trans hG3, ?_⟩ (by dsimp only; omega)⟩
     intro a ha
     rw [List.take_succ_eq_append_getElem hvL] at ha
     rcases List.mem_append.1 ha with ha | ha
     ·exact fun y hy => hG3.1 y (hd2 a ha y hy)
     ·rw [List.mem_singleton.1 ha, hxe]
      exact hd3
   ·simp only [decide_eq_false_iff_not] at hb
    have : v = L.length := by omega
    subst this
    rw [List.take_length] at hd2
    unfold VCc16_k2
    refine hK W2 hW2 ⟨fun y hy => hG2.1 y ?_, by have := hG2.2.1; omega, fun y hy hno z hz => ?_⟩ (hG2.1 key hmem1)
    ·unfold keysOf at hy ⊢
     rw [hkeys1]
     exact List.mem_append_left _ hy
    ·by_cases h1 : y ∈ keysOf (mset W key L)
     ·have hyk : y = key := by
       unfold keysOf at h1 hno
       rw [hkeys1] at h1
       rcases List.mem_append.1 h1 with h1 | h1
       ·exact absurd h1 hno
       ·exact List.mem_singleton.1 h1
      subst hyk
      rw [hL] at hz
      unfold kids at hz
      obtain ⟨x, hx, hz⟩ := List.mem_flatMap.1 hz
      exact hd2 x hx z hz
     ·exact hG2.2.2 y hy h1 z hz
end
end Dec
namespace Dec
open Go Go.Proofs Cfg
def cmpI : List Int → List Int → Int
 | [], [] => 0
 | [], _ :: _ => -1
 | _ :: _, [] => 1
 | a :: l, b :: m => if a < b then -1 else if b < a then 1 else cmpI l m
theorem cmpI_self : ∀ l : List Int, cmpI l l = 0
 | [] => rfl
 | a :: l => by simp [cmpI, cmpI_self l]
theorem cmpI_swap : ∀ l m : List Int, cmpI m l = - cmpI l m
 | [], [] => rfl
 | [], _ :: _ => rfl
 | _ :: _, [] => rfl
 | a :: l, b :: m => by
  have ih := cmpI_swap l m
  simp only [cmpI]
  by_cases h1 : a < b
  ·have : ¬ b < a := by omega
   simp [h1, this]
  ·by_cases h2 : b < a
   ·simp [h1, h2]
   ·simp [h1, h2, ih]
theorem cmpI_eq : ∀ {l m : List Int}, cmpI l m = 0 → l = m
 | [], [], _ => rfl
 | [], _ :: _, h => by simp [cmpI] at h
 | _ :: _, [], h => by simp [cmpI] at h
 | a :: l, b :: m, h => by
  simp only [cmpI] at h
  by_cases h1 : a < b
  ·simp [h1] at h
  ·by_cases h2 : b < a
   ·simp [h1, h2] at h
   ·simp only [h1, h2, if_false] at h
    rw [cmpI_eq h, show a = b by omega]
theorem cmpI_trans : ∀ {l m k : List Int}, cmpI l m < 0 → cmpI m k < 0 → cmpI l k < 0
 | [], m, [], h1, h2 => by
  cases m with
  | nil => exact h1
  | cons b m => simp [cmpI] at h2
 | [], _, _ :: _, _, _ => by simp [cmpI]
 | _ :: _, [], _, h1, _ => by simp [cmpI] at h1
 | _ :: _, _ :: _, [], _, h2 => by simp [cmpI] at h2
 | a :: l, b :: m, c :: k, h1, h2 => by
  simp only [cmpI] at h1 h2 ⊢
  by_cases a1 : a < b
  ·have c1 : b < c ∨ b = c := by
    by_cases x : b < c
    ·exact .inl x
    ·by_cases y : c < b
     ·simp [x, y] at h2
     ·exact .inr (by omega)
   have : a < c := by omega
   simp [this]
  ·by_cases a2 : b < a
   ·simp [a1, a2] at h1
   ·have e : a = b := by omega
    subst e
    simp only [a1, if_false] at h1
    by_cases x : a < c
    ·simp [x]
    ·by_cases y : c < a
     ·simp [x, y] at h2
     ·simp only [x, y, if_false] at h2 ⊢
      exact cmpI_trans h1 h2
theorem cmpI_cmp (l : List (List Int)) : Cmp l cmpI := by
 refine ⟨fun x _ => by rw [cmpI_self]; decide, fun x _ y _ z _ => cmpI_trans, fun x _ y _ z _ h1 h2 h3 => ?_⟩
 have a1 := cmpI_swap x y
 have a2 := cmpI_swap y z
 rcases Int.lt_or_eq_of_le (show cmpI y x ≤ 0 by omega) with b1 | b1
 ·rcases Int.lt_or_eq_of_le (show cmpI z y ≤ 0 by omega) with b2 | b2
  ·have := cmpI_trans b2 b1
   have := cmpI_swap x z
   omega
  ·have := cmpI_eq b2
   subst this
   omega
 ·have := cmpI_eq b1
  subst this
  omega
def cmp1 (x y : Int) : Int := if x < y then -1 else if y < x then 1 else 0
theorem VC38_of {x y : Int} {K : Int → Prop} (h : K (cmp1 x y)) : VC38 x y K := by
 unfold VC38 VC62
 simp only [decide_true, Bool.not_true]
 refine ⟨fun h => (by cases h), fun _ => ⟨fun h => (by cases h), fun _ => ?_⟩⟩
 unfold cmp1 at h
 refine ⟨fun hc => ?_, fun hc => ⟨fun hd => ?_, fun hd => ?_⟩⟩
 ·simp only [decide_eq_true_eq] at hc
  rwa [if_pos hc] at h
 ·simp only [decide_eq_false_iff_not] at hc
  simp only [decide_eq_true_eq] at hd
  rwa [if_neg hc, if_pos hd] at h
 ·simp only [decide_eq_false_iff_not] at hc hd
  rwa [if_neg hc, if_neg hd] at h
def or3 (a b c : Int) : Int := if a ≠ 0 then a else if b ≠ 0 then b else c
theorem VC37_of {a b c : Int} {K : Int → Prop} (h : K (or3 a b c)) : VC37 [a, b, c] K := by
 unfold VC37
 unfold or3 at h
 refine loop_count 3 (fun i => (1 ≤ i → a = 0) ∧ (2 ≤ i → b = 0) ∧ (3 ≤ i → c = 0)) ⟨fun h => by omega, fun h => by omega, fun h => by omega⟩ ?_
 intro i hi hP X hX
 unfold VC37_l1 VC37_k1
 have h3 : (([a, b, c] : List Int).length : Int) = 3 := rfl
 rw [h3]
 simp only [Int.toNat_natCast]
 refine ⟨fun hb => ?_, fun hb => ?_⟩
 ·simp only [decide_eq_true_eq] at hb
  refine ⟨⟨by omega, by rw [h3]; omega⟩, fun hne => ?_, fun he => ⟨by unfold InR; omega, hX (by omega) ?_⟩⟩
  ·simp only [Bool.not_eq_true', decide_eq_false_iff_not] at hne
   match i, hb, hP, hne with
   | 0, _, _, hne =>
    have hne : a ≠ 0 := hne
    rw [if_pos hne] at h
    exact h
   | 1, _, hP, hne =>
    have hne : b ≠ 0 := hne
    rw [if_neg (by simp [hP.1 (by omega)]), if_pos hne] at h
    exact h
   | 2, _, hP, hne =>
    rw [if_neg (by simp [hP.1 (by omega)]), if_neg (by simp [hP.2.1 (by omega)])] at h
    exact h
   | n + 3, hb, _, _ => omega
  ·simp only [Bool.not_eq_false', decide_eq_true_eq] at he
   match i, hb, hP, he with
   | 0, _, _, he => exact ⟨fun _ => he, fun h => by omega, fun h => by omega⟩
   | 1, _, hP, he => exact ⟨fun _ => hP.1 (by omega), fun _ => he, fun h => by omega⟩
   | 2, _, hP, he => exact ⟨fun _ => hP.1 (by omega), fun _ => hP.2.1 (by omega), fun _ => he⟩
   | n + 3, hb, _, _ => omega
 ·simp only [decide_eq_false_iff_not] at hb
  have hc := hP.2.2 (by omega)
  rw [if_neg (by simp [hP.1 (by omega)]), if_neg (by simp [hP.2.1 (by omega)]), hc] at h
  exact h
def cmpK (x y : Key) : Int := or3 (cmp1 x.2.1 y.2.1) (cmp1 x.2.2 y.2.2) (cmp1 x.1 y.1)
theorem cmpK_lt {x y : Key} : cmpK x y < 0 ↔ x.2.1 < y.2.1 ∨ (x.2.1 = y.2.1 ∧ (x.2.2 < y.2.2 ∨ (x.2.2 = y.2.2 ∧ x.1 < y.1))) := by
 unfold cmpK or3 cmp1
 split <;> split <;> (try split) <;> (try split) <;> (try split) <;> (try split) <;> (try split) <;> omega
theorem cmpK_cmp (l : List Key) : Cmp l cmpK := by
 refine ⟨fun x _ => ?_, fun x _ y _ z _ => ?_, fun x _ y _ z _ => ?_⟩
 ·rw [cmpK_lt]; omega
 ·rw [cmpK_lt, cmpK_lt, cmpK_lt]; omega
 ·rw [cmpK_lt, cmpK_lt, cmpK_lt]; omega
theorem VC36_of {x y : Key} {K : Int → Prop} (h : K (cmpK x y)) : VC36 x y K := by
 unfold VC36
 exact VC38_of (VC38_of (VC38_of (VC37_of h)))
theorem cmpI_nil_r (l : List Int) : cmpI l [] = if l = [] then 0 else 1 := by cases l <;> simp [cmpI]
theorem VC40_of {a b : List Int} (ha : a.length ≤ 1000) {K : Int → Prop} (h : K (cmpI a b)) : VC40 a b K := by
 unfold VC40
 refine loop_count a.length (fun i => i ≤ b.length ∧ cmpI (a.drop i) (b.drop i) = cmpI a b) ⟨by omega, by simp⟩ ?_
 intro i hi hP X hX
 unfold VC40_l1 VC40_k1
 simp only [Int.toNat_natCast]
 refine ⟨fun hb => ⟨⟨by omega, by simp only [decide_eq_true_eq] at hb; omega⟩, fun hc => ?_, fun hc => ⟨⟨by omega, by simp only [decide_eq_false_iff_not] at hc; omega⟩, VC38_of ⟨fun hne => ?_, fun he => ⟨by unfold InR; omega, hX (by simp only [decide_eq_true_eq] at hb; omega) ?_⟩⟩⟩⟩, fun hb => ⟨fun hc => ?_, fun hc => ?_⟩⟩
 ·simp only [decide_eq_true_eq] at hb hc
  have hib : i = b.length := by omega
  have h2 := hP.2
  rw [hib, List.drop_length, cmpI_nil_r, if_neg] at h2
  ·rw [← h2] at h; exact h
  ·intro e
   have := List.drop_eq_nil_iff.1 e
   omega
 ·simp only [decide_eq_true_eq] at hb
  simp only [decide_eq_false_iff_not] at hc
  simp only [Bool.not_eq_true', decide_eq_false_iff_not] at hne
  have h2 := hP.2
  rw [List.drop_eq_getElem_cons (show i < a.length by omega), List.drop_eq_getElem_cons (show i < b.length by omega), cmpI] at h2
  rw [getD_lt _ (show i < a.length by omega), getD_lt _ (show i < b.length by omega)] at hne ⊢
  unfold cmp1 at hne ⊢
  split at h2
  ·rename_i hlt; rw [if_pos hlt, h2]; exact h
  ·rename_i hlt
   split at h2
   ·rename_i hgt; rw [if_neg hlt, if_pos hgt, h2]; exact h
   ·rename_i hgt; rw [if_neg hlt, if_neg hgt] at hne; exact absurd rfl hne
 ·simp only [decide_eq_true_eq] at hb
  simp only [decide_eq_false_iff_not] at hc
  simp only [Bool.not_eq_false', decide_eq_true_eq] at he
  have h2 := hP.2
  rw [List.drop_eq_getElem_cons (show i < a.length by omega), List.drop_eq_getElem_cons (show i < b.length by omega), cmpI] at h2
  rw [getD_lt _ (show i < a.length by omega), getD_lt _ (show i < b.length by omega)] at he
  unfold cmp1 at he
  split at he
  ·cases he
  ·rename_i hlt
   split at he
   ·cases he
   ·rename_i hgt
    rw [if_neg hlt, if_neg hgt] at h2
    exact ⟨by omega, h2⟩
 ·simp only [decide_eq_false_iff_not] at hb
  simp only [decide_eq_true_eq] at hc
  have h2 := hP.2
  rw [List.drop_eq_nil_of_le (by omega)] at h2
  cases hd : b.drop i with
  | nil => have := List.drop_eq_nil_iff.1 hd; omega
  | cons x t => rw [hd, cmpI] at h2; rw [← h2] at h; exact h
 ·simp only [decide_eq_false_iff_not] at hb hc
  have h2 := hP.2
  rw [List.drop_eq_nil_of_le (by omega), List.drop_eq_nil_of_le (show b.length ≤ i by omega), cmpI] at h2
  rw [← h2] at h; exact h
end Dec
namespace Dec
open Go Go.Proofs Cfg
abbrev Sp := Int × (Int × (Int × List (List Int)))
abbrev zS : Sp := ((0 : Int), ((0 : Int), ((0 : Int), ([] : List (List Int)))))
structure ForOk (g : Gr) (w : List Int) (root : Key) (S : List Key) (num : Key → Int) (out : List Sp) : Prop where
 nd : S.Nodup
 few : S.length ≤ 200
 nums : ∀ i, i < S.length → num (S.getD i z3) = (i : Int)
 ok : ∀ y ∈ S, KeyOk g w y
 shut : ∀ y ∈ S, ∀ z ∈ kids (waysOf g w y), z ∈ S
 root : root ∈ S
 len : out.length = S.length
 spot : ∀ i, i < S.length → ∃ rows : List (List Int), out.getD i zS = ((S.getD i z3).1, ((S.getD i z3).2.1, ((S.getD i z3).2.2, rows))) ∧ rows.Perm ((waysOf g w (S.getD i z3)).map fun x => x.1 :: x.2.map num)
theorem getD_append_l' {α : Type} {a b : List α} {i : Nat} {d : α} (h : i < a.length) : (a ++ b).getD i d = a.getD i d := by
 rw [List.getD_eq_getElem?_getD, List.getD_eq_getElem?_getD, List.getElem?_append_left h]
theorem getD_append_r' {α : Type} {a b : List α} {i : Nat} {d : α} (h : a.length ≤ i) : (a ++ b).getD i d = b.getD (i - a.length) d := by
 rw [List.getD_eq_getElem?_getD, List.getD_eq_getElem?_getD, List.getElem?_append_right h]
section
variable {g : Gr} {w : List Int} {sv : Tbl}
theorem seen_perm {n : Nat} {seen : List Nat} (h1 : seen.Nodup) (h2 : ∀ j ∈ seen, j < n) (h3 : ∀ j, j < n → j ∈ seen) : seen.Perm (List.range n) :=
 (List.perm_ext_iff_of_nodup h1 List.nodup_range).2 fun j => ⟨fun h => List.mem_range.2 (h2 j h), fun h => h3 j (List.mem_range.1 h)⟩
theorem range_getD {α : Type} (l : List α) (d : α) : (List.range l.length).map (fun j => l.getD j d) = l := by
 apply List.ext_getElem?
 intro j
 by_cases h : j < l.length
 ·rw [List.getElem?_map, List.getElem?_range h, List.getElem?_eq_getElem h]
  simp [h]
 ·simp [h, List.getElem?_eq_none (show l.length ≤ j by omega)]
theorem forest_of (hg : GoodG g) (hw : GoodW g.1 w) {W : Wm} (hW : WOk g w W) {K : (List Sp × Int) × Int → Prop} (hroot : (g.1 + g.2.2.1, ((0 : Int), (w.length : Int))) ∈ keysOf W) (hshut : ∀ y ∈ keysOf W, ∀ z ∈ kids (waysOf g w y), z ∈ keysOf W)
  (hbig : K (([], 0), 1)) (hok : ∀ (S : List Key) (num : Key → Int) (out : List Sp), ForOk g w (g.1 + g.2.2.1, ((0 : Int), (w.length : Int))) S num out → K ((out, num (g.1 + g.2.2.1, ((0 : Int), (w.length : Int)))), 0)) :
  Loop (σ := List Nat × List Key) (fun s X => VC6_l5 g w K W s.1 s.2 X) (([] : List Nat), ([] : List Key)) := by
 have hfew := hW.few hg hw
 refine Loop.by (fun t : List Nat × List Key => t.1.Nodup ∧ (∀ j ∈ t.1, j < W.length) ∧ t.2 = t.1.map fun j => (W.getD j (z3, ([] : Wy))).1) (fun t => W.length - t.1.length) ⟨List.nodup_nil, by simp, rfl⟩ ?_
 rintro ⟨seen, keys⟩ ⟨h1, h2, h3⟩ X hX
 dsimp only at h1 h2 h3 hX
 subst h3
 dsimp only
 unfold VC6_l5
 have hsl : seen.length ≤ W.length := by
  have := nodup_le' h1 (b := List.range W.length) fun x hx => List.mem_range.2 (h2 x hx)
  simpa using this
 refine ⟨fun j hj hns => ⟨hj, ?_, hX _ ⟨?_, fun x hx => ?_, ?_⟩ ?_⟩, fun hall => ?_⟩
 ·unfold roomN; simp only [List.length_map, List.length_cons, List.length_nil]; omega
 ·rw [List.nodup_append]
  exact ⟨h1, by simp, fun x hx y hy e => hns (by rw [← List.mem_singleton.1 hy, ← e]; exact hx)⟩
 ·rcases List.mem_append.1 hx with hx | hx
  ·exact h2 x hx
  ·rw [List.mem_singleton.1 hx]; exact hj
 ·simp
 ·have h4 : (seen ++ [j]).length ≤ W.length := by
   have := nodup_le' (a := seen ++ [j]) (b := List.range W.length) (by
    rw [List.nodup_append]
    exact ⟨h1, by simp, fun x hx y hy e => hns (by rw [← List.mem_singleton.1 hy, ← e]; exact hx)⟩) fun x hx => by
     rcases List.mem_append.1 hx with hx | hx
     ·exact List.mem_range.2 (h2 x hx)
     ·rw [List.mem_singleton.1 hx]; exact List.mem_range.2 hj
   simpa using this
  simp only [List.length_append, List.length_cons, List.length_nil] at h4 ⊢
  omega
 clear hX
 have hperm := seen_perm h1 h2 hall
 obtain ⟨keys, hkeys⟩ : ∃ keys, (seen.map fun j => (W.getD j (z3, ([] : Wy))).1) = keys := ⟨_, rfl⟩
 have hkp : keys.Perm (keysOf W) := by
  rw [← hkeys]
  have h4 := hperm.map fun j => (W.getD j (z3, ([] : Wy))).1
  have h5 : (List.range W.length).map (fun j => (W.getD j (z3, ([] : Wy))).1) = keysOf W := by
   have := congrArg (List.map Prod.fst) (range_getD W (z3, ([] : Wy)))
   rw [List.map_map] at this
   exact this
  rw [h5] at h4
  exact h4
 rw [hkeys]
 have hkl : keys.length = W.length := by rw [hkp.length_eq]; unfold keysOf; simp
 unfold VC6_k3
 refine ⟨fun _ => ?_, fun h200 => ⟨cmpK, cmpK_cmp _, by unfold roomN; omega, fun x _ y _ => VC36_of rfl, fun S hS => ?_⟩⟩
 ·unfold VC6_k2; exact hbig
 simp only [decide_eq_false_iff_not] at h200
 have hSp : S.Perm (keysOf W) := hS.perm.trans hkp
 have hSn : S.Nodup := hSp.nodup_iff.2 hW.nd
 have hSl : S.length = W.length := by rw [hSp.length_eq]; unfold keysOf; simp
 have hSm : ∀ y, y ∈ S ↔ y ∈ keysOf W := fun y => hSp.mem_iff
 clear hS hkp hkeys hperm
 have hget : ∀ i j, i < S.length → j < S.length → S.getD i z3 = S.getD j z3 → i = j := by
  intro i j hi hj he
  rw [getD_lt _ hi, getD_lt _ hj] at he
  have hpw := List.pairwise_iff_getElem.1 hSn
  rcases Nat.lt_trichotomy i j with h | h | h
  ·exact absurd he (hpw i j hi hj h)
  ·exact h
  ·exact absurd he.symm (hpw j i hj hi h)
 refine Loop.by (fun t : Int × List (Key × Int) => ∃ v : Nat, t.1 = (v : Int) ∧ v ≤ S.length ∧ ∀ i, i < v → mget t.2 (S.getD i z3) = some (i : Int)) (fun t => ((S.length : Int) - t.1).toNat) ⟨0, rfl, by omega, fun i hi => by omega⟩ ?_
 rintro ⟨v', N⟩ ⟨v, hv, hvl, hN⟩ X hX
 dsimp only at hv hN hX
 subst hv
 dsimp only
 unfold VC6_l4
 simp only [Int.toNat_natCast]
 refine ⟨fun hb => ⟨⟨by omega, by simp only [decide_eq_true_eq] at hb; omega⟩, by unfold InR; omega, hX _ ⟨v + 1, by simp, by simp only [decide_eq_true_eq] at hb; omega, fun i hi => ?_⟩ (by simp only [decide_eq_true_eq] at hb; dsimp only; omega)⟩, fun hb => ?_⟩
 ·simp only [decide_eq_true_eq] at hb
  dsimp only
  rw [mget_mset]
  by_cases e : i = v
  ·subst e; rw [if_pos rfl]
  ·rw [if_neg (fun he => e (hget i v (by omega) (by omega) he))]
   exact hN i (by omega)
 simp only [decide_eq_false_iff_not] at hb
 have hvS : v = S.length := by omega
 subst hvS
 clear hX
 obtain ⟨num, hnum⟩ : ∃ num : Key → Int, num = fun y => (mget N y).getD 0 := ⟨_, rfl⟩
 have hnumi : ∀ i, i < S.length → num (S.getD i z3) = (i : Int) := by
  intro i hi
  rw [hnum]
  dsimp only
  rw [hN i hi]
  rfl
 unfold VC6_k4
 refine Loop.by (fun t : Int × List Sp => ∃ v : Nat, t.1 = (v : Int) ∧ v ≤ S.length ∧ t.2.length = v ∧ ∀ i, i < v → ∃ rows : List (List Int), t.2.getD i zS = ((S.getD i z3).1, ((S.getD i z3).2.1, ((S.getD i z3).2.2, rows))) ∧ rows.Perm ((waysOf g w (S.getD i z3)).map fun x => x.1 :: x.2.map num)) (fun t => ((S.length : Int) - t.1).toNat) ⟨0, rfl, by omega, rfl, fun i hi => by omega⟩ ?_
 rintro ⟨v', out⟩ ⟨v, hv, hvl, hol, hout⟩ X hX
 dsimp only at hv hol hout hX
 subst hv
 dsimp only
 unfold VC6_l1
 refine ⟨fun hb => ⟨⟨by omega, by simp only [decide_eq_true_eq] at hb; omega⟩, ?_⟩, fun hb => ?_⟩
 ·simp only [decide_eq_true_eq] at hb
  have hvS : v < S.length := by omega
  obtain ⟨key, hkey⟩ : ∃ key, S.getD v z3 = key := ⟨_, rfl⟩
  have hkm : key ∈ keysOf W := by rw [← hSm, ← hkey]; exact getD_mem hvS
  obtain ⟨hkok, hkget⟩ := hW.ok key hkm
  obtain ⟨L, hL⟩ : ∃ L, waysOf g w key = L := ⟨_, rfl⟩
  have hLx : ∀ x ∈ L, x.2.length ≤ 4 := fun x hx => ways_len hg (by rw [hL]; exact hx)
  have hLl : L.length ≤ 285610 := by
   rw [← hL]
   unfold waysOf
   have := flat_le (f := waysAt g w key) (c := 28561) (List.range g.2.2.2.length) fun x hx => waysAt_few hg hw hkok x (List.mem_range.1 hx)
   rw [List.length_range] at this
   exact Nat.le_trans this (Nat.mul_le_mul_right _ hg.few)
  rw [hL] at hkget
  refine Loop.by (fun t : Int × List (List Int) => ∃ u : Nat, t.1 = (u : Int) ∧ u ≤ L.length ∧ t.2 = (L.take u).map fun x => x.1 :: x.2.map num) (fun t => ((L.length : Int) - t.1).toNat) ⟨0, rfl, by omega, by simp⟩ ?_
  rintro ⟨u', rows⟩ ⟨u, hu, hul, hrows⟩ X2 hX2
  dsimp only at hu hrows hX2
  subst hu
  dsimp only
  unfold VC6_l2
  simp only [Int.toNat_natCast, hkey, hkget, Option.getD_some]
  refine ⟨fun hb2 => ⟨⟨by omega, by simp only [decide_eq_true_eq] at hb2; omega⟩, ?_⟩, fun hb2 => ?_⟩
  ·simp only [decide_eq_true_eq] at hb2
   have huL : u < L.length := by omega
   obtain ⟨x, hx⟩ : ∃ x, L.getD u ((0 : Int), ([] : List Key)) = x := ⟨_, rfl⟩
   have hxe : L[u] = x := by rw [← hx, getD_lt _ huL]
   have hx4 := hLx x (by rw [← hx]; exact getD_mem huL)
   rw [hx]
   refine Loop.by (fun t : Int × List Int => ∃ m : Nat, t.1 = (m : Int) ∧ m ≤ x.2.length ∧ t.2 = x.1 :: (x.2.take m).map num) (fun t => ((x.2.length : Int) - t.1).toNat) ⟨0, rfl, by omega, by simp⟩ ?_
   rintro ⟨m', row⟩ ⟨m, hm, hml, hrow⟩ X3 hX3
   dsimp only at hm hrow hX3
   subst hm hrow
   dsimp only
   unfold VC6_l3
   simp only [Int.toNat_natCast, hkey, hkget, Option.getD_some, hx]
   refine ⟨fun hb3 => ⟨⟨by omega, by simp only [decide_eq_true_eq] at hb3; omega⟩, ?_, by unfold InR; omega, hX3 _ ⟨m + 1, by simp, by simp only [decide_eq_true_eq] at hb3; omega, ?_⟩ (by simp only [decide_eq_true_eq] at hb3; dsimp only; omega)⟩, fun hb3 => ?_⟩
   ·unfold roomN
    simp only [List.length_cons, List.length_map, List.length_take, List.length_nil]
    omega
   ·simp only [decide_eq_true_eq] at hb3
    have hmx : m < x.2.length := by omega
    dsimp only
    rw [List.take_succ_eq_append_getElem hmx, List.map_append, getD_lt _ hmx, hnum]
    rfl
   ·simp only [decide_eq_false_iff_not] at hb3
    have : m = x.2.length := by omega
    subst this
    unfold VC6_k7
    rw [List.take_length]
    refine ⟨?_, by unfold InR; omega, hX2 _ ⟨u + 1, by simp, by omega, ?_⟩ (by dsimp only; omega)⟩
    ·unfold roomN
     rw [hrows]
     simp only [List.length_map, List.length_take, List.length_cons, List.length_nil]
     omega
    ·dsimp only
     rw [List.take_succ_eq_append_getElem huL, List.map_append, hrows, hxe]
     rfl
  ·simp only [decide_eq_false_iff_not] at hb2
   have : u = L.length := by omega
   subst this
   rw [List.take_length] at hrows
   unfold VC6_k6
   simp only [Int.toNat_natCast, hkey]
   have hrl : ∀ a ∈ rows, a.length ≤ 1000 := by
    intro a ha
    rw [hrows] at ha
    obtain ⟨x, hx, rfl⟩ := List.mem_map.1 ha
    have := hLx x hx
    simp only [List.length_cons, List.length_map]
    omega
   refine ⟨cmpI, cmpI_cmp _, ?_, fun a ha b _ => VC40_of (hrl a ha) rfl, fun srt hsrt => ⟨?_, by unfold InR; omega, hX _ ⟨v + 1, by simp, by omega, by simp [hol], fun i hi => ?_⟩ (by dsimp only; omega)⟩⟩
   ·unfold roomN; rw [hrows, List.length_map]; omega
   ·unfold roomN; simp only [List.length_cons, List.length_nil]; omega
   ·dsimp only
    by_cases e : i < v
    ·rw [getD_append_l' (by omega)]
     exact hout i e
    ·have : i = v := by omega
     subst this
     refine ⟨srt, ?_, ?_⟩
     ·rw [getD_append_r' (by omega), hol, Nat.sub_self, hkey]
      rfl
     ·rw [hkey, hL, ← hrows]
      exact hsrt.perm
 ·simp only [decide_eq_false_iff_not] at hb
  have : v = S.length := by omega
  subst this
  unfold VC6_k5 VC6_k2
  have h9 := hok S num out ⟨hSn, by omega, hnumi, fun y hy => (hW.ok y ((hSm y).1 hy)).1, fun y hy z hz => (hSm z).2 (hshut y ((hSm y).1 hy) z hz), (hSm _).2 hroot, hol, hout⟩
  rw [hnum] at h9
  exact h9
end
end Dec
namespace Dec
open Go Go.Proofs Cfg
section
variable {g : Gr} {w : List Int}
theorem sumTo_pos {f : Nat → Nat} {k : Nat} : ∀ {n : Nat}, k < n → 0 < f k → 0 < sumTo f n
 | 0, h, _ => by omega
 | n + 1, h, hk => by
  rw [sumTo_succ]
  by_cases e : k = n
  ·subst e; omega
  ·have := sumTo_pos (n := n) (by omega) hk
   omega
theorem cnt_long (hp : Prop1 g) {l : List Int} {i j : Nat} (h : 0 < cntR g w l i j) : i + l.length ≤ j := by
 refine Nat.le_of_not_lt fun hlt => ?_
 rw [cnt_short hp hlt] at h
 omega
theorem row_cnt (hp : Prop1 g) {l : List Int} {i j : Nat} (h : Row g.1 g.2.2.2 w l i j) : l ≠ [] → 0 < cntR g w l i j := by
 induction h with
 | nil i h => intro h; exact absurd rfl h
 | sym s l i j hs hi h ih =>
  intro _
  cases l with
  | nil =>
   have hj : j = i + 1 := by cases h; rfl
   subst hj
   rw [cnt_one, cnt_sym hs, if_pos ⟨rfl, hi⟩]
   omega
  | cons t l =>
   have h1 := ih (by simp)
   have h2 := cnt_long hp h1
   simp only [List.length_cons] at h2
   rw [cnt_two]
   refine sumTo_pos (k := 0) (by omega) ?_
   rw [Nat.zero_add, cnt_sym hs, if_pos ⟨rfl, hi⟩, Nat.one_mul]
   exact h1
 | name s l r i m j hs hr h1 h2 ih1 ih2 =>
  intro _
  have hr' := hp _ hr
  have h3 := ih1 hr'.1
  have h4 := cnt_long hp h3
  have h5 : 0 < r.length := List.length_pos_iff.2 hr'.1
  have hsm : 0 < cntS g w s i m := by
   rw [cnt_name hp hs h1.le.2]
   obtain ⟨k, hk, e⟩ := List.mem_iff_getElem.1 hr
   refine sumTo_pos (k := k) hk ?_
   rw [getD_lt _ hk, e, if_pos rfl]
   exact h3
  cases l with
  | nil =>
   have hj : j = m := by cases h2; rfl
   subst hj
   rw [cnt_one]
   exact hsm
  | cons t l =>
   have h6 := ih2 (by simp)
   have h7 := cnt_long hp h6
   simp only [List.length_cons] at h7
   rw [cnt_two]
   refine sumTo_pos (k := m - (i + 1)) (by omega) ?_
   rw [show m - (i + 1) + (i + 1) = m by omega]
   exact Nat.mul_pos hsm h6
theorem prod_row {S : Int → Nat → Nat → List (List Int)} (hS : ∀ s i j a, j ≤ w.length → a ∈ S s i j → (s < g.1 ∧ j = i + 1 ∧ w[i]? = some s) ∨ (¬ s < g.1 ∧ Der g.1 g.2.2.2 w (s - g.1) i j)) : ∀ (l : List Int) (i j : Nat), l ≠ [] → j ≤ w.length → i ≤ j → ∀ es ∈ cutsL l.length i j, ∀ a, a ∈ prodT S l i es → Row g.1 g.2.2.2 w l i j
 | [], _, _, h, _, _, _, _, _, _ => absurd rfl h
 | [s], i, j, _, hj, hij, es, he, a, ha => by
  simp [cutsL] at he
  subst he
  simp only [prodT, List.mem_flatMap] at ha
  obtain ⟨b, hb, _⟩ := ha
  rcases hS s i j b hj hb with ⟨h1, h2, h3⟩ | ⟨h1, r, h2, h3⟩
  ·subst h2
   exact .sym s [] i _ h1 h3 (.nil _ hj)
  ·exact .name s [] r i j j h1 h2 h3 (.nil j hj)
 | s :: t :: l, i, j, _, hj, hij, es, he, a, ha => by
  rw [show (s :: t :: l).length = l.length + 2 from rfl, cutsL_succ, List.mem_flatMap] at he
  obtain ⟨m, hm, he⟩ := he
  obtain ⟨q, hq, rfl⟩ := List.mem_map.1 he
  obtain ⟨z, hz, rfl⟩ := List.mem_map.1 hm
  have hz' := List.mem_range.1 hz
  have ha' : a ∈ (S s i (z + (i + 1))).flatMap fun b => (prodT S (t :: l) (z + (i + 1)) q).map (b ++ ·) := ha
  obtain ⟨b, hb, h2⟩ := List.mem_flatMap.1 ha'
  obtain ⟨c, hc, _⟩ := List.mem_map.1 h2
  have hr := prod_row hS (t :: l) (z + (i + 1)) j (by simp) hj (by omega) q hq c hc
  rcases hS s i _ b (by omega) hb with ⟨h1, h3, h4⟩ | ⟨h1, r, h3, h4⟩
  ·rw [h3] at hr
   exact .sym s _ i j h1 h4 hr
  ·exact .name s _ r i _ j h1 h3 h4 hr
theorem sgn_der (hp : Prop1 g) : ∀ (f : Nat) (s : Int) (i j : Nat) (a : List Int), j ≤ w.length → a ∈ sgnT g.1 g.2.2.2 w f s i j → (s < g.1 ∧ j = i + 1 ∧ w[i]? = some s) ∨ (¬ s < g.1 ∧ Der g.1 g.2.2.2 w (s - g.1) i j)
 | f, s, i, j, a, hj, h => by
  have hlt := sgn_lt hp f s i j a h
  by_cases hs : s < g.1
  ·rw [sgnT_sym hs] at h
   split at h
   ·rename_i h2
    exact .inl ⟨hs, h2⟩
   ·cases h
  ·cases f with
   | zero => rw [sgnT, if_neg hs] at h; cases h
   | succ f =>
    obtain ⟨k, hk, hl, a', h3, _⟩ := mem_name hs h
    obtain ⟨es, h4, h5⟩ := List.mem_flatMap.1 h3
    have hmem : g.2.2.2.getD k (0, []) ∈ g.2.2.2 := getD_mem hk
    refine .inr ⟨hs, (g.2.2.2.getD k (0, [])).2, ?_, prod_row (fun s i j a => sgn_der hp f s i j a) _ i j (hp _ hmem).1 hj (by omega) es h4 a' h5⟩
    have e : (g.2.2.2.getD k (0, [])) = (s - g.1, (g.2.2.2.getD k (0, [])).2) := by rw [← hl]
    rw [← e]
    exact hmem
theorem drv_iff (hp : Prop1 g) {s : Int} {i j : Nat} (hj : j ≤ w.length) : drv g w s i j = true ↔ 0 < cntS g w s i j := by
 unfold drv
 simp only [decide_eq_true_eq]
 unfold SignS
 by_cases hs : s < g.1
 ·rw [if_pos hs, cnt_sym hs]
  constructor
  ·intro h; rw [if_pos h]; omega
  ·intro h
   split at h
   ·rename_i h2; exact h2
   ·omega
 ·rw [if_neg hs]
  constructor
  ·rintro ⟨r, h1, h2⟩
   rw [cnt_name hp hs hj]
   obtain ⟨k, hk, e⟩ := List.mem_iff_getElem.1 h1
   refine sumTo_pos (k := k) hk ?_
   rw [getD_lt _ hk, e, if_pos rfl]
   exact row_cnt hp h2 (hp _ h1).1
  ·intro h
   obtain ⟨a, ha⟩ := List.exists_mem_of_length_pos h
   rcases sgn_der hp _ s i j a hj ha with h1 | h1
   ·exact absurd h1.1 hs
   ·exact h1.2
theorem ways_sym (hg : GoodG g) {key : Key} (hs : key.1 < g.1) : waysOf g w key = [] := by
 unfold waysOf
 rw [List.flatMap_eq_nil_iff]
 intro v hv
 have := hg.left _ (getD_mem (d := ((0 : Int), ([] : List Int))) (List.mem_range.1 hv))
 unfold waysAt
 rw [if_neg (by omega)]
end
end Dec
namespace Dec
open Go Go.Proofs Cfg
section
variable {g : Gr} {w : List Int}
abbrev rootK (g : Gr) (w : List Int) : Key := (g.1 + g.2.2.1, ((0 : Int), (w.length : Int)))
theorem VC6_of {K : (List Sp × Int) × Int → Prop} (hbad : ∀ e, e ≠ 0 → ¬ All g w → K (([], 0), e)) (hnone : All g w → ¬ 0 < cntW g w → K (([], 0), 5)) (hbig : All g w → 0 < cntW g w → K (([], 0), 1))
  (hok : All g w → 0 < cntW g w → ∀ S num out, ForOk g w (rootK g w) S num out → K ((out, num (rootK g w)), 0)) : VC6 g w K := by
 unfold VC6
 refine VC12_of (fun e he hng => ⟨fun _ => hbad e he fun h => hng ⟨h.1, h.2.1⟩, fun h0 => ?_⟩) (fun hg hw => ⟨fun h0 => (by simp at h0), fun _ => VC13_of hg fun b hb => ⟨fun hb0 => ?_, fun hb1 => ?_⟩⟩)
 ·simp at h0
  exact absurd h0 he
 ·refine hbad 3 (by decide) fun h => ?_
  rw [hb.2 h.2.2] at hb0
  cases hb0
 have hp : Prop1 g := hb.1 (by cases b with
  | true => rfl
  | false => cases hb1)
 have hall : All g w := ⟨hg, hw, hp⟩
 refine VC14_of hg hw.1 fun sv ht1 ht2 => ?_
 have ht : TabD g w sv := ⟨ht1, ht2⟩
 have hk := hg.k
 have hn := hg.n
 have hst := hg.start
 have hw12 := hw.1
 have hs : ¬ g.1 + g.2.2.1 < g.1 := by omega
 unfold VC6_k1
 refine ⟨by unfold InR; omega, ?_⟩
 have hu := ht1.word 0 w.length
 unfold tb at hu
 refine VC15_of hu (by omega) ?_
 have hbit : bt ((mget sv (((0 : Nat) : Int), (w.length : Int))).getD 0) g.2.2.1.toNat = true ↔ 0 < cntW g w := by
  have h1 := ht2 0 w.length g.2.2.1.toNat (Nat.zero_le _) (Nat.le_refl _)
  unfold tb at h1
  rw [h1, ← drv_iff hp (Nat.le_refl _)]
  unfold drv
  simp only [decide_eq_true_eq]
  unfold SignS
  rw [if_neg hs, show ((g.2.2.1.toNat : Nat) : Int) = g.1 + g.2.2.1 - g.1 by omega]
 refine ⟨fun h0 => hnone hall fun hpos => ?_, fun h1 => ?_⟩
 ·have := hbit.2 hpos
  rw [this] at h0
  cases h0
 have hpos : 0 < cntW g w := hbit.1 (by simpa using h1)
 have hkey : KeyOk g w (rootK g w) := ⟨⟨by dsimp only; omega, by dsimp only; omega⟩, 0, w.length, rfl, Nat.zero_le _, Nat.le_refl _, (drv_iff hp (Nat.le_refl _)).2 hpos⟩
 refine ⟨1353, grow_tree hg hw hp ht 1353 (rootK g w) [] _ (by simp) wOk_nil hkey fun W hW hG hm => ?_⟩
 refine forest_of hg hw hW hm (fun y hy z hz => hG.2.2 y hy (by simp [keysOf]) z hz) (hbig hall hpos) (hok hall hpos)
end
end Dec
namespace Dec
open Go Go.Proofs Cfg
section
variable {g : Gr} {w : List Int} {root : Key} {S : List Key} {num : Key → Int} {out : List Sp}
theorem ForOk.find (h : ForOk g w root S num out) {y : Key} (hy : y ∈ S) : ∃ i, i < S.length ∧ num y = (i : Int) ∧ S.getD i z3 = y ∧ (out.getD i zS).1 = y.1 ∧ (out.getD i zS).2.1 = y.2.1 ∧ (out.getD i zS).2.2.1 = y.2.2 := by
 obtain ⟨i, hi, e⟩ := List.mem_iff_getElem.1 hy
 have e1 : S.getD i z3 = y := by rw [getD_lt _ hi, e]
 obtain ⟨rows, h1, _⟩ := h.spot i hi
 rw [e1] at h1
 have h2 := h.nums i hi
 rw [e1] at h2
 exact ⟨i, hi, h2, e1, by rw [h1], by rw [h1], by rw [h1]⟩
theorem way_ok (hg : GoodG g) (hp : Prop1 g) (hF : ForOk g w root S num out) {e : Int} {v : Nat} (hv : v < S.length) {rows : List (List Int)} (hrows : rows.Perm ((waysOf g w (S.getD v z3)).map fun x => x.1 :: x.2.map num)) {a : List Int} (ha : a ∈ rows) :
  ∃ (k : Nat) (r : List Key) (i j : Nat), k < g.2.2.2.length ∧ (S.getD v z3).1 = g.1 + (g.2.2.2.getD k (0, [])).1 ∧ (S.getD v z3).2 = ((i : Int), (j : Int)) ∧ a = (k : Int) :: r.map num ∧ r ∈ rowsL (drv g w) (g.2.2.2.getD k (0, [])).2 i j ∧ ∀ y ∈ r, y ∈ S := by
 have hmem : S.getD v z3 ∈ S := getD_mem hv
 obtain ⟨_, i, j, e2, _⟩ := hF.ok _ hmem
 have ha' := hrows.mem_iff.1 ha
 obtain ⟨x, hx, rfl⟩ := List.mem_map.1 ha'
 have hx0 := hx
 obtain ⟨k, hk, hx⟩ := List.mem_flatMap.1 hx
 have hk' := List.mem_range.1 hk
 unfold waysAt at hx
 split at hx
 ·rename_i hl
  obtain ⟨r, hr, rfl⟩ := List.mem_map.1 hx
  rw [e2] at hr
  dsimp only at hr
  rw [Int.toNat_natCast, Int.toNat_natCast] at hr
  exact ⟨k, r, i, j, hk', hl, e2, rfl, hr, fun y hy => hF.shut _ hmem y (List.mem_flatMap.2 ⟨_, hx0, hy⟩)⟩
 ·cases hx
end
end Dec
