/-
Grammars: plain contracts of Check, derive, Reachable and of the reference's checks.
-/
import Derived.Test.YtfchgkifdfgbmaaGenDd
import Derived.Test.YtfchgkifdfgbmaaLibZ
set_option linter.unusedSimpArgs false
set_option linter.unusedVariables false
namespace Dec
open Go Go.Proofs
abbrev Rl := Int × List Int
abbrev Gr := Int × (Int × (Int × List Rl))
structure GoodG (g : Gr) : Prop where
 k : 1 ≤ g.1 ∧ g.1 ≤ 3
 n : 1 ≤ g.2.1 ∧ g.2.1 ≤ 5
 few : g.2.2.2.length ≤ 10
 short : ∀ r ∈ g.2.2.2, r.2.length ≤ 4
 start : 0 ≤ g.2.2.1 ∧ g.2.2.1 < g.2.1
 left : ∀ r ∈ g.2.2.2, 0 ≤ r.1 ∧ r.1 < g.2.1
 right : ∀ r ∈ g.2.2.2, ∀ s ∈ r.2, 0 ≤ s ∧ s < g.1 + g.2.1
theorem gcall_both {α : Type} {b : Bool} {F : (α → Prop) → Prop} {d : α} {K : α → Prop} (h1 : b = true → F K) (h0 : b = false → K d) : gcall (α := α) b F d K := by
 unfold gcall
 cases b with
 | true => rw [if_pos rfl]; exact h1 rfl
 | false => rw [if_neg (by decide)]; exact h0 rfl
theorem VC49_of {n low high : Int} {K : Bool → Prop} (h : K (decide (low ≤ n) && decide (n ≤ high))) : VC49 n low high K := h
theorem VC31_of {s : List Rl} {F : Rl → (Bool → Prop) → Prop} {K : Bool → Prop} (f : Rl → Bool) (hl : s.length ≤ 4611686018427387904) (hF : ∀ x ∈ s, ∀ K' : Bool → Prop, K' (f x) → F x K') (h : K (s.any f)) : VC31 s F K := VCany_of f hl hF h
theorem VC27_of {s : List Int} {F : Int → (Bool → Prop) → Prop} {K : Bool → Prop} (f : Int → Bool) (hl : s.length ≤ 4611686018427387904) (hF : ∀ x ∈ s, ∀ K' : Bool → Prop, K' (f x) → F x K') (h : K (s.any f)) : VC27 s F K := VCany_of f hl hF h
theorem VC51_of {g : Gr} {l : List Int} (hk : 1 ≤ g.1 ∧ g.1 ≤ 3) (hn : 1 ≤ g.2.1 ∧ g.2.1 ≤ 5) (hl : l.length ≤ 4) {K : Bool → Prop} (h : K (!l.any fun s => decide (s < 0) || decide (g.1 + g.2.1 ≤ s))) : VC51 g l K := by
 unfold VC51
 refine VC27_of (fun s => decide (s < 0) || decide (g.1 + g.2.1 ≤ s)) (by omega) (fun x _ K' hK' => ?_) h
 unfold VC67
 exact ⟨fun _ => ⟨by omega, by omega⟩, hK'⟩
theorem signs_iff {g : Gr} {l : List Int} : (!l.any fun s => decide (s < 0) || decide (g.1 + g.2.1 ≤ s)) = true ↔ ∀ s ∈ l, 0 ≤ s ∧ s < g.1 + g.2.1 := by
 rw [Bool.not_eq_true', List.any_eq_false]
 constructor
 ·intro h s hs
  have := h s hs
  simp only [Bool.or_eq_true, decide_eq_true_eq] at this
  omega
 ·intro h s hs
  have := h s hs
  simp only [Bool.or_eq_true, decide_eq_true_eq]
  omega
theorem VC26_of {g : Gr} {K : Int → Prop} (hbad : ∀ e, e ≠ 0 → ¬ GoodG g → K e) (h : GoodG g → K 0) : VC26 g K := by
 unfold VC26
 refine VC49_of ?_
 refine gcall_both (fun e => VC49_of ?_) (fun e => ?_)
 ·simp only [Bool.not_not, Bool.and_eq_true, decide_eq_true_eq] at e
  have e1 : (decide ((1 : Int) ≤ g.1) && decide (g.1 ≤ 3)) = true := by simp [e.1, e.2]
  rw [e1]
  refine ⟨fun hc => hbad 1 (by decide) fun hg => ?_, fun hc => ?_⟩
  ·simp only [Bool.not_true, Bool.false_or, Bool.or_eq_true, Bool.not_eq_true', Bool.and_eq_false_iff, decide_eq_false_iff_not, decide_eq_true_eq] at hc
   have h1 := hg.n
   have h2 := hg.few
   omega
  ·simp only [Bool.not_true, Bool.false_or, Bool.or_eq_false_iff, Bool.not_eq_false', Bool.and_eq_true, decide_eq_false_iff_not, decide_eq_true_eq] at hc
   obtain ⟨hn, hfew⟩ := hc
   have hfew : g.2.2.2.length ≤ 10 := by omega
   refine VC31_of (fun r => decide ((4 : Int) < (r.2.length : Int))) (by omega) (fun x _ K' hK' => hK') ⟨fun hs => hbad 1 (by decide) fun hg => ?_, fun hs => ?_⟩
   ·obtain ⟨r, hr, h4⟩ := List.any_eq_true.1 hs
    simp only [decide_eq_true_eq] at h4
    have := hg.short r hr
    omega
   ·have hshort : ∀ r ∈ g.2.2.2, r.2.length ≤ 4 := by
     intro r hr
     have := List.any_eq_false.1 hs r hr
     simp only [decide_eq_true_eq] at this
     omega
    refine ⟨⟨by omega, by omega⟩, VC49_of ⟨fun hc => hbad 2 (by decide) fun hg => ?_, fun hc => ?_⟩⟩
    ·simp only [Bool.not_eq_true', Bool.and_eq_false_iff, decide_eq_false_iff_not] at hc
     have := hg.start
     omega
    ·simp only [Bool.not_eq_false', Bool.and_eq_true, decide_eq_true_eq] at hc
     refine loop_count g.2.2.2.length (fun i => ∀ j, j < i → (0 ≤ (g.2.2.2.getD j (0, [])).1 ∧ (g.2.2.2.getD j (0, [])).1 < g.2.1) ∧ ∀ s ∈ (g.2.2.2.getD j (0, [])).2, 0 ≤ s ∧ s < g.1 + g.2.1) (by intro j hj; omega) ?_
     intro i hi hP X hX
     unfold VC26_l1 VC26_k1
     refine ⟨fun hb => ?_, fun hb => ?_⟩
     ·simp only [decide_eq_true_eq] at hb
      simp only [Int.toNat_natCast]
      have hmem : g.2.2.2.getD i (0, []) ∈ g.2.2.2 := getD_mem (by omega)
      refine ⟨⟨by omega, by omega⟩, ⟨by omega, by omega⟩, VC49_of ?_⟩
      refine gcall_both (fun e2 => VC51_of e hn (hshort _ hmem) ?_) (fun e2 => ?_)
      ·simp only [Bool.not_not] at e2
       rw [e2]
       simp only [Bool.and_eq_true, decide_eq_true_eq] at e2
       refine ⟨fun hc2 => hbad 2 (by decide) fun hg => ?_, fun hc2 => ⟨⟨by omega, by omega⟩, hX (by omega) fun j hj => ?_⟩⟩
       ·simp only [Bool.not_true, Bool.false_or, Bool.not_eq_true'] at hc2
        have := signs_iff.2 (hg.right _ hmem)
        rw [hc2] at this
        cases this
       ·by_cases e3 : j < i
        ·exact hP j e3
        ·have : j = i := by omega
         subst this
         simp only [Bool.not_true, Bool.false_or, Bool.not_eq_false'] at hc2
         exact ⟨⟨e2.1, by omega⟩, signs_iff.1 hc2⟩
      ·simp only [Bool.not_not] at e2
       rw [e2]
       refine ⟨fun _ => hbad 2 (by decide) fun hg => ?_, fun hc2 => by simp at hc2⟩
       simp only [Bool.and_eq_false_iff, decide_eq_false_iff_not] at e2
       have := hg.left _ hmem
       omega
     ·simp only [decide_eq_false_iff_not] at hb
      have hall : ∀ r ∈ g.2.2.2, (0 ≤ r.1 ∧ r.1 < g.2.1) ∧ ∀ s ∈ r.2, 0 ≤ s ∧ s < g.1 + g.2.1 := by
       intro r hr
       obtain ⟨j, hj, ej⟩ := List.mem_iff_getElem.1 hr
       have := hP j (by omega)
       rw [getD_lt _ hj, ej] at this
       exact this
      exact h ⟨e, hn, hfew, hshort, ⟨hc.1, by omega⟩, fun r hr => (hall r hr).1, fun r hr => (hall r hr).2⟩
 ·simp only [Bool.not_not] at e
  rw [e]
  refine ⟨fun _ => hbad 1 (by decide) fun hg => ?_, fun hc => by simp at hc⟩
  simp only [Bool.and_eq_false_iff, decide_eq_false_iff_not] at e
  have := hg.k
  omega
theorem VC64_of {g : Gr} {l : List Int} (hk : 1 ≤ g.1 ∧ g.1 ≤ 3) (hn : 1 ≤ g.2.1 ∧ g.2.1 ≤ 5) (hl : l.length ≤ 4) {K : Bool → Prop} (h : ∀ b : Bool, (b = true ↔ ∀ s ∈ l, 0 ≤ s ∧ s < g.1 + g.2.1) → K b) : VC64 g l K := by
 unfold VC64
 refine loop_count l.length (fun i => ∀ j, j < i → 0 ≤ l.getD j 0 ∧ l.getD j 0 < g.1 + g.2.1) (by intro j hj; omega) ?_
 intro i hi hP X hX
 unfold VC64_l1 VC64_k1
 refine ⟨fun hb => ?_, fun hb => ?_⟩
 ·simp only [decide_eq_true_eq] at hb
  simp only [Int.toNat_natCast]
  have hmem : l.getD i 0 ∈ l := getD_mem (by omega)
  refine ⟨⟨by omega, by omega⟩, fun _ => ⟨by omega, by omega⟩, fun hc => ?_, fun hc => ⟨⟨by omega, by omega⟩, hX (by omega) fun j hj => ?_⟩⟩
  ·simp only [Bool.or_eq_true, decide_eq_true_eq] at hc
   refine h false ⟨fun e => (by cases e), fun hh => ?_⟩
   have := hh _ hmem
   omega
  ·simp only [Bool.or_eq_false_iff, decide_eq_false_iff_not] at hc
   by_cases e : j < i
   ·exact hP j e
   ·have : j = i := by omega
    subst this
    omega
 ·simp only [decide_eq_false_iff_not] at hb
  refine h true ⟨fun _ s hs => ?_, fun _ => rfl⟩
  obtain ⟨j, hj, e⟩ := List.mem_iff_getElem.1 hs
  have := hP j (by omega)
  rw [getD_lt _ hj, e] at this
  exact this
theorem VC41_of {g : Gr} {K : Int → Prop} (hbad : ∀ e, e ≠ 0 → ¬ GoodG g → K e) (h : GoodG g → K 0) : VC41 g K := by
 unfold VC41
 refine ⟨fun hc => hbad 1 (by decide) fun hg => ?_, fun hc => ?_⟩
 ·simp only [Bool.or_eq_true, decide_eq_true_eq] at hc
  have h1 := hg.k
  have h2 := hg.n
  have h3 := hg.few
  omega
 simp only [Bool.or_eq_false_iff, decide_eq_false_iff_not] at hc
 have hk : 1 ≤ g.1 ∧ g.1 ≤ 3 := by omega
 have hn : 1 ≤ g.2.1 ∧ g.2.1 ≤ 5 := by omega
 have hfew : g.2.2.2.length ≤ 10 := by omega
 refine loop_count g.2.2.2.length (fun i => ∀ j, j < i → (g.2.2.2.getD j (0, [])).2.length ≤ 4) (by intro j hj; omega) ?_
 intro i hi hP X hX
 unfold VC41_l2
 refine ⟨fun hb => ?_, fun hb => ?_⟩
 ·simp only [decide_eq_true_eq] at hb
  simp only [Int.toNat_natCast]
  have hmem : g.2.2.2.getD i (0, []) ∈ g.2.2.2 := getD_mem (by omega)
  refine ⟨⟨by omega, by omega⟩, fun h4 => hbad 1 (by decide) fun hg => ?_, fun h4 => ⟨⟨by omega, by omega⟩, hX (by omega) fun j hj => ?_⟩⟩
  ·simp only [decide_eq_true_eq] at h4
   have := hg.short _ hmem
   omega
  ·simp only [decide_eq_false_iff_not] at h4
   by_cases e : j < i
   ·exact hP j e
   ·have : j = i := by omega
    subst this
    omega
 ·simp only [decide_eq_false_iff_not] at hb
  have hshort : ∀ r ∈ g.2.2.2, r.2.length ≤ 4 := by
   intro r hr
   obtain ⟨j, hj, ej⟩ := List.mem_iff_getElem.1 hr
   have := hP j (by omega)
   rw [getD_lt _ hj, ej] at this
   exact this
  unfold VC41_k1
  refine ⟨fun hs => hbad 2 (by decide) fun hg => ?_, fun hs => ?_⟩
  ·simp only [Bool.or_eq_true, decide_eq_true_eq] at hs
   have := hg.start
   omega
  simp only [Bool.or_eq_false_iff, decide_eq_false_iff_not] at hs
  refine loop_count g.2.2.2.length (fun i => ∀ j, j < i → (0 ≤ (g.2.2.2.getD j (0, [])).1 ∧ (g.2.2.2.getD j (0, [])).1 < g.2.1) ∧ ∀ s ∈ (g.2.2.2.getD j (0, [])).2, 0 ≤ s ∧ s < g.1 + g.2.1) (by intro j hj; omega) ?_
  intro i hi hP X hX
  unfold VC41_l1 VC41_k2
  refine ⟨fun hb => ?_, fun hb => ?_⟩
  ·simp only [decide_eq_true_eq] at hb
   simp only [Int.toNat_natCast]
   have hmem : g.2.2.2.getD i (0, []) ∈ g.2.2.2 := getD_mem (by omega)
   refine ⟨⟨by omega, by omega⟩, ?_⟩
   refine gcall_both (fun e2 => VC64_of hk hn (hshort _ hmem) fun b hb2 => ?_) (fun e2 => ?_)
   ·simp only [Bool.not_eq_true'] at e2
    rw [e2]
    simp only [Bool.or_eq_false_iff, decide_eq_false_iff_not] at e2
    refine ⟨fun hc2 => hbad 2 (by decide) fun hg => ?_, fun hc2 => ⟨⟨by omega, by omega⟩, hX (by omega) fun j hj => ?_⟩⟩
    ·simp only [Bool.false_or, Bool.not_eq_true'] at hc2
     have := hb2.2 (hg.right _ hmem)
     rw [hc2] at this
     cases this
    ·by_cases e3 : j < i
     ·exact hP j e3
     ·have : j = i := by omega
      subst this
      simp only [Bool.false_or, Bool.not_eq_false'] at hc2
      exact ⟨⟨by omega, by omega⟩, hb2.1 hc2⟩
   ·simp only [Bool.not_eq_false'] at e2
    rw [e2]
    refine ⟨fun _ => hbad 2 (by decide) fun hg => ?_, fun hc2 => by simp at hc2⟩
    simp only [Bool.or_eq_true, decide_eq_true_eq] at e2
    have := hg.left _ hmem
    omega
  ·simp only [decide_eq_false_iff_not] at hb
   have hall : ∀ r ∈ g.2.2.2, (0 ≤ r.1 ∧ r.1 < g.2.1) ∧ ∀ s ∈ r.2, 0 ≤ s ∧ s < g.1 + g.2.1 := by
    intro r hr
    obtain ⟨j, hj, ej⟩ := List.mem_iff_getElem.1 hr
    have := hP j (by omega)
    rw [getD_lt _ hj, ej] at this
    exact this
   exact h ⟨hk, hn, hfew, hshort, ⟨by omega, by omega⟩, fun r hr => (hall r hr).1, fun r hr => (hall r hr).2⟩
end Dec
namespace Dec
open Go Go.Proofs Cfg
def GoodW (k : Int) (w : List Int) : Prop := w.length ≤ 12 ∧ ∀ s ∈ w, 0 ≤ s ∧ s < k
theorem VC30_of {k : Int} {w : List Int} (hk : 1 ≤ k ∧ k ≤ 3) {K : Int → Prop} (hbad : ∀ e, e ≠ 0 → ¬ GoodW k w → K e) (h : GoodW k w → K 0) : VC30 k w K := by
 unfold VC30
 refine ⟨fun hc => hbad 1 (by decide) fun hg => ?_, fun hc => ?_⟩
 ·simp only [decide_eq_true_eq] at hc
  have := hg.1
  omega
 ·simp only [decide_eq_false_iff_not] at hc
  refine VC27_of (fun s => !(decide (0 ≤ s) && decide (s ≤ k - 1))) (by omega) (fun x _ K' hK' => ⟨⟨by omega, by omega⟩, hK'⟩) ⟨fun hs => hbad 2 (by decide) fun hg => ?_, fun hs => h ⟨by omega, fun s hm => ?_⟩⟩
  ·obtain ⟨s, hm, h1⟩ := List.any_eq_true.1 hs
   have := hg.2 s hm
   simp only [Bool.not_eq_true', Bool.and_eq_false_iff, decide_eq_false_iff_not] at h1
   omega
  ·have := List.any_eq_false.1 hs s hm
   simp only [Bool.not_eq_true', Bool.not_eq_false, Bool.and_eq_true, decide_eq_true_eq] at this
   omega
theorem VC42_of {k : Int} {w : List Int} {K : Int → Prop} (hbad : ∀ e, e ≠ 0 → ¬ GoodW k w → K e) (h : GoodW k w → K 0) : VC42 k w K := by
 unfold VC42
 refine ⟨fun hc => hbad 1 (by decide) fun hg => ?_, fun hc => ?_⟩
 ·simp only [decide_eq_true_eq] at hc
  have := hg.1
  omega
 ·simp only [decide_eq_false_iff_not] at hc
  refine loop_count w.length (fun i => ∀ j, j < i → 0 ≤ w.getD j 0 ∧ w.getD j 0 < k) (by intro j hj; omega) ?_
  intro i hi hP X hX
  unfold VC42_l1 VC42_k1
  refine ⟨fun hb => ?_, fun hb => ?_⟩
  ·simp only [decide_eq_true_eq] at hb
   simp only [Int.toNat_natCast]
   have hm : w.getD i 0 ∈ w := getD_mem (by omega)
   refine ⟨⟨by omega, by omega⟩, fun hd => hbad 2 (by decide) fun hg => ?_, fun hd => ⟨⟨by omega, by omega⟩, hX (by omega) fun j hj => ?_⟩⟩
   ·simp only [Bool.or_eq_true, decide_eq_true_eq] at hd
    have := hg.2 _ hm
    omega
   ·simp only [Bool.or_eq_false_iff, decide_eq_false_iff_not] at hd
    by_cases e : j < i
    ·exact hP j e
    ·have : j = i := by omega
     subst this
     omega
  ·simp only [decide_eq_false_iff_not] at hb
   refine h ⟨by omega, fun s hs => ?_⟩
   obtain ⟨j, hj, e⟩ := List.mem_iff_getElem.1 hs
   have := hP j (by omega)
   rw [getD_lt _ hj, e] at this
   exact this
theorem VC12_of {g : Gr} {w : List Int} {K : Int → Prop} (hbad : ∀ e, e ≠ 0 → ¬ (GoodG g ∧ GoodW g.1 w) → K e) (h : GoodG g → GoodW g.1 w → K 0) : VC12 g w K := by
 unfold VC12
 refine VC26_of (fun e he hn => ⟨fun _ => hbad e he fun hg => hn hg.1, fun hc => absurd (by simpa using hc) he⟩) (fun hg => ⟨fun hc => by simp at hc, fun _ => ?_⟩)
 exact VC30_of hg.k (fun e he hn => hbad e he fun hh => hn hh.2) (h hg)
theorem VC18_of {g : Gr} {w : List Int} {K : Bool → Prop} (h : ∀ b : Bool, (b = true ↔ GoodG g ∧ GoodW g.1 w) → K b) : VC18 g w K := by
 unfold VC18
 refine VC41_of (fun e he hn => ?_) (fun hg => ?_)
 ·rw [decide_eq_false he]
  refine h _ ⟨fun e => by simp at e, fun hg => absurd hg.1 hn⟩
 ·rw [decide_eq_true rfl]
  refine gcall_both (fun _ => VC42_of (fun e he hn => ?_) (fun hw => ?_)) (fun e => by cases e)
  ·rw [decide_eq_false he]
   exact h _ ⟨fun e => by simp at e, fun hg => absurd hg.2 hn⟩
  ·exact h _ ⟨fun _ => ⟨hg, hw⟩, fun _ => by simp⟩
end Dec
namespace Dec
open Go Go.Proofs Cfg
theorem VC15_of {s n : Int} (hs : U32 s) (hn : 0 ≤ n) {K : Bool → Prop} (h : K (bt s n.toNat)) : VC15 s n K := by
 unfold VC15
 rw [has_bt hs hn]
 exact ⟨⟨hs.1, hn⟩, h⟩
abbrev Tbl := List ((Int × Int) × Int)
def tb (sv : Tbl) (i j : Nat) : Int := (mget sv ((i : Int), (j : Int))).getD 0
def Sv (sv : Tbl) (A : Int) (i j : Nat) : Prop := 0 ≤ A ∧ bt (tb sv i j) A.toNat = true
structure TabOk (n : Nat) (sv : Tbl) : Prop where
 word : ∀ i j, U32 (tb sv i j)
 nd : (sv.map Prod.fst).Nodup
 inn : ∀ p ∈ sv.map Prod.fst, (0 ≤ p.1 ∧ p.1 ≤ (n : Int)) ∧ (0 ≤ p.2 ∧ p.2 ≤ (n : Int))
theorem tabOk_nil (n : Nat) : TabOk n [] := ⟨fun i j => u32_zero, by simp, by simp⟩
theorem nodup_le' {α : Type} [DecidableEq α] {a b : List α} (ha : a.Nodup) (hb : ∀ x, x ∈ a → x ∈ b) : a.length ≤ b.length := by
 refine pigeon b.length a.length (fun i => match a[i]? with | some x => b.idxOf x | none => 0) (fun i hi => ?_) fun i j hij hj e => ?_
 ·simp only [List.getElem?_eq_getElem hi]
  exact List.idxOf_lt_length_of_mem (hb _ (List.getElem_mem hi))
 ·simp only [List.getElem?_eq_getElem (show i < a.length by omega), List.getElem?_eq_getElem hj] at e
  have h1 := List.idxOf_lt_length_of_mem (hb _ (List.getElem_mem (show i < a.length by omega)))
  have h2 := List.idxOf_lt_length_of_mem (hb _ (List.getElem_mem hj))
  have e1 : b[b.idxOf a[i]]'h1 = a[i] := List.getElem_idxOf h1
  have e2 : b[b.idxOf a[j]]'h2 = a[j] := List.getElem_idxOf h2
  have e3 : a[i] = a[j] := by rw [← e1, ← e2]; congr 1
  have := (List.nodup_iff_pairwise_ne.1 ha)
  rw [List.pairwise_iff_getElem] at this
  exact this i j (by omega) hj hij e3
def allPairs (n : Nat) : List (Int × Int) := (List.range (n + 1)).flatMap fun (i : Nat) => (List.range (n + 1)).map fun (j : Nat) => ((i : Int), (j : Int))
theorem allPairs_len (n : Nat) : (allPairs n).length = (n + 1) * (n + 1) := by
 unfold allPairs
 rw [List.length_flatMap]
 simp only [List.length_map, List.length_range]
 have : ∀ l : List Nat, (l.map fun _ => n + 1).sum = l.length * (n + 1) := by
  intro l
  induction l with
  | nil => simp
  | cons a l ih => rw [List.map_cons, List.sum_cons, ih, List.length_cons, Nat.add_mul, Nat.one_mul, Nat.add_comm]
 rw [this, List.length_range]
theorem allPairs_mem {n : Nat} {p : Int × Int} (h1 : 0 ≤ p.1 ∧ p.1 ≤ (n : Int)) (h2 : 0 ≤ p.2 ∧ p.2 ≤ (n : Int)) : p ∈ allPairs n := by
 unfold allPairs
 rw [List.mem_flatMap]
 refine ⟨p.1.toNat, by simp; omega, ?_⟩
 rw [List.mem_map]
 refine ⟨p.2.toNat, by simp; omega, ?_⟩
 ext
 ·show ((p.1.toNat : Nat) : Int) = p.1; omega
 ·show ((p.2.toNat : Nat) : Int) = p.2; omega
theorem TabOk.few {n : Nat} {sv : Tbl} (h : TabOk n sv) (hn : n ≤ 12) : sv.length ≤ 169 := by
 have h1 := nodup_le' h.nd (b := allPairs n) (fun p hp => allPairs_mem (h.inn p hp).1 (h.inn p hp).2)
 rw [allPairs_len, List.length_map] at h1
 have : (n + 1) * (n + 1) ≤ 13 * 13 := Nat.mul_le_mul (by omega) (by omega)
 omega
theorem tb_mset (sv : Tbl) (i j i' j' : Nat) (v : Int) : tb (mset sv ((i : Int), (j : Int)) v) i' j' = if i' = i ∧ j' = j then v else tb sv i' j' := by
 unfold tb
 rw [mget_mset]
 by_cases e : i' = i ∧ j' = j
 ·rw [if_pos e, if_pos (by rw [e.1, e.2])]; rfl
 ·rw [if_neg e, if_neg]
  intro h
  injection h with h1 h2
  exact e ⟨by omega, by omega⟩
theorem tabOk_mset {n : Nat} {sv : Tbl} (h : TabOk n sv) {i j : Nat} (hi : i ≤ n) (hj : j ≤ n) {v : Int} (hv : U32 v) : TabOk n (mset sv ((i : Int), (j : Int)) v) := by
 refine ⟨fun i' j' => ?_, ?_, ?_⟩
 ·rw [tb_mset]
  split
  ·exact hv
  ·exact h.word _ _
 ·rw [mset_keys]
  split
  ·exact h.nd
  ·rename_i hno
   rw [List.nodup_append]
   refine ⟨h.nd, by simp, fun x hx y hy => ?_⟩
   rw [List.mem_singleton.1 hy]
   have := mget_none_keys sv ((i : Int), (j : Int)) (by simpa using hno)
   exact fun e => this (e ▸ hx)
 ·rw [mset_keys]
  split
  ·exact h.inn
  ·intro p hp
   rcases List.mem_append.1 hp with hp | hp
   ·exact h.inn p hp
   ·rw [List.mem_singleton.1 hp]
    dsimp only
    omega
theorem VC58_of {g : Gr} {w : List Int} {sv : Tbl} {s : Int} {i j : Nat} (hk : 1 ≤ g.1 ∧ g.1 ≤ 3) (ht : TabOk w.length sv) (hs : 0 ≤ s ∧ s ≤ 100) (hj : j ≤ w.length) (hl : w.length ≤ 12) (hij : i ≤ j) {K : Bool → Prop} (h : ∀ b : Bool, (b = true ↔ SignS g.1 w (Sv sv) s i j) → K b) : VC58 sv g w s ((i : Int), (j : Int)) K := by
 unfold VC58
 dsimp only
 unfold SignS at h
 refine ⟨fun hc => ⟨⟨by omega, by omega⟩, fun he => ?_, h _ ?_⟩, fun hc => ⟨⟨by omega, by omega⟩, VC15_of (ht.word i j) ?_ (h _ ?_)⟩⟩
 ·simp only [decide_eq_true_eq] at he
  exact ⟨by omega, by omega⟩
 ·simp only [decide_eq_true_eq] at hc
  rw [if_pos hc]
  simp only [Int.toNat_natCast, Bool.and_eq_true, decide_eq_true_eq]
  constructor
  ·rintro ⟨h1, h2⟩
   refine ⟨by omega, ?_⟩
   rw [getD_opt (d := (0 : Int)) (by omega), h2]
  ·rintro ⟨h1, h2⟩
   refine ⟨by omega, ?_⟩
   rw [getD_opt (d := (0 : Int)) (by omega)] at h2
   injection h2
 ·simp only [decide_eq_false_iff_not] at hc
  omega
 ·simp only [decide_eq_false_iff_not] at hc
  rw [if_neg hc]
  exact ⟨fun h => ⟨by omega, h⟩, fun h => h.2⟩
theorem VC33_of {g : Gr} {w : List Int} {sv : Tbl} {signs : List Int} {from_ : Nat} (hk : 1 ≤ g.1 ∧ g.1 ≤ 3) (ht : TabOk w.length sv) (hl : w.length ≤ 12) (hsl : signs.length ≤ 4) (hs : ∀ s ∈ signs, 0 ≤ s ∧ s ≤ 100) (hf : from_ ≤ w.length) {K : Int → Prop} (h : ∀ o, U32 o → (∀ t, t ≤ w.length → (bt o t = true ↔ RowS g.1 w (Sv sv) signs from_ t)) → K o) : VC33 sv g w signs (from_ : Int) K := by
 unfold VC33
 refine ⟨by omega, ?_⟩
 refine Loop.by (fun s : Int × Int => ∃ k : Nat, s.2 = (k : Int) ∧ k ≤ signs.length ∧ U32 s.1 ∧ ∀ t, t ≤ w.length → (bt s.1 t = true ↔ RowS g.1 w (Sv sv) (signs.take k) from_ t)) (fun s => ((signs.length : Int) - s.2).toNat) ⟨0, rfl, by omega, u32_shl1 _, fun t htl => ?_⟩ ?_
 ·dsimp only
  rw [bt_shl1 (by omega), List.take_zero]
  simp only [decide_eq_true_eq, RowS]
 rintro ⟨set, k'⟩ ⟨k, e, hki, hu, hset⟩ X hX
 dsimp only at e hu hset
 subst e
 unfold VC33_l1
 dsimp only
 refine ⟨fun hb => ?_, fun hb => ?_⟩
 ·simp only [decide_eq_true_eq] at hb
  have hkl : k < signs.length := by omega
  have hsm : signs.getD k 0 ∈ signs := getD_mem hkl
  have hsr := hs _ hsm
  refine ⟨⟨by omega, by omega⟩, ?_⟩
  refine Loop.by (fun s : Int × Int => ∃ i : Nat, s.2 = (i : Int) ∧ from_ ≤ i ∧ i ≤ w.length + 1 ∧ U32 s.1 ∧ ∀ t, t ≤ w.length → (bt s.1 t = true ↔ ∃ m, from_ ≤ m ∧ m < i ∧ m ≤ t ∧ bt set m = true ∧ SignS g.1 w (Sv sv) (signs.getD k 0) m t)) (fun s => ((w.length : Int) + 1 - s.2).toNat) ⟨from_, rfl, by omega, by omega, u32_zero, fun t htl => ?_⟩ ?_
  ·dsimp only
   rw [bt_zero]
   constructor
   ·intro h; cases h
   ·rintro ⟨m, h1, h2, _⟩; omega
  rintro ⟨next, i'⟩ ⟨i, e, hi1, hi2, hun, hnext⟩ Y hY
  dsimp only at e hun hnext
  subst e
  unfold VC33_l2
  dsimp only
  refine ⟨fun hc => ?_, fun hc => ?_⟩
  ·simp only [decide_eq_true_eq] at hc
   refine Loop.by (fun s : Int × Int => ∃ j : Nat, s.2 = (j : Int) ∧ i ≤ j ∧ j ≤ w.length + 1 ∧ U32 s.1 ∧ ∀ t, t ≤ w.length → (bt s.1 t = true ↔ (bt next t = true ∨ (i ≤ t ∧ t < j ∧ bt set i = true ∧ SignS g.1 w (Sv sv) (signs.getD k 0) i t)))) (fun s => ((w.length : Int) + 1 - s.2).toNat) ⟨i, rfl, by omega, by omega, hun, fun t htl => ?_⟩ ?_
   ·dsimp only
    constructor
    ·intro h; exact Or.inl h
    ·rintro (h | ⟨h1, h2, _⟩)
     ·exact h
     ·omega
   rintro ⟨nx, j'⟩ ⟨j, e, hj1, hj2, hux, hnx⟩ Z hZ
   dsimp only at e hux hnx
   subst e
   unfold VC33_l3
   dsimp only
   refine ⟨fun hd => ?_, fun hd => ?_⟩
   ·simp only [decide_eq_true_eq] at hd
    have hjl : j ≤ w.length := by omega
    refine VC15_of hu (by omega) ?_
    simp only [Int.toNat_natCast]
    have keep : ¬ (bt set i = true ∧ SignS g.1 w (Sv sv) (signs.getD k 0) i j) → VC33_k4 (j : Int) Z nx := by
     intro hno
     unfold VC33_k4
     refine ⟨⟨by omega, by omega⟩, hZ _ ⟨j + 1, by simp, by omega, by omega, hux, fun t htl => ?_⟩ (by dsimp only; omega)⟩
     dsimp only
     rw [hnx t htl]
     constructor
     ·rintro (h | ⟨h1, h2, h3, h4⟩)
      ·exact Or.inl h
      ·exact Or.inr ⟨h1, by omega, h3, h4⟩
     ·rintro (h | ⟨h1, h2, h3, h4⟩)
      ·exact Or.inl h
      ·by_cases et : t = j
       ·subst et; exact absurd ⟨h3, h4⟩ hno
       ·exact Or.inr ⟨h1, by omega, h3, h4⟩
    refine gcall_both (fun e1 => VC58_of hk ht hsr hjl hl hj1 fun b hb2 => ?_) (fun e1 => ?_)
    ·rw [e1]
     refine ⟨fun hyes => ?_, fun hno => keep fun hh => ?_⟩
     ·have hb3 := hb2.1 (by simpa using hyes)
      unfold VC33_k4
      refine ⟨by omega, ⟨by omega, by omega⟩, hZ _ ⟨j + 1, by simp, by omega, by omega, u32_or hux (u32_shl1 _), fun t htl => ?_⟩ (by dsimp only; omega)⟩
      dsimp only
      rw [bt_or1 hux (by omega), Bool.or_eq_true, hnx t htl, decide_eq_true_eq]
      constructor
      ·rintro ((h | ⟨h1, h2, h3, h4⟩) | h)
       ·exact Or.inl h
       ·exact Or.inr ⟨h1, by omega, h3, h4⟩
       ·subst h; exact Or.inr ⟨hj1, by omega, e1, hb3⟩
      ·rintro (h | ⟨h1, h2, h3, h4⟩)
       ·exact Or.inl (Or.inl h)
       ·by_cases et : t = j
        ·exact Or.inr et.symm
        ·exact Or.inl (Or.inr ⟨h1, by omega, h3, h4⟩)
     ·rw [hb2.2 hh.2] at hno
      simp at hno
    ·rw [e1]
     exact ⟨fun hyes => by simp at hyes, fun _ => keep fun hh => by rw [e1] at hh; cases hh.1⟩
   ·simp only [decide_eq_false_iff_not] at hd
    have : j = w.length + 1 := by omega
    subst this
    unfold VC33_k3
    refine ⟨⟨by omega, by omega⟩, hY _ ⟨i + 1, by simp, by omega, by omega, hux, fun t htl => ?_⟩ (by dsimp only; omega)⟩
    dsimp only
    rw [hnx t htl, hnext t htl]
    constructor
    ·rintro (⟨m, h1, h2, h3, h4, h5⟩ | ⟨h1, h2, h3, h4⟩)
     ·exact ⟨m, h1, by omega, h3, h4, h5⟩
     ·exact ⟨i, hi1, by omega, h1, h3, h4⟩
    ·rintro ⟨m, h1, h2, h3, h4, h5⟩
     by_cases em : m = i
     ·subst em; exact Or.inr ⟨h3, by omega, h4, h5⟩
     ·exact Or.inl ⟨m, h1, by omega, h3, h4, h5⟩
  ·simp only [decide_eq_false_iff_not] at hc
   have : i = w.length + 1 := by omega
   subst this
   unfold VC33_k2
   refine ⟨⟨by omega, by omega⟩, hX _ ⟨k + 1, by simp, by omega, hun, fun t htl => ?_⟩ (by dsimp only; omega)⟩
   dsimp only
   rw [hnext t htl, List.take_succ_eq_append_getElem hkl, ← getD_lt (0 : Int) hkl, rowS_snoc htl]
   constructor
   ·rintro ⟨m, h1, h2, h3, h4, h5⟩
    exact ⟨m, h3, by omega, (hset m (by omega)).1 h4, h5, h1⟩
   ·rintro ⟨m, h1, h2, h3, h4, h5⟩
    exact ⟨m, h5, by omega, h1, (hset m h2).2 h3, h4⟩
 ·simp only [decide_eq_false_iff_not] at hb
  have : k = signs.length := by omega
  subst this
  unfold VC33_k1
  rw [List.take_length] at hset
  exact h set hu hset
/-! ### the table grows until nothing changes -/
def Sound (g : Gr) (w : List Int) (sv : Tbl) : Prop := ∀ i j (a : Nat), i ≤ j → j ≤ w.length → bt (tb sv i j) a = true → Der g.1 g.2.2.2 w (a : Int) i j
def ClosedAt (g : Gr) (w : List Int) (sv : Tbl) (i r t : Nat) : Prop := RowS g.1 w (Sv sv) (g.2.2.2.getD r (0, [])).2 i t → Sv sv (g.2.2.2.getD r (0, [])).1 i t
noncomputable def bitsT (sv : Tbl) : Nat := howMany (fun x => bt (tb sv (x / 416) (x / 32 % 13)) (x % 32) = true) 5408
theorem bitsT_le (sv : Tbl) : bitsT sv ≤ 5408 := howMany_le _ _
structure MInv (g : Gr) (w : List Int) (sv0 : Tbl) (done : Nat → Nat → Nat → Prop) (grown : Bool) (sv : Tbl) : Prop where
 tab : TabOk w.length sv
 sound : Sound g w sv
 more : ∀ i j a, bt (tb sv0 i j) a = true → bt (tb sv i j) a = true
 still : grown = false → sv = sv0 ∧ ∀ i r t, done i r t → r < g.2.2.2.length → t ≤ w.length → ClosedAt g w sv0 i r t
 grew : grown = true → ∃ i j a, i ≤ 12 ∧ j ≤ 12 ∧ a < 32 ∧ bt (tb sv i j) a = true ∧ bt (tb sv0 i j) a = false
theorem MInv.weaken {g : Gr} {w : List Int} {sv0 : Tbl} {done done' : Nat → Nat → Nat → Prop} {grown : Bool} {sv : Tbl} (h : MInv g w sv0 done grown sv) (hd : ∀ i r t, r < g.2.2.2.length → t ≤ w.length → done' i r t → done i r t ∨ (grown = false → ClosedAt g w sv0 i r t)) : MInv g w sv0 done' grown sv :=
 ⟨h.tab, h.sound, h.more, fun hg => ⟨(h.still hg).1, fun i r t h1 h2 h3 => by
  rcases hd i r t h2 h3 h1 with h4 | h4
  ·exact (h.still hg).2 i r t h4 h2 h3
  ·exact h4 hg⟩, h.grew⟩
theorem MInv.lt {g : Gr} {w : List Int} {sv0 : Tbl} {done : Nat → Nat → Nat → Prop} {sv : Tbl} (h : MInv g w sv0 done true sv) : bitsT sv0 < bitsT sv := by
 obtain ⟨i, j, a, h1, h2, h3, h4, h5⟩ := h.grew rfl
 refine howMany_lt 5408 (fun x _ hx => h.more _ _ _ hx) ⟨(i * 13 + j) * 32 + a, by omega, ?_, ?_⟩
 all_goals
  have e1 : ((i * 13 + j) * 32 + a) / 416 = i := by omega
  have e2 : ((i * 13 + j) * 32 + a) / 32 % 13 = j := by omega
  have e3 : ((i * 13 + j) * 32 + a) % 32 = a := by omega
  rw [e1, e2, e3]
 ·exact h4
 ·rw [h5]; simp
theorem VC14_of {g : Gr} {w : List Int} (hg : GoodG g) (hl : w.length ≤ 12) {K : Tbl → Prop} (h : ∀ sv, TabOk w.length sv → (∀ i j (a : Nat), i ≤ j → j ≤ w.length → (bt (tb sv i j) a = true ↔ Der g.1 g.2.2.2 w (a : Int) i j)) → K sv) : VC14 g w K := by
 have hk := hg.k
 have hn := hg.n
 have hfew := hg.few
 unfold VC14
 refine Loop.by (fun s : Bool × Tbl => TabOk w.length s.2 ∧ Sound g w s.2 ∧ (s.1 = false → ∀ i r t, r < g.2.2.2.length → t ≤ w.length → ClosedAt g w s.2 i r t)) (fun s => 2 * (5408 - bitsT s.2) + if s.1 then 1 else 0) ⟨tabOk_nil _, fun i j a _ _ hb => ?_, fun e => (by cases e)⟩ ?_
 ·have : tb [] i j = 0 := rfl
  dsimp only at hb
  rw [this, bt_zero] at hb
  cases hb
 rintro ⟨grown, sv0⟩ ⟨htab, hsound, hclosed⟩ X hX
 dsimp only at htab hsound hclosed
 unfold VC14_l1
 dsimp only
 refine ⟨fun hgr => ?_, fun hgr => ?_⟩
 ·subst hgr
  refine Loop.by (fun s : Bool × Int × Tbl => ∃ n : Nat, s.2.1 = (n : Int) - 1 ∧ n ≤ w.length + 1 ∧ MInv g w sv0 (fun i _ _ => n ≤ i) s.1 s.2.2) (fun s => (s.2.1 + 1).toNat) ⟨w.length + 1, by simp, Nat.le_refl _, htab, hsound, fun _ _ _ h => h, fun _ => ⟨rfl, fun i r t hd hr ht hrow => ?_⟩, fun e => (by cases e)⟩ ?_
  ·try dsimp only at hd
   have := hrow.le
   omega
  rintro ⟨gr2, f', sv2⟩ ⟨n, e, hnl, hI2⟩ Y hY
  dsimp only at e hI2
  subst e
  unfold VC14_l2
  dsimp only
  refine ⟨fun hb => ?_, fun hb => ?_⟩
  ·simp only [decide_eq_true_eq] at hb
   obtain ⟨f, rfl⟩ : ∃ f, n = f + 1 := ⟨n - 1, by omega⟩
   have ef : ((f + 1 : Nat) : Int) - 1 = (f : Int) := by omega
   rw [ef] at hY ⊢
   have hfl : f ≤ w.length := by omega
   refine Loop.by (fun s : Bool × Int × Tbl => ∃ v : Nat, s.2.1 = (v : Int) ∧ v ≤ g.2.2.2.length ∧ MInv g w sv0 (fun i r _ => f + 1 ≤ i ∨ (i = f ∧ r < v)) s.1 s.2.2) (fun s => ((g.2.2.2.length : Int) - s.2.1).toNat) ⟨0, rfl, by omega, hI2.weaken fun i r t _ _ hd => ?_⟩ ?_
   ·rcases hd with hd | ⟨_, hd⟩
    ·exact Or.inl hd
    ·omega
   rintro ⟨gr3, v', sv3⟩ ⟨v, e, hvl, hI3⟩ Z hZ
   dsimp only at e hI3
   subst e
   unfold VC14_l3
   dsimp only
   refine ⟨fun hc => ?_, fun hc => ?_⟩
   ·simp only [decide_eq_true_eq] at hc
    have hvl' : v < g.2.2.2.length := by omega
    have hmem : g.2.2.2.getD v (0, []) ∈ g.2.2.2 := getD_mem hvl'
    have hleft := hg.left _ hmem
    have hright := hg.right _ hmem
    have hshort := hg.short _ hmem
    obtain ⟨rl, hrl⟩ : ∃ r, g.2.2.2.getD v (0, []) = r := ⟨_, rfl⟩
    rw [hrl] at hmem hleft hright hshort
    simp only [Int.toNat_natCast, hrl]
    refine ⟨⟨by omega, by omega⟩, VC33_of hk hI3.tab hl hshort (fun s hs => by have := hright s hs; omega) hfl fun ends hue hends => ?_⟩
    obtain ⟨A, hA⟩ : ∃ A : Nat, rl.1 = (A : Int) := ⟨rl.1.toNat, by omega⟩
    have hA32 : A < 32 := by omega
    refine Loop.by (fun s : Bool × Int × Tbl => ∃ t : Nat, s.2.1 = (t : Int) ∧ f ≤ t ∧ t ≤ w.length + 1 ∧ MInv g w sv0 (fun i r t' => (f + 1 ≤ i ∨ (i = f ∧ r < v)) ∨ (i = f ∧ r = v ∧ t' < t)) s.1 s.2.2 ∧ (∀ i j a, bt (tb sv3 i j) a = true → bt (tb s.2.2 i j) a = true) ∧ (s.1 = false → s.2.2 = sv3)) (fun s => ((w.length : Int) + 1 - s.2.1).toNat) ⟨f, rfl, Nat.le_refl _, by omega, hI3.weaken fun i r t _ _ hd => ?_, fun _ _ _ h => h, fun _ => rfl⟩ ?_
    ·rcases hd with hd | ⟨rfl, rfl, hd⟩
     ·exact Or.inl hd
     ·right
      intro _ hrow
      have := hrow.le
      omega
    rintro ⟨gr4, t', sv4⟩ ⟨t, e, ht1, ht2, hI4, hm4, hq4⟩ U hU
    dsimp only at e hI4 hm4 hq4
    subst e
    unfold VC14_l4
    dsimp only
    simp only [Int.toNat_natCast, hrl]
    refine ⟨fun hd => ?_, fun hd => ?_⟩
    ·simp only [decide_eq_true_eq] at hd
     have htl : t ≤ w.length := by omega
     refine VC15_of hue (by omega) ?_
     simp only [Int.toNat_natCast]
     have htw : U32 ((mget sv4 ((f : Int), (t : Int))).getD 0) := hI4.tab.word f t
     have keep : (bt ends t = true → bt (tb sv4 f t) A = true) → VC14_k5 (t : Int) U gr4 sv4 := by
      intro hno
      unfold VC14_k5
      refine ⟨⟨by omega, by omega⟩, hU _ ⟨t + 1, by simp, by omega, by omega, hI4.weaken fun i r t' hr' ht' hd' => ?_, hm4, hq4⟩ (by dsimp only; omega)⟩
      rcases hd' with hd' | ⟨h1, h2, h3⟩
      ·exact Or.inl (Or.inl hd')
      ·by_cases et : t' = t
       ·right
        intro hgf hrow
        have hgr4 : gr4 = false := hgf
        have e4 := (hI4.still hgr4).1
        have e3 := hq4 hgr4
        subst h1 h2 et
        rw [hrl] at hrow ⊢
        have hrow3 : RowS g.1 w (Sv sv3) rl.2 i t' := by rw [← e3, e4]; exact hrow
        have := hno ((hends t' htl).2 hrow3)
        refine ⟨hleft.1, ?_⟩
        rw [hA, Int.toNat_natCast, ← e4]
        exact this
       ·exact Or.inl (Or.inr ⟨h1, h2, by omega⟩)
     have put : bt ends t = true → bt (tb sv4 f t) A = false → ∀ old, old = (mget sv4 ((f : Int), (t : Int))).getD 0 → VC14_k5 (t : Int) U true (mputAt (mtouch sv4 ((f : Int), (t : Int)) 0) (mplace sv4 ((f : Int), (t : Int))).toNat (bOr .u32 old (bShl .u32 (1 : Int) rl.1))) := by
      rintro he hno old rfl
      rw [(mput_mset sv4 ((f : Int), (t : Int)) 0 _).1, hA]
      have hu' : U32 (bOr .u32 ((mget sv4 ((f : Int), (t : Int))).getD 0) (bShl .u32 (1 : Int) (A : Int))) := u32_or htw (u32_shl1 _)
      have hmore : ∀ i j a, bt (tb sv4 i j) a = true → bt (tb (mset sv4 ((f : Int), (t : Int)) (bOr .u32 ((mget sv4 ((f : Int), (t : Int))).getD 0) (bShl .u32 (1 : Int) (A : Int)))) i j) a = true := by
       intro i j a ha
       rw [tb_mset]
       split
       ·rename_i e
        obtain ⟨rfl, rfl⟩ := e
        rw [bt_or1 htw hA32]
        have : bt ((mget sv4 ((i : Int), (j : Int))).getD 0) a = true := ha
        rw [this]; rfl
       ·exact ha
      unfold VC14_k5
      refine ⟨⟨by omega, by omega⟩, hU _ ⟨t + 1, by simp, by omega, by omega, ⟨tabOk_mset hI4.tab hfl htl hu', ?_, fun i j a ha => hmore i j a (hI4.more i j a ha), fun e => (by cases e), fun _ => ⟨f, t, A, by omega, by omega, hA32, ?_, ?_⟩⟩, fun i j a ha => hmore i j a (hm4 i j a ha), fun e => (by cases e)⟩ (by dsimp only; omega)⟩
      ·intro i j a hij hj ha
       dsimp only at ha
       rw [tb_mset] at ha
       split at ha
       ·rename_i e
        obtain ⟨rfl, rfl⟩ := e
        rw [bt_or1 htw hA32, Bool.or_eq_true, decide_eq_true_eq] at ha
        rcases ha with ha | ha
        ·exact hI4.sound _ _ _ hij hj ha
        ·subst ha
         refine ⟨rl.2, by rw [← hA]; exact hmem, ?_⟩
         refine ((hends _ hj).1 he).row (fun B i' j' h1 h2 hS => ?_) (by omega)
         have := hI3.sound i' j' B.toNat h1 h2 hS.2
         rw [show ((B.toNat : Nat) : Int) = B by have := hS.1; omega] at this
         exact this
       ·exact hI4.sound _ _ _ hij hj ha
      ·dsimp only
       rw [tb_mset, if_pos ⟨rfl, rfl⟩, bt_or1 htw hA32]
       simp
      ·cases hb0 : bt (tb sv0 f t) A with
       | false => rfl
       | true => rw [hI4.more _ _ _ hb0] at hno; cases hno
     have hidx := (mput_mset sv4 ((f : Int), (t : Int)) 0 0).2
     have hlen := hI4.tab.few hl
     have hold : (mget (mtouch sv4 ((f : Int), (t : Int)) 0) ((f : Int), (t : Int))).getD 0 = (mget sv4 ((f : Int), (t : Int))).getD 0 := by
      rw [mget_mtouch, if_pos rfl]; rfl
     refine gcall_both (fun e1 => VC15_of htw hleft.1 ?_) (fun e1 => ?_)
     ·rw [e1]
      rw [hA, Int.toNat_natCast, ← hA]
      have etb : bt ((mget sv4 ((f : Int), (t : Int))).getD 0) A = bt (tb sv4 f t) A := rfl
      rw [etb]
      refine ⟨fun hyes => ?_, fun hno => keep fun _ => by simpa using hno⟩
      have hno : bt (tb sv4 f t) A = false := by simpa using hyes
      exact ⟨hleft.1, ⟨⟨by omega, by omega⟩, hidx, put e1 hno _ rfl⟩, ⟨⟨by omega, by omega⟩, hidx, put e1 hno _ hold⟩⟩
     ·rw [e1]
      exact ⟨fun hyes => by simp at hyes, fun _ => keep fun hh => by rw [e1] at hh; cases hh⟩
    ·simp only [decide_eq_false_iff_not] at hd
     have : t = w.length + 1 := by omega
     subst this
     unfold VC14_k4
     refine ⟨⟨by omega, by omega⟩, hZ _ ⟨v + 1, by simp, by omega, hI4.weaken fun i r t' hr' ht' hd' => ?_⟩ (by dsimp only; omega)⟩
     left
     rcases hd' with hd' | ⟨h1, h2⟩
     ·exact Or.inl (Or.inl hd')
     ·by_cases er : r = v
      ·exact Or.inr ⟨h1, er, by omega⟩
      ·exact Or.inl (Or.inr ⟨h1, by omega⟩)
   ·simp only [decide_eq_false_iff_not] at hc
    unfold VC14_k3
    refine ⟨⟨by omega, by omega⟩, hY _ ⟨f, rfl, by omega, hI3.weaken fun i r t hr' ht' hd' => ?_⟩ (by dsimp only; omega)⟩
    left
    by_cases ei : i = f
    ·exact Or.inr ⟨ei, by omega⟩
    ·exact Or.inl (by omega)
  ·simp only [decide_eq_false_iff_not] at hb
   have : n = 0 := by omega
   subst this
   unfold VC14_k2
   refine hX _ ⟨hI2.tab, hI2.sound, fun e i r t hr ht => ?_⟩ ?_
   ·dsimp only at e ⊢
    try rw [(hI2.still e).1]
    exact (hI2.still e).2 i r t (Nat.zero_le _) hr ht
   ·dsimp only
    cases gr2 with
    | false =>
     have := (hI2.still rfl).1
     subst this
     simp
    | true =>
     have h1 := hI2.lt
     have h2 := bitsT_le sv2
     simp
     omega
 ·subst hgr
  have hcl := hclosed rfl
  unfold VC14_k1
  refine h sv0 htab fun i j a hij hj => ⟨hsound i j a hij hj, ?_⟩
  rintro ⟨l, hl1, hl2⟩
  have hrow := row_rowS (S := Sv sv0) (fun B l' i' j' hB h1 h2 hr => by
   obtain ⟨r, hr1, hr2⟩ := List.mem_iff_getElem.1 hB
   have := hcl i' r j' hr1 h2
   unfold ClosedAt at this
   rw [getD_lt _ hr1, hr2] at this
   exact this hr) hl2
  obtain ⟨r, hr1, hr2⟩ := List.mem_iff_getElem.1 hl1
  have := hcl i r j hr1 hj
  unfold ClosedAt at this
  rw [getD_lt _ hr1, hr2] at this
  have := (this hrow).2
  rw [Int.toNat_natCast] at this
  exact this
end Dec
