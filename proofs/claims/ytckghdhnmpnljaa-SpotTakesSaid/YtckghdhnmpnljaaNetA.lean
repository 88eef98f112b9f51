/-
  Nets in plain Lean: what is checked, and what a net reaches.
-/
import Derived.Test.YtckghdhnmpnljaaSentA
set_option linter.unusedSimpArgs false
set_option linter.unusedVariables false
namespace Dec
open Go Go.Proofs

abbrev Arc := Int × (Int × Int)
abbrev Net := Int × (Int × (List Arc × (Int × Int)))
abbrev NetT : Ty := .pr (.int .i64) (.pr (.int .i64) (.pr (.sl (.pr (.int .i64) (.pr (.int .i64) (.int .i64)))) (.pr (.int .u32) (.int .u32))))

def aOk (n k : Int) (a : Arc) : Prop := 0 ≤ a.1 ∧ a.1 < n ∧ 0 ≤ a.2.2 ∧ a.2.2 < n ∧ -1 ≤ a.2.1 ∧ a.2.1 < k
def nA (n : Net) : Prop := 1 ≤ n.1 ∧ n.1 ≤ 7 ∧ 1 ≤ n.2.1 ∧ n.2.1 ≤ 3 ∧ n.2.2.1.length ≤ 60
def nB (n : Net) : Prop := ∀ a ∈ n.2.2.1, aOk n.1 n.2.1 a
def nC (n : Net) : Prop := n.2.2.2.1 < ((2 ^ n.1.toNat : Nat) : Int) ∧ n.2.2.2.2 < ((2 ^ n.1.toNat : Nat) : Int)
def GoodN (n : Net) : Prop := nA n ∧ nB n ∧ nC n
def NU (n : Net) : Prop := U32 n.2.2.2.1 ∧ U32 n.2.2.2.2

open Classical in
noncomputable def chkN (n : Net) : Int := if ¬ nA n then 1 else if ¬ nB n then 2 else if ¬ nC n then 4 else 0

theorem chkN_zero (n : Net) : chkN n = 0 ↔ GoodN n := by
  unfold chkN GoodN
  by_cases a : nA n <;> by_cases b : nB n <;> by_cases c : nC n <;> simp [a, b, c]

theorem or_zero {s t : Int} {n : Nat} (hs : U32 s) (ht : U32 t) : bShr .u32 (bOr .u32 s t) (n : Int) = 0 ↔ s < ((2 ^ n : Nat) : Int) ∧ t < ((2 ^ n : Nat) : Int) := by
  rw [shr_zero (u32_or hs ht), below_bt (u32_or hs ht), below_bt hs, below_bt ht]
  constructor
  · intro h
    refine ⟨fun i hi => ?_, fun i hi => ?_⟩ <;> have := h i hi <;> rw [bt_or hs ht] at this <;> simp at this <;> simp [this]
  · rintro ⟨h1, h2⟩ i hi
    rw [bt_or hs ht, h1 i hi, h2 i hi]; rfl

theorem aBool {n k : Int} {a : Arc} : (((((((decide (a.1 < (0 : Int))) || (decide (n ≤ a.1))) || (decide (a.2.2 < (0 : Int)))) || (decide (n ≤ a.2.2))) || (decide (a.2.1 < (-1 : Int)))) || (decide (k ≤ a.2.1)))) = true ↔ ¬ aOk n k a := by
  unfold aOk
  simp
  omega

theorem VC62_of {n : Net} (hu : NU n) {K : Int → Prop} (h : K (chkN n)) : VC62 n K := by
  unfold VC62
  by_cases a : nA n
  · obtain ⟨a1, a2, a3, a4, a5⟩ := id a
    refine ⟨fun hc => ?_, fun _ => ?_⟩
    · exfalso; simp at hc; omega
    refine loop_count n.2.2.1.length (fun i => ∀ j, j < i → aOk n.1 n.2.1 (n.2.2.1.getD j (0, (0, 0)))) (by simp) ?_
    intro i hi hP X hX
    unfold VC62_l1
    refine ⟨fun hlt => ?_, fun hge => ?_⟩
    · simp only [decide_eq_true_eq] at hlt
      have hil : i < n.2.2.1.length := by omega
      refine ⟨⟨by omega, by omega⟩, fun hc => ?_, fun hc => ⟨⟨by omega, by omega⟩, hX hil ?_⟩⟩
      · have hno := aBool.1 hc
        simp only [Int.toNat_natCast] at hno
        have hb : ¬ nB n := fun hb => hno (hb _ (getD_mem hil))
        have : chkN n = 2 := by unfold chkN; simp [a, hb]
        rw [this] at h; exact h
      · have hno : aOk n.1 n.2.1 (n.2.2.1.getD i (0, (0, 0))) := by
          refine Classical.byContradiction fun hn => ?_
          have := aBool.2 hn
          simp only [Int.toNat_natCast] at hc
          rw [this] at hc; cases hc
        intro j hj
        by_cases hji : j < i
        · exact hP j hji
        · have : j = i := by omega
          subst this; exact hno
    · simp only [decide_eq_false_iff_not] at hge
      have hb : nB n := by
        intro x hx
        obtain ⟨j, hj, rfl⟩ := List.mem_iff_getElem.1 hx
        have := hP j (by omega)
        rwa [getD_lt _ hj] at this
      obtain ⟨m, hm⟩ : ∃ m : Nat, n.1 = (m : Int) := ⟨n.1.toNat, by omega⟩
      unfold VC62_k1
      refine ⟨⟨(u32_or hu.1 hu.2).1, by omega⟩, fun hc => ?_, fun hc => ?_⟩
      · have hc' : ¬ nC n := by
          intro hh
          unfold nC at hh
          rw [hm, Int.toNat_natCast] at hh
          rw [hm, (or_zero hu.1 hu.2).2 hh] at hc
          simp at hc
        have : chkN n = 4 := by unfold chkN; simp [a, hb, hc']
        rw [this] at h; exact h
      · have hc' : nC n := by
          unfold nC
          rw [hm] at hc ⊢
          simp only [Int.toNat_natCast]
          exact (or_zero hu.1 hu.2).1 (by simpa using hc)
        have : chkN n = 0 := by unfold chkN; simp [a, hb, hc']
        rw [this] at h; exact h
  · have hk : chkN n = 1 := by unfold chkN; simp [a]
    rw [hk] at h
    refine ⟨fun _ => h, fun hc => ?_⟩
    exfalso
    apply a
    simp at hc
    exact ⟨by omega, by omega, by omega, by omega, by omega⟩


inductive NP (n : Net) : Nat → List Int → Nat → Prop
  | nil (p : Nat) : NP n p [] p
  | eps {p q : Nat} {w : List Int} (a : Arc) (ha : a ∈ n.2.2.1) (hs : a.2.1 < 0) (hp : a.1.toNat = p) (h : NP n a.2.2.toNat w q) : NP n p w q
  | sym {p q : Nat} {s : Int} {w : List Int} (a : Arc) (ha : a ∈ n.2.2.1) (hs : a.2.1 = s) (h0 : 0 ≤ s) (hp : a.1.toNat = p) (h : NP n a.2.2.toNat w q) : NP n p (s :: w) q

theorem NP.append {n : Net} {p q r : Nat} {u v : List Int} (h1 : NP n p u q) (h2 : NP n q v r) : NP n p (u ++ v) r := by
  induction h1 with
  | nil p => exact h2
  | eps a ha hs hp h ih => exact .eps a ha hs hp (ih h2)
  | sym a ha hs h0 hp h ih => exact .sym a ha hs h0 hp (ih h2)

theorem NP.split {n : Net} {p r : Nat} {w : List Int} (h : NP n p w r) : ∀ {u : List Int} {s : Int}, w = u ++ [s] → ∃ q, NP n p u q ∧ ∃ a ∈ n.2.2.1, a.2.1 = s ∧ 0 ≤ s ∧ a.1.toNat = q ∧ NP n a.2.2.toNat [] r := by
  induction h with
  | nil p => intro u s e; simp at e
  | eps a ha hs hp h ih =>
    intro u s e
    obtain ⟨q, h1, h2⟩ := ih e
    exact ⟨q, .eps a ha hs hp h1, h2⟩
  | @sym p q s' w' a ha hs h0 hp h ih =>
    intro u s e
    cases u with
    | nil =>
      simp at e
      obtain ⟨rfl, rfl⟩ := e
      exact ⟨p, .nil p, a, ha, hs, h0, hp, h⟩
    | cons x u =>
      simp at e
      obtain ⟨rfl, e⟩ := e
      obtain ⟨q', h1, h2⟩ := ih e
      exact ⟨q', .sym a ha hs h0 hp h1, h2⟩

/-- r is the set of what is reached from the set s by the word -/
def IsRun (n : Net) (s : Int) (w : List Int) (r : Int) : Prop := U32 r ∧ ∀ q, bt r q = true ↔ ∃ p, bt s p = true ∧ NP n p w q

theorem IsRun.ext {n : Net} {s r r' : Int} {w : List Int} (h : IsRun n s w r) (h' : IsRun n s w r') : r = r' := by
  refine u32_ext h.1 h'.1 fun i hi => ?_
  have h1 := h.2 i
  have h2 := h'.2 i
  rw [Bool.eq_iff_iff, h1, h2]

theorem bt_mono_le {s t : Int} (hs : U32 s) (ht : U32 t) (h : ∀ i, bt s i = true → bt t i = true) : s ≤ t := by
  have : t = bOr .u32 s t := by
    refine u32_ext ht (u32_or hs ht) fun i _ => ?_
    rw [bt_or hs ht]
    have := h i
    cases hx : bt s i <;> cases hy : bt t i <;> simp_all
  obtain ⟨m, hm, rfl⟩ := u32_nat hs
  obtain ⟨k, hk, rfl⟩ := u32_nat ht
  rw [(bOr_nat hm hk).1] at this
  have h2 : m ≤ m ||| k := Nat.left_le_or
  omega

theorem VC63_of {n : Net} (g : nB n) (hlen : n.2.2.1.length ≤ 60) (hN : n.1 ≤ 7) {s0 : Int} (h0 : U32 s0) {K : Int → Prop} (h : ∀ r, IsRun n s0 [] r → K r) : VC63 n s0 K := by
  unfold VC63
  refine Loop.by (fun s => U32 s ∧ (∀ q, bt s0 q = true → bt s q = true) ∧ (∀ q, bt s q = true → ∃ p, bt s0 p = true ∧ NP n p [] q)) (fun s => (4294967296 - s).toNat) ⟨h0, fun q hq => hq, fun q hq => ⟨q, hq, .nil q⟩⟩ ?_
  rintro s ⟨hu, hsub, hsnd⟩ X hX
  unfold VC63_l1
  refine Loop.by (fun t : Int × Int => ∃ i : Nat, i ≤ n.2.2.1.length ∧ t.2 = (i : Int) ∧ U32 t.1 ∧ (∀ q, bt s q = true → bt t.1 q = true) ∧ (∀ q, bt t.1 q = true → ∃ p, bt s0 p = true ∧ NP n p [] q) ∧
    ∀ j, j < i → (n.2.2.1.getD j (0, (0, 0))).2.1 < 0 → bt s (n.2.2.1.getD j (0, (0, 0))).1.toNat = true → bt t.1 (n.2.2.1.getD j (0, (0, 0))).2.2.toNat = true) (fun t => ((n.2.2.1.length : Int) - t.2).toNat) ⟨0, by omega, rfl, hu, fun q hq => hq, hsnd, by intro j hj; omega⟩ ?_
  rintro ⟨t, c⟩ ⟨i, hi, e, ht, hst, htsnd, hcl⟩ X2 hX2
  simp only at e ht hst htsnd hcl
  subst e
  unfold VC63_l2
  refine ⟨fun hlt => ?_, fun hge => ?_⟩
  · simp only [decide_eq_true_eq] at hlt
    have hil : i < n.2.2.1.length := by omega
    refine ⟨⟨by omega, by omega⟩, ?_⟩
    simp only [Int.toNat_natCast]
    have hmem : n.2.2.1.getD i (0, (0, 0)) ∈ n.2.2.1 := getD_mem hil
    refine (fun step : ∀ a : Arc, n.2.2.1.getD i (0, (0, 0)) = a → a ∈ n.2.2.1 → gcall (decide (a.2.1 < (0 : Int))) (VC44 t a.1) false (fun r => (((decide (a.2.1 < (0 : Int))) && r) = true → (0 ≤ a.2.2 ∧ VC63_k2 (i : Int) X2 (bOr .u32 t (bShl .u32 (1 : Int) a.2.2)))) ∧ (((decide (a.2.1 < (0 : Int))) && r) = false → VC63_k2 (i : Int) X2 t)) => step _ rfl hmem) ?_
    intro a ea hmem
    obtain ⟨k1, k2, k3, k4, k5, k6⟩ := g a hmem
    refine gcall_of (bt t a.1.toNat) (fun _ hk => VC44_of ht k1 hk) ?_
    refine ⟨fun hc => ⟨k3, ⟨by omega, by omega⟩, ?_⟩, fun hc => ⟨⟨by omega, by omega⟩, ?_⟩⟩
    · have hc1 : a.2.1 < 0 := by
        refine Classical.byContradiction fun hn => ?_
        simp [hn] at hc
      have hc2 : bt t a.1.toNat = true := by simpa [hc1] using hc
      obtain ⟨z, hz⟩ : ∃ z : Nat, a.2.2 = (z : Int) := ⟨a.2.2.toNat, by omega⟩
      have hz7 : z < 32 := by omega
      rw [hz]
      have hb : ∀ q, bt (bOr .u32 t (bShl .u32 1 (z : Int))) q = (bt t q || decide (z = q)) := fun q => by rw [bt_or ht (u32_shl1 _), bt_shl1 hz7]
      refine hX2 _ ⟨i + 1, by omega, by simp, u32_or ht (u32_shl1 _), fun q hq => by rw [hb, hst q hq]; rfl, fun q hq => ?_, fun j hj h1 h2 => ?_⟩ (by simp only; omega)
      · rw [hb] at hq
        cases htq : bt t q with
        | true => exact htsnd q htq
        | false =>
          rw [htq] at hq
          simp at hq
          obtain ⟨p, hp1, hp2⟩ := htsnd _ hc2
          refine ⟨p, hp1, ?_⟩
          have := hp2.append (NP.eps (w := []) (q := q) a hmem hc1 rfl (by rw [hz, Int.toNat_natCast, hq]; exact .nil q))
          simpa using this
      · rw [hb]
        by_cases hji : j < i
        · rw [hcl j hji h1 h2]; rfl
        · have : j = i := by omega
          subst this
          rw [ea, hz]
          simp
    · refine hX2 _ ⟨i + 1, by omega, by simp, ht, hst, htsnd, fun j hj h1 h2 => ?_⟩ (by simp only; omega)
      by_cases hji : j < i
      · exact hcl j hji h1 h2
      · have : j = i := by omega
        subst this
        rw [ea] at h1 h2
        simp [h1, hst _ h2] at hc
  · simp only [decide_eq_false_iff_not] at hge
    have : i = n.2.2.1.length := by omega
    subst this
    unfold VC63_k1
    refine ⟨fun hc => h t ⟨ht, fun q => ⟨htsnd q, ?_⟩⟩, fun hc => hX _ ⟨ht, fun q hq => hst q (hsub q hq), htsnd⟩ ?_⟩
    · simp only [decide_eq_true_eq] at hc
      subst hc
      rintro ⟨p, hp1, hp2⟩
      have key : ∀ {p : Nat} {w : List Int} {q : Nat}, NP n p w q → w = [] → bt t p = true → bt t q = true := by
        intro p w q hh
        induction hh with
        | nil p => intro _ hh; exact hh
        | eps a ha hs hp h ih =>
          intro e hb
          refine ih e ?_
          obtain ⟨j, hj, rfl⟩ := List.mem_iff_getElem.1 ha
          have := hcl j hj
          rw [getD_lt _ hj] at this
          exact this hs (by rw [hp]; exact hb)
        | sym a ha hs h0 hp h ih => intro e; cases e
      exact key hp2 rfl (hsub _ hp1)
    · simp only [decide_eq_false_iff_not] at hc
      have := bt_mono_le hu ht hst
      have h2 := ht.2
      have h3 := hu.1
      omega

theorem VC64_of {n : Net} (g : nB n) (hlen : n.2.2.1.length ≤ 60) (hN : n.1 ≤ 7) {s0 set s : Int} {u : List Int} (hs : 0 ≤ s) (h0 : IsRun n s0 u set) {K : Int → Prop} (h : ∀ r, IsRun n s0 (u ++ [s]) r → K r) : VC64 n set s K := by
  unfold VC64
  have hu := h0.1
  refine Loop.by (fun t : Int × Int => ∃ i : Nat, i ≤ n.2.2.1.length ∧ t.2 = (i : Int) ∧ U32 t.1 ∧ (∀ q, bt t.1 q = true ↔ ∃ j, j < i ∧ (n.2.2.1.getD j (0, (0, 0))).2.1 = s ∧ bt set (n.2.2.1.getD j (0, (0, 0))).1.toNat = true ∧ (n.2.2.1.getD j (0, (0, 0))).2.2.toNat = q)) (fun t => ((n.2.2.1.length : Int) - t.2).toNat) ⟨0, by omega, rfl, u32_zero, by intro q; simp [bt_zero]⟩ ?_
  rintro ⟨t, c⟩ ⟨i, hi, e, ht, hq⟩ X2 hX2
  simp only at e ht hq
  subst e
  unfold VC64_l1
  refine ⟨fun hlt => ?_, fun hge => ?_⟩
  · simp only [decide_eq_true_eq] at hlt
    have hil : i < n.2.2.1.length := by omega
    refine ⟨⟨by omega, by omega⟩, ?_⟩
    simp only [Int.toNat_natCast]
    have hmem : n.2.2.1.getD i (0, (0, 0)) ∈ n.2.2.1 := getD_mem hil
    refine (fun step : ∀ a : Arc, n.2.2.1.getD i (0, (0, 0)) = a → a ∈ n.2.2.1 → gcall (decide (a.2.1 = s)) (VC44 set a.1) false (fun r => (((decide (a.2.1 = s)) && r) = true → (0 ≤ a.2.2 ∧ VC64_k2 (i : Int) X2 (bOr .u32 t (bShl .u32 (1 : Int) a.2.2)))) ∧ (((decide (a.2.1 = s)) && r) = false → VC64_k2 (i : Int) X2 t)) => step _ rfl hmem) ?_
    intro a ea hmem
    obtain ⟨k1, k2, k3, k4, k5, k6⟩ := g a hmem
    refine gcall_of (bt set a.1.toNat) (fun _ hk => VC44_of hu k1 hk) ?_
    refine ⟨fun hc => ⟨k3, ⟨by omega, by omega⟩, ?_⟩, fun hc => ⟨⟨by omega, by omega⟩, ?_⟩⟩
    · have hc1 : a.2.1 = s := by
        refine Classical.byContradiction fun hn => ?_
        simp [hn] at hc
      have hc2 : bt set a.1.toNat = true := by simpa [hc1] using hc
      obtain ⟨z, hz⟩ : ∃ z : Nat, a.2.2 = (z : Int) := ⟨a.2.2.toNat, by omega⟩
      have hz7 : z < 32 := by omega
      rw [hz]
      have hb : ∀ q, bt (bOr .u32 t (bShl .u32 1 (z : Int))) q = (bt t q || decide (z = q)) := fun q => by rw [bt_or ht (u32_shl1 _), bt_shl1 hz7]
      refine hX2 _ ⟨i + 1, by omega, by simp, u32_or ht (u32_shl1 _), fun q => ?_⟩ (by simp only; omega)
      rw [hb, Bool.or_eq_true, hq]
      constructor
      · rintro (⟨j, h1, h2⟩ | h1)
        · exact ⟨j, by omega, h2⟩
        · refine ⟨i, by omega, ?_⟩
          rw [ea, hz]
          exact ⟨hc1, hc2, by simpa using h1⟩
      · rintro ⟨j, h1, h2⟩
        by_cases hji : j < i
        · exact .inl ⟨j, hji, h2⟩
        · have : j = i := by omega
          subst this
          rw [ea, hz] at h2
          right
          simpa using h2.2.2
    · refine hX2 _ ⟨i + 1, by omega, by simp, ht, fun q => ?_⟩ (by simp only; omega)
      rw [hq]
      constructor
      · rintro ⟨j, h1, h2⟩
        exact ⟨j, by omega, h2⟩
      · rintro ⟨j, h1, h2⟩
        by_cases hji : j < i
        · exact ⟨j, hji, h2⟩
        · have : j = i := by omega
          subst this
          rw [ea] at h2
          simp [h2.1, h2.2.1] at hc
  · simp only [decide_eq_false_iff_not] at hge
    have : i = n.2.2.1.length := by omega
    subst this
    unfold VC64_k1
    refine VC63_of g hlen hN ht fun r hr => h r ⟨hr.1, fun q => ?_⟩
    rw [hr.2]
    constructor
    · rintro ⟨p, hp1, hp2⟩
      obtain ⟨j, h1, h2, h3, h4⟩ := (hq p).1 hp1
      obtain ⟨z, hz1, hz2⟩ := (h0.2 _).1 h3
      exact ⟨z, hz1, hz2.append (.sym _ (getD_mem h1) h2 hs rfl (by rw [h4]; exact hp2))⟩
    · rintro ⟨p, hp1, hp2⟩
      obtain ⟨z, h1, a, ha, h2, h3, h4, h5⟩ := hp2.split rfl
      refine ⟨a.2.2.toNat, (hq _).2 ?_, h5⟩
      obtain ⟨j, hj, rfl⟩ := List.mem_iff_getElem.1 ha
      refine ⟨j, hj, ?_⟩
      rw [getD_lt _ hj]
      exact ⟨h2, (h0.2 _).2 ⟨p, hp1, by rw [h4]; exact h1⟩, rfl⟩

theorem VC32_of {n : Net} {w : List Int} (hu : NU n) {K : Int × Bool × Int → Prop} (hbad : ∀ e, e ≠ 0 → ¬ (GoodN n ∧ GoodW n.2.1 w) → K (0, false, e))
    (h : GoodN n → GoodW n.2.1 w → ∀ r, IsRun n n.2.2.2.1 w r → K (r, !decide (bAnd .u32 r n.2.2.2.2 = 0), 0)) : VC32 n w K := by
  unfold VC32
  refine VC62_of hu ⟨fun hc => hbad _ (by simpa using hc) fun hg => ?_, fun hc => ?_⟩
  · rw [(chkN_zero n).2 hg.1] at hc; simp at hc
  have g := (chkN_zero n).1 (by simpa using hc)
  obtain ⟨⟨a1, a2, a3, a4, a5⟩, b, c⟩ := id g
  refine VC40_of ⟨a3, a4⟩ (fun e he hno => ⟨fun _ => hbad e he fun hh => hno hh.2, fun hcc => absurd (by simpa using hcc) he⟩) (fun gw => ⟨fun hcc => (by simp at hcc), fun _ => ?_⟩)
  have hwl := gw.1
  refine VC63_of b a5 a2 hu.1 fun r0 hr0 => ?_
  refine Loop.by (fun t : Int × Int => ∃ i : Nat, i ≤ w.length ∧ t.2 = (i : Int) ∧ IsRun n n.2.2.2.1 (w.take i) t.1) (fun t => ((w.length : Int) - t.2).toNat) ⟨0, by omega, rfl, by simpa using hr0⟩ ?_
  rintro ⟨t, c⟩ ⟨i, hi, e, hr⟩ X hX
  simp only at e hr
  subst e
  unfold VC32_l1
  refine ⟨fun hlt => ?_, fun hge => ?_⟩
  · simp only [decide_eq_true_eq] at hlt
    have hil : i < w.length := by omega
    refine ⟨⟨by omega, by omega⟩, ?_⟩
    simp only [Int.toNat_natCast]
    refine VC64_of b a5 a2 (gw.2 _ (getD_mem hil)).1 hr fun r hr' => ⟨⟨by omega, by omega⟩, hX _ ⟨i + 1, by omega, by simp, ?_⟩ (by simp only; omega)⟩
    rw [List.take_succ_eq_append_getElem hil, ← getD_lt (0 : Int) hil]
    exact hr'
  · simp only [decide_eq_false_iff_not] at hge
    have : i = w.length := by omega
    subst this
    rw [List.take_length] at hr
    exact h g gw t hr

theorem NP.mono {n m : Net} (h : ∀ a ∈ n.2.2.1, a ∈ m.2.2.1) {p q : Nat} {w : List Int} (hp : NP n p w q) : NP m p w q := by
  induction hp with
  | nil p => exact .nil p
  | eps a ha hs hp h' ih => exact .eps a (h a ha) hs hp ih
  | sym a ha hs h0 hp h' ih => exact .sym a (h a ha) hs h0 hp ih

end Dec
