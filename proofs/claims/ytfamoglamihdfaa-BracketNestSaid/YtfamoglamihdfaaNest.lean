/-
  'BracketNest' in plain Lean: the pairs by a stack.
-/
import Derived.Test.YtfamoglamihdfaaGenPa
import Derived.Test.YtfamoglamihdfaaLib
set_option linter.unusedSimpArgs false
set_option linter.unusedVariables false
namespace Dec
open Go Go.Proofs

/-- the height behind so many parentheses -/
def Ht (l : List Bool) : Nat → Int
  | 0 => 0
  | i + 1 => Ht l i + (if l.getD i false then 1 else -1)

def Bal (l : List Bool) : Prop := (∀ i, i ≤ l.length → 0 ≤ Ht l i) ∧ Ht l l.length = 0

theorem Ht_le (l : List Bool) : ∀ i : Nat, -(i : Int) ≤ Ht l i ∧ Ht l i ≤ (i : Int)
  | 0 => by simp [Ht]
  | i + 1 => by
    have := Ht_le l i
    unfold Ht
    split <;> omega

theorem VC42_of {l : List Bool} (hl : l.length ≤ 60) {K : Bool → Prop} (h : ∀ b : Bool, (b = true ↔ Bal l) → K b) : VC42 l K := by
  unfold VC42
  refine Loop.by (fun s : Int × Int => ∃ i : Nat, s.2 = (i : Int) ∧ i ≤ l.length ∧ s.1 = Ht l i ∧ ∀ j, j ≤ i → 0 ≤ Ht l j) (fun s => ((l.length : Int) - s.2).toNat) ⟨0, rfl, by omega, rfl, fun j hj => ?_⟩ ?_
  · have : j = 0 := by omega
    subst this
    simp [Ht]
  rintro ⟨n, i'⟩ ⟨i, e, hi, en, hp⟩ X hX
  dsimp only at e en
  subst e en
  have hh := Ht_le l i
  unfold VC42_l1 VC43
  dsimp only
  refine ⟨fun hb => ?_, fun hb => ?_⟩
  · simp only [decide_eq_true_eq] at hb
    simp only [Int.toNat_natCast]
    have step : ∀ d : Int, d = (if l.getD i false then 1 else -1) → (InR (Ht l i + d) ∧ (((decide ((Ht l i + d) < (0 : Int))) = true → K false) ∧ ((decide ((Ht l i + d) < (0 : Int))) = false → (InR ((i : Int) + (1 : Int)) ∧ X ((Ht l i + d), ((i : Int) + (1 : Int))))))) := by
      intro d hd
      have e1 : Ht l (i + 1) = Ht l i + d := by rw [hd]; rfl
      have e2 : -1 ≤ d ∧ d ≤ 1 := by rw [hd]; split <;> omega
      refine ⟨⟨by omega, by omega⟩, fun hc => ?_, fun hc => ⟨⟨by omega, by omega⟩, hX _ ⟨i + 1, by simp, by omega, e1.symm, fun j hj => ?_⟩ (by dsimp only; omega)⟩⟩
      · simp only [decide_eq_true_eq] at hc
        refine h false ⟨fun e => (by cases e), fun hB => ?_⟩
        have := hB.1 (i + 1) (by omega)
        omega
      · simp only [decide_eq_false_iff_not] at hc
        by_cases ej : j ≤ i
        · exact hp j ej
        · have : j = i + 1 := by omega
          subst this
          omega
    refine ⟨⟨by omega, by omega⟩, fun ht => step 1 (by rw [ht]; rfl), fun hf => step (-1) (by rw [hf]; rfl)⟩
  · simp only [decide_eq_false_iff_not] at hb
    have : i = l.length := by omega
    subst this
    unfold VC42_k1
    refine h _ ?_
    rw [decide_eq_true_eq]
    exact ⟨fun e => ⟨fun j hj => hp j hj, e⟩, fun hB => hB.2⟩

structure PInv (l : List Bool) (v : Nat) (out stack : List Int) : Prop where
  len : out.length = l.length
  slen : (stack.length : Int) = Ht l v
  inc : ∀ a b, a < b → b < stack.length → stack.getD a 0 < stack.getD b 0
  sok : ∀ x ∈ stack, 0 ≤ x ∧ x < (v : Int) ∧ l.getD x.toNat false = true
  mat : ∀ i : Nat, i < v → (i : Int) ∉ stack → (0 ≤ out.getD i 0 ∧ out.getD i 0 < (v : Int)) ∧ out.getD i 0 ∉ stack ∧ out.getD (out.getD i 0).toNat 0 = (i : Int) ∧ out.getD i 0 ≠ (i : Int) ∧ (l.getD i false = true ↔ (i : Int) < out.getD i 0)
  n1 : ∀ i : Nat, i < v → (i : Int) ∉ stack → ∀ j ∈ stack, (i : Int) < j → out.getD i 0 < j
  n2 : ∀ i j : Nat, i < j → j < v → (i : Int) ∉ stack → (j : Int) ∉ stack → l.getD i false = true → l.getD j false = true → out.getD i 0 < (j : Int) ∨ out.getD j 0 < out.getD i 0

theorem getD_setI {l : List Int} {i j : Nat} {x : Int} (h : i < l.length) : (l.set i x).getD j 0 = if i = j then x else l.getD j 0 := by
  simp only [List.getD, List.getElem?_set]
  by_cases e : i = j
  · rw [if_pos e, if_pos e, if_pos h]; rfl
  · rw [if_neg e, if_neg e]

theorem pinv_open {l : List Bool} {v : Nat} {out stack : List Int} (h : PInv l v out stack) (ho : l.getD v false = true) : PInv l (v + 1) out (stack ++ [(v : Int)]) := by
  have notin : ∀ {x : Int}, x ∉ stack ++ [(v : Int)] → x ∉ stack ∧ x ≠ (v : Int) := by
    intro x hx
    exact ⟨fun h => hx (List.mem_append_left _ h), fun h => hx (by rw [h]; simp)⟩
  refine ⟨h.len, ?_, fun a b hab hb => ?_, fun x hx => ?_, fun i hi hn => ?_, fun i hi hn j hj hij => ?_, fun i j hij hj hni hnj hli hlj => ?_⟩
  · have := h.slen
    unfold Ht
    rw [ho, List.length_append, List.length_singleton]
    simp
    omega
  · rw [List.length_append, List.length_singleton] at hb
    by_cases e : b < stack.length
    · have := h.inc a b hab e
      simp only [List.getD, List.getElem?_append_left (show a < stack.length by omega), List.getElem?_append_left e] at this ⊢
      exact this
    · have e2 : b = stack.length := by omega
      subst e2
      have hm : stack.getD a 0 ∈ stack := getD_mem (by omega)
      have := (h.sok _ hm).2.1
      simp only [List.getD, List.getElem?_append_left (show a < stack.length by omega), List.getElem?_append_right (Nat.le_refl _), Nat.sub_self] at this ⊢
      exact this
  · rcases List.mem_append.1 hx with hx | hx
    · have := h.sok x hx
      exact ⟨this.1, by omega, this.2.2⟩
    · rw [List.mem_singleton.1 hx]
      exact ⟨by omega, by omega, by rw [Int.toNat_natCast]; exact ho⟩
  · obtain ⟨h1, h2⟩ := notin hn
    have hiv : i < v := by omega
    obtain ⟨m1, m2, m3, m4, m5⟩ := h.mat i hiv h1
    refine ⟨⟨m1.1, by omega⟩, fun hx => ?_, m3, m4, m5⟩
    rcases List.mem_append.1 hx with hx | hx
    · exact m2 hx
    · have := List.mem_singleton.1 hx
      omega
  · obtain ⟨h1, h2⟩ := notin hn
    have hiv : i < v := by omega
    rcases List.mem_append.1 hj with hj | hj
    · exact h.n1 i hiv h1 j hj hij
    · rw [List.mem_singleton.1 hj]
      exact (h.mat i hiv h1).1.2
  · obtain ⟨h1, h2⟩ := notin hni
    obtain ⟨h3, h4⟩ := notin hnj
    exact h.n2 i j hij (by omega) h1 h3 hli hlj

theorem pinv_close {l : List Bool} {v : Nat} {out stack : List Int} (h : PInv l v out stack) (hv : v < l.length) (hc : l.getD v false = false) (hs : 1 ≤ stack.length) : PInv l (v + 1) ((out.set v (stack.getD (stack.length - 1) 0)).set (stack.getD (stack.length - 1) 0).toNat (v : Int)) (stack.take (stack.length - 1)) := by
  have hkm : stack.getD (stack.length - 1) 0 ∈ stack := getD_mem (by omega)
  have htop : ∀ x, x ∈ stack.take (stack.length - 1) → x ∈ stack ∧ x < stack.getD (stack.length - 1) 0 := by
    intro x hx
    refine ⟨List.mem_of_mem_take hx, ?_⟩
    obtain ⟨a, ha, e⟩ := List.mem_iff_getElem.1 hx
    rw [List.length_take] at ha
    have := h.inc a (stack.length - 1) (by omega) (by omega)
    rw [List.getElem_take] at e
    rw [getD_lt _ (show a < stack.length by omega), e] at this
    exact this
  have hsplit : ∀ x, x ∈ stack → x = stack.getD (stack.length - 1) 0 ∨ x ∈ stack.take (stack.length - 1) := by
    intro x hx
    obtain ⟨a, ha, e⟩ := List.mem_iff_getElem.1 hx
    by_cases e1 : a = stack.length - 1
    · left
      rw [getD_lt _ (by omega), ← e]
      congr 1
    · right
      refine List.mem_iff_getElem.2 ⟨a, by rw [List.length_take]; omega, ?_⟩
      rw [List.getElem_take]; exact e
  generalize hk : stack.getD (stack.length - 1) 0 = k at *
  have hks := h.sok k hkm
  have hol := h.len
  obtain ⟨kn, hkn⟩ : ∃ n : Nat, k = (n : Int) := ⟨k.toNat, by omega⟩
  have hkv : kn < v := by omega
  have hk2 : k.toNat = kn := by omega
  rw [hk2] at hks ⊢
  have hg : ∀ i, ((out.set v k).set kn (v : Int)).getD i 0 = if kn = i then (v : Int) else if v = i then k else out.getD i 0 := by
    intro i
    rw [getD_setI (by rw [List.length_set]; omega), getD_setI (by omega)]
  have notin : ∀ {i : Nat}, i < v → i ≠ kn → (i : Int) ∉ stack.take (stack.length - 1) → (i : Int) ∉ stack := by
    intro i hi hne hn hx
    rcases hsplit _ hx with e | e
    · omega
    · exact hn e
  refine ⟨by rw [List.length_set, List.length_set]; exact hol, ?_, fun a b hab hb => ?_, fun x hx => ?_, fun i hi hn => ?_, fun i hi hn j hj hij => ?_, fun i j hij hj hni hnj hli hlj => ?_⟩
  · have := h.slen
    unfold Ht
    rw [hc, List.length_take]
    simp
    omega
  · rw [List.length_take] at hb
    have := h.inc a b hab (by omega)
    simp only [List.getD, List.getElem?_take] at this ⊢
    rw [if_pos (by omega), if_pos (by omega)]
    exact this
  · have := h.sok x (htop x hx).1
    exact ⟨this.1, by omega, this.2.2⟩
  · rw [hg i]
    by_cases e1 : kn = i
    · subst e1
      rw [if_pos rfl]
      refine ⟨⟨by omega, by omega⟩, fun hx => ?_, ?_, by omega, ?_⟩
      · have := (h.sok _ (htop _ hx).1).2.1
        omega
      · rw [Int.toNat_natCast, hg v, if_neg (by omega), if_pos rfl, hkn]
      · constructor
        · intro _; omega
        · intro _; exact hks.2.2
    · rw [if_neg e1]
      by_cases e2 : v = i
      · subst e2
        rw [if_pos rfl]
        refine ⟨⟨by omega, by omega⟩, fun hx => ?_, ?_, by omega, ?_⟩
        · have := (htop _ hx).2
          omega
        · rw [hk2, hg kn, if_pos rfl]
        · rw [hc]
          constructor
          · intro e; cases e
          · intro e; omega
      · rw [if_neg e2]
        have hiv : i < v := by omega
        have hns := notin hiv (fun e => e1 e.symm) hn
        obtain ⟨m1, m2, m3, m4, m5⟩ := h.mat i hiv hns
        refine ⟨⟨m1.1, by omega⟩, fun hx => m2 (htop _ hx).1, ?_, m4, m5⟩
        have hne1 : kn ≠ (out.getD i 0).toNat := by
          intro e
          have : out.getD i 0 = k := by omega
          exact m2 (by rw [this]; exact hkm)
        rw [hg, if_neg hne1, if_neg (by omega)]
        exact m3
  · rw [hg i]
    have hjk := htop j hj
    have hjv := (h.sok j hjk.1).2.1
    by_cases e1 : kn = i
    · omega
    · rw [if_neg e1, if_neg (by omega)]
      have hiv : i < v := by omega
      exact h.n1 i hiv (notin hiv (fun e => e1 e.symm) hn) j hjk.1 hij
  · have hjv : j ≠ v := fun e => by subst e; rw [hc] at hlj; cases hlj
    have hjv' : j < v := by omega
    by_cases e1 : kn = j
    · have gi : ((out.set v k).set kn (v : Int)).getD i 0 = out.getD i 0 := by rw [hg i, if_neg (by omega), if_neg (by omega)]
      left
      rw [gi]
      have hns := notin (i := i) (by omega) (by omega) hni
      have := h.n1 i (by omega) hns k hkm (by omega)
      omega
    · have gj : ((out.set v k).set kn (v : Int)).getD j 0 = out.getD j 0 := by rw [hg j, if_neg e1, if_neg (by omega)]
      have hnsj := notin hjv' (fun e => e1 e.symm) hnj
      by_cases e2 : kn = i
      · have gi : ((out.set v k).set kn (v : Int)).getD i 0 = (v : Int) := by rw [hg i, if_pos e2]
        right
        rw [gi, gj]
        exact (h.mat j hjv' hnsj).1.2
      · have gi : ((out.set v k).set kn (v : Int)).getD i 0 = out.getD i 0 := by rw [hg i, if_neg e2, if_neg (by omega)]
        rw [gi, gj]
        exact h.n2 i j hij hjv' (notin (by omega) (fun e => e2 e.symm) hni) hnsj hli hlj

/-- what Pairs returns -/
structure PairsOk (l : List Bool) (p : List Int) : Prop where
  len : p.length = l.length
  mat : ∀ i : Nat, i < l.length → (0 ≤ p.getD i 0 ∧ p.getD i 0 < (l.length : Int)) ∧ p.getD (p.getD i 0).toNat 0 = (i : Int) ∧ p.getD i 0 ≠ (i : Int) ∧ (l.getD i false = true ↔ (i : Int) < p.getD i 0)
  nest : ∀ i j : Nat, i < j → j < l.length → l.getD i false = true → l.getD j false = true → p.getD i 0 < (j : Int) ∨ p.getD j 0 < p.getD i 0

theorem VC17_of {l : List Bool} {K : List Int × Int → Prop} (hbad : ∀ e, e ≠ 0 → ¬ (l.length ≤ 60 ∧ Bal l) → K ([], e)) (h : l.length ≤ 60 → Bal l → ∀ p, PairsOk l p → K (p, 0)) : VC17 l K := by
  unfold VC17
  refine ⟨fun hc => hbad 1 (by decide) fun hh => ?_, fun hc => ?_⟩
  · simp only [decide_eq_true_eq] at hc; omega
  simp only [decide_eq_false_iff_not] at hc
  have hl : l.length ≤ 60 := by omega
  refine VC42_of hl fun b hb => ⟨fun hf => hbad 3 (by decide) fun hh => ?_, fun ht => ⟨⟨by omega, by omega⟩, ?_⟩⟩
  · rw [hb.2 hh.2] at hf; simp at hf
  have hB : Bal l := hb.1 (by simpa using ht)
  rw [Int.toNat_natCast]
  refine Loop.by (fun s : Int × List Int × List Int => ∃ v : Nat, s.1 = (v : Int) ∧ v ≤ l.length ∧ PInv l v s.2.1 s.2.2) (fun s => ((l.length : Int) - s.1).toNat) ⟨0, rfl, by omega, ⟨by simp, by simp [Ht], by simp, by simp, by intro i hi; omega, by intro i hi; omega, by intro i j _ hj; omega⟩⟩ ?_
  rintro ⟨v', out, stack⟩ ⟨v, e, hv, hI⟩ X hX
  dsimp only at e hI
  subst e
  unfold VC17_l1 VC17_k2 VC17_k1
  dsimp only
  have hsl := hI.slen
  have hht := Ht_le l v
  have hol := hI.len
  refine ⟨fun hb2 => ?_, fun hb2 => ?_⟩
  · simp only [decide_eq_true_eq] at hb2
    have hvl : v < l.length := by omega
    simp only [Int.toNat_natCast]
    refine ⟨⟨by omega, by omega⟩, fun ho => ⟨by simp only [roomN, List.length_singleton]; omega, ⟨by omega, by omega⟩, hX _ ⟨v + 1, by simp, by omega, pinv_open hI ho⟩ (by dsimp only; omega)⟩, fun hcl => ?_⟩
    have hpos : 1 ≤ stack.length := by
      have h1 := hB.1 (v + 1) (by omega)
      unfold Ht at h1
      rw [hcl] at h1
      simp at h1
      omega
    have e1 : ((stack.length : Int) - (1 : Int)).toNat = stack.length - 1 := by omega
    rw [e1]
    have hkm : stack.getD (stack.length - 1) 0 ∈ stack := getD_mem (by omega)
    have hks := hI.sok _ hkm
    refine ⟨⟨by omega, by omega⟩, ⟨by omega, by omega⟩, ⟨by omega, by omega⟩, ⟨by omega, by omega⟩, ⟨by omega, by omega⟩, ⟨by omega, by rw [List.length_set]; omega⟩, ⟨by omega, by omega⟩, hX _ ⟨v + 1, by simp, by omega, pinv_close hI hvl hcl hpos⟩ (by dsimp only; omega)⟩
  · simp only [decide_eq_false_iff_not] at hb2
    have : v = l.length := by omega
    subst this
    have h0 : stack = [] := by
      have := hB.2
      exact List.length_eq_zero_iff.1 (by omega)
    subst h0
    refine h hl hB out ⟨hol, fun i hi => ?_, fun i j hij hj => ?_⟩
    · obtain ⟨m1, _, m3, m4, m5⟩ := hI.mat i hi (by simp)
      exact ⟨m1, m3, m4, m5⟩
    · exact hI.n2 i j hij hj (by simp) (by simp)

theorem VC18_of {l : List Bool} {K : Bool × Int → Prop} (h1 : 60 < l.length → K (false, 1)) (h : l.length ≤ 60 → ∀ b : Bool, (b = true ↔ Bal l) → K (b, 0)) : VC18 l K := by
  unfold VC18
  refine ⟨fun hc => h1 ?_, fun hc => ?_⟩
  · simp only [decide_eq_true_eq] at hc; omega
  · simp only [decide_eq_false_iff_not] at hc
    exact VC42_of (by omega) (h (by omega))

theorem VC19_of {n : Int} {l : List Int} (hl : l.length ≤ 1000) (hin : ∀ x ∈ l, 0 ≤ x ∧ x < n) {K : Bool → Prop} (h : K true) : VC19 n l K := by
  unfold VC19
  refine loop_count l.length (fun _ => True) trivial ?_
  intro i hi _ X hX
  unfold VC19_l1 VC19_k1
  refine ⟨fun hb => ?_, fun _ => h⟩
  simp only [decide_eq_true_eq] at hb
  simp only [Int.toNat_natCast]
  have := hin _ (getD_mem (d := (0 : Int)) (show i < l.length by omega))
  refine ⟨⟨by omega, by omega⟩, fun hc => ?_, fun _ => ⟨⟨by omega, by omega⟩, hX (by omega) trivial⟩⟩
  simp only [Bool.or_eq_true, decide_eq_true_eq] at hc
  omega

theorem bracketNest (l : List Bool) (a b : Int) (ha : 0 ≤ a) (hb : 0 ≤ b) : VC5 l a b (fun b => b = true) := by
  unfold VC5
  by_cases hl : l.length ≤ 60
  · by_cases hB : Bal l
    · refine VC17_of (fun e he hno => absurd ⟨hl, hB⟩ hno) fun _ _ p hp => VC18_of (fun h => absurd hl (by omega)) fun _ is his => ?_
      have his := his.2 hB
      subst his
      refine ⟨fun hc => by simp only [decide_eq_true_eq] at hc; omega, fun _ => ⟨fun hc => by simp at hc, fun _ => ⟨fun hc => ?_, fun hc => ?_⟩⟩⟩
      · have h0 : l.length = 0 := by simpa using hc
        have := hp.len
        dsimp only; rw [decide_eq_true (by omega)]
      · have h0 : ¬ l.length = 0 := by simpa using hc
        refine ⟨⟨ha, by omega⟩, ⟨hb, by omega⟩, ?_⟩
        have i0 := Int.emod_nonneg a (show (l.length : Int) ≠ 0 by omega)
        have i1 := Int.emod_lt_of_pos a (show (0 : Int) < (l.length : Int) by omega)
        have j0 := Int.emod_nonneg b (show (l.length : Int) ≠ 0 by omega)
        have j1 := Int.emod_lt_of_pos b (show (0 : Int) < (l.length : Int) by omega)
        obtain ⟨i, hi⟩ : ∃ n : Nat, a % (l.length : Int) = (n : Int) := ⟨(a % (l.length : Int)).toNat, by omega⟩
        obtain ⟨j, hj⟩ : ∃ n : Nat, b % (l.length : Int) = (n : Int) := ⟨(b % (l.length : Int)).toNat, by omega⟩
        rw [hi, hj]
        rw [hi] at i1
        rw [hj] at j1
        have hpl := hp.len
        obtain ⟨m1, m2, m3, m4⟩ := hp.mat i (by omega)
        obtain ⟨q1, q2, q3, q4⟩ := hp.mat j (by omega)
        have dl : decide ((p.length : Int) = (l.length : Int)) = true := decide_eq_true (by omega)
        simp only [dl, Bool.not_true, Bool.not_false, Int.toNat_natCast, m2]
        unfold gcall
        rw [if_pos rfl]
        refine VC19_of (by omega) (fun x hx => ?_) ?_
        · obtain ⟨c, hc2, e⟩ := List.mem_iff_getElem.1 hx
          have := (hp.mat c (by omega)).1
          rw [getD_lt _ hc2, e] at this
          exact this
        have dm : decide (p.getD i 0 = (i : Int)) = false := decide_eq_false m3
        have dlt : (l.getD i false != decide ((i : Int) < p.getD i 0)) = false := by
          have : l.getD i false = decide ((i : Int) < p.getD i 0) := by
            rw [Bool.eq_iff_iff, m4, decide_eq_true_eq]
          rw [this]; simp
        simp only [dm, dlt, decide_true, Bool.not_true, Bool.or_self, Bool.false_or, Bool.or_false]
        refine ⟨fun _ => ⟨by omega, by omega⟩, fun _ => ⟨by omega, by omega⟩, fun _ => ⟨by omega, by omega⟩, fun _ => ⟨by omega, by omega⟩, fun _ => ⟨by omega, by omega⟩, fun e => by simp at e, fun _ => ⟨⟨by omega, by omega⟩, fun _ => ⟨by omega, by omega⟩, fun _ => trivial, fun hd => ⟨⟨by omega, by omega⟩, fun _ => ⟨by omega, by omega⟩, fun _ => ⟨by omega, by omega⟩, ?_⟩⟩⟩
        simp only [Bool.or_eq_false_iff, Bool.not_eq_false', decide_eq_false_iff_not] at hd
        have := hp.nest i j (by omega) (by omega) hd.1.1 hd.1.2
        rw [Bool.or_eq_true, decide_eq_true_eq, decide_eq_true_eq]
        exact this
    · refine VC17_of (fun e he _ => ?_) (fun _ h => absurd h hB)
      refine VC18_of (fun h => absurd hl (by omega)) fun _ is his => ?_
      have : is = false := by
        cases is with
        | false => rfl
        | true => exact absurd (his.1 rfl) hB
      subst this
      have de : decide (e = 0) = false := decide_eq_false he
      simp only [de]
      refine ⟨fun hc => by simp only [decide_eq_true_eq] at hc; omega, fun _ => ⟨fun hc => by simp at hc, fun _ => ⟨fun _ => by simp, fun hc => by simp at hc⟩⟩⟩
  · refine VC17_of (fun e he _ => ?_) (fun h => absurd h hl)
    refine VC18_of (fun _ => ?_) fun h => absurd h hl
    refine ⟨fun _ => by simp [he], fun hc => ?_⟩
    simp only [decide_eq_false_iff_not] at hc
    omega

theorem bracketNest_ok (l : List Bool) (a b : Int) (ha : Ok (.int .u8) a) (hb : Ok (.int .u8) b) : VC5 l a b (fun b => b = true) := by
  have h1 : IntKind.u8.min ≤ a ∧ a ≤ IntKind.u8.max := ha
  have h2 : IntKind.u8.min ≤ b ∧ b ≤ IntKind.u8.max := hb
  simp [IntKind.min, IntKind.max, IntKind.signed, IntKind.bits] at h1 h2
  exact bracketNest l a b (by omega) (by omega)
end Dec
