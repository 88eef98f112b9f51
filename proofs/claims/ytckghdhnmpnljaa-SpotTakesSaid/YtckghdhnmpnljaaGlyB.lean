/-
  Sets of positions: five words of 64 bits.
-/
import Derived.Test.YtckghdhnmpnljaaGenGd
import Derived.Test.YtckghdhnmpnljaaBits
import Derived.Test.YtckghdhnmpnljaaGlyA
set_option linter.unusedSimpArgs false
set_option linter.unusedVariables false
namespace Dec
open Go Go.Proofs

def U64 (s : Int) : Prop := 0 ≤ s ∧ s < 18446744073709551616

theorem u64_nat {s : Int} (h : U64 s) : ∃ n : Nat, n < 18446744073709551616 ∧ s = (n : Int) := ⟨s.toNat, by have := h.1; have := h.2; omega, by have := h.1; omega⟩

theorem ofInt_nat64 {n : Nat} (h : n < 18446744073709551616) : (BitVec.ofInt 64 (n : Int)).toNat = n := by
  simp [BitVec.toNat_ofInt]; omega

theorem wrap_nat64 {n : Nat} (h : n < 18446744073709551616) : IntKind.wrap .u64 (n : Int) = (n : Int) := wrapU64 ⟨by omega, by omega⟩

theorem bAnd_nat64 {m n : Nat} (hm : m < 18446744073709551616) (hn : n < 18446744073709551616) : bAnd .u64 (m : Int) (n : Int) = ((m &&& n : Nat) : Int) := by
  unfold bAnd
  have : (BitVec.ofInt 64 (m : Int) &&& BitVec.ofInt 64 (n : Int)).toNat = m &&& n := by rw [BitVec.toNat_and, ofInt_nat64 hm, ofInt_nat64 hn]
  show IntKind.wrap .u64 ((BitVec.ofInt 64 (m : Int) &&& BitVec.ofInt 64 (n : Int)).toNat : Int) = _
  rw [this, wrap_nat64 (by have := Nat.and_le_left (n := m) (m := n); omega)]

theorem bOr_nat64 {m n : Nat} (hm : m < 18446744073709551616) (hn : n < 18446744073709551616) : bOr .u64 (m : Int) (n : Int) = ((m ||| n : Nat) : Int) ∧ (m ||| n) < 18446744073709551616 := by
  have hlt : (m ||| n) < 18446744073709551616 := Nat.or_lt_two_pow (n := 64) hm hn
  refine ⟨?_, hlt⟩
  unfold bOr
  have : (BitVec.ofInt 64 (m : Int) ||| BitVec.ofInt 64 (n : Int)).toNat = m ||| n := by rw [BitVec.toNat_or, ofInt_nat64 hm, ofInt_nat64 hn]
  show IntKind.wrap .u64 ((BitVec.ofInt 64 (m : Int) ||| BitVec.ofInt 64 (n : Int)).toNat : Int) = _
  rw [this, wrap_nat64 hlt]

theorem bt_or64 {s t : Int} (hs : U64 s) (ht : U64 t) (i : Nat) : bt (bOr .u64 s t) i = (bt s i || bt t i) := by
  obtain ⟨m, hm, rfl⟩ := u64_nat hs
  obtain ⟨n, hn, rfl⟩ := u64_nat ht
  rw [(bOr_nat64 hm hn).1]
  simp [bt, Nat.testBit_or]

theorem u64_or {s t : Int} (hs : U64 s) (ht : U64 t) : U64 (bOr .u64 s t) := by
  obtain ⟨m, hm, rfl⟩ := u64_nat hs
  obtain ⟨n, hn, rfl⟩ := u64_nat ht
  rw [(bOr_nat64 hm hn).1]
  have := (bOr_nat64 hm hn).2
  exact ⟨by omega, by omega⟩

theorem shl164 {n : Nat} (h : n < 64) : bShl .u64 1 (n : Int) = ((2 ^ n : Nat) : Int) := by
  unfold bShl
  have hp : (2 : Nat) ^ n < 18446744073709551616 := by
    have : (2 : Nat) ^ n < 2 ^ 64 := Nat.pow_lt_pow_right (by decide) h
    simpa using this
  have hm : min (n : Int).toNat IntKind.u64.bits = n := by simp [IntKind.bits]; omega
  rw [hm, Int.one_mul]
  have : (2 : Int) ^ n = ((2 ^ n : Nat) : Int) := by simp
  rw [this, wrap_nat64 hp]

theorem u64_shl1 (n : Int) : U64 (bShl .u64 1 n) := by
  unfold bShl U64
  have := @IntKind.wrap .u64 (1 * 2 ^ min n.toNat IntKind.u64.bits)
  simp only [IntKind.wrap, IntKind.signed, IntKind.bits]
  simp
  omega

theorem bt_shl164 {n : Nat} (h : n < 64) (i : Nat) : bt (bShl .u64 1 (n : Int)) i = decide (n = i) := by
  rw [shl164 h]
  simp only [bt, Int.toNat_natCast]
  rw [Nat.testBit_two_pow]

theorem shr_nat64 {m : Nat} (n : Nat) (hm : m < 18446744073709551616) : bShr .u64 (m : Int) (n : Int) = ((m / 2 ^ n : Nat) : Int) := by
  unfold bShr
  simp only [IntKind.bits, Int.toNat_natCast]
  have e : (2 : Int) ^ (min n 64) = ((2 ^ (min n 64) : Nat) : Int) := by simp
  rw [e, Int.fdiv_eq_ediv_of_nonneg _ (Int.natCast_nonneg _), ← Int.natCast_ediv]
  congr 1
  by_cases h : n ≤ 64
  · rw [Nat.min_eq_left h]
  · rw [Nat.min_eq_right (by omega)]
    rw [Nat.div_eq_of_lt (by simpa using hm), Nat.div_eq_of_lt]
    exact Nat.lt_of_lt_of_le hm (Nat.pow_le_pow_right (n := 2) (by decide) (show 64 ≤ n by omega))

theorem has_bt64 {s n : Int} (hs : U64 s) (hn : 0 ≤ n) : (decide ((bAnd .u64 (bShr .u64 s n) (1 : Int)) = (1 : Int))) = bt s n.toNat := by
  obtain ⟨m, hm, rfl⟩ := u64_nat hs
  obtain ⟨k, rfl⟩ : ∃ k : Nat, n = (k : Int) := ⟨n.toNat, by omega⟩
  rw [shr_nat64 k hm]
  have h1 := bAnd_nat64 (m := m / 2 ^ k) (n := 1) (Nat.lt_of_le_of_lt (Nat.div_le_self _ _) hm) (by decide)
  rw [show ((1 : Nat) : Int) = 1 from rfl] at h1
  rw [h1]
  simp only [bt, Int.toNat_natCast, Nat.testBit_eq_decide_div_mod_eq, Nat.and_one_is_mod]
  congr 1
  rw [eq_iff_iff]
  omega

theorem u64_zero : U64 0 := ⟨by omega, by omega⟩

/-- a set of positions -/
structure SetOk (s : List Int) : Prop where
  len : s.length = 5
  word : ∀ i, U64 (s.getD i 0)

def mem (s : List Int) (p : Nat) : Bool := bt (s.getD (p / 64) 0) (p % 64)

theorem five {s : List Int} (h : s.length = 5) : [s.getD 0 0, s.getD 1 0, s.getD 2 0, s.getD 3 0, s.getD 4 0] = s := by
  match s, h with
  | [a, b, c, d, e], _ => rfl

def emptyS : List Int := [0, 0, 0, 0, 0]
theorem empty_ok : SetOk emptyS := ⟨rfl, fun i => by
  unfold emptyS
  match i with
  | 0 | 1 | 2 | 3 | 4 => exact u64_zero
  | _ + 5 => exact u64_zero⟩
theorem mem_empty (p : Nat) : mem emptyS p = false := by
  unfold mem emptyS
  have : ∀ i, ([0, 0, 0, 0, 0] : List Int).getD i 0 = 0 := fun i => by
    match i with
    | 0 | 1 | 2 | 3 | 4 => rfl
    | _ + 5 => rfl
  rw [this, bt_zero]

theorem VC61_of {s : List Int} {p : Nat} (hs : SetOk s) (hp : p < 320) {K : Bool → Prop} (h : K (mem s p)) : VC61 s (p : Int) K := by
  unfold VC61
  rw [five hs.len]
  have e1 : ((p : Int) / 64).toNat = p / 64 := by omega
  have e2 : ((p : Int) % 64) = ((p % 64 : Nat) : Int) := by omega
  rw [e1, e2]
  have hw := hs.word (p / 64)
  refine ⟨⟨by omega, by omega⟩, ⟨by omega, by omega⟩, ⟨by omega, by omega⟩, ⟨hw.1, by omega⟩, ?_⟩
  rw [has_bt64 hw (by omega)]
  exact h

theorem getD_setI {s : List Int} {i j : Nat} {x : Int} (hi : i < s.length) : (s.set i x).getD j 0 = if i = j then x else s.getD j 0 := by
  simp only [List.getD_eq_getElem?_getD, List.getElem?_set]
  by_cases h : i = j
  · subst h; simp [hi]
  · simp [h]

theorem VC88_of {s : List Int} {p : Nat} (hs : SetOk s) (hp : p < 320) {K : List Int → Prop} (h : ∀ r, SetOk r → (∀ q, mem r q = (mem s q || decide (p = q))) → K r) : VC88 s (p : Int) K := by
  unfold VC88
  rw [five hs.len]
  have e1 : ((p : Int) / 64).toNat = p / 64 := by omega
  have e2 : ((p : Int) % 64) = ((p % 64 : Nat) : Int) := by omega
  rw [e1, e2]
  have hw := hs.word (p / 64)
  have hl := hs.len
  have hor := u64_or hw (u64_shl1 ((p % 64 : Nat) : Int))
  refine ⟨⟨by omega, by omega⟩, ⟨by omega, by omega⟩, ⟨by omega, by omega⟩, by omega, ⟨by omega, by omega⟩, ?_⟩
  have h5 : (s.set (p / 64) (bOr .u64 (s.getD (p / 64) 0) (bShl .u64 1 ((p % 64 : Nat) : Int)))).length = 5 := by rw [List.length_set]; exact hl
  rw [five h5, five h5]
  refine h _ ⟨by rw [List.length_set]; exact hl, fun i => ?_⟩ fun q => ?_
  · rw [getD_setI (by omega)]
    split
    · exact hor
    · exact hs.word i
  · unfold mem
    rw [getD_setI (by omega)]
    by_cases hq : p / 64 = q / 64
    · rw [if_pos hq, bt_or64 hw (u64_shl1 _), bt_shl164 (by omega), hq]
      congr 1
      by_cases hpq : p = q
      · simp [hpq]
      · have : ¬ p % 64 = q % 64 := by omega
        simp [hpq, this]
    · rw [if_neg hq]
      have : ¬ p = q := by omega
      simp [this]

theorem VC102_of {s t : List Int} (hs : SetOk s) (ht : SetOk t) {K : List Int → Prop} (h : ∀ r, SetOk r → (∀ q, mem r q = (mem s q || mem t q)) → K r) : VC102 s t K := by
  unfold VC102
  rw [five hs.len]
  refine Loop.by (fun x => ∃ i : Nat, x.1 = (i : Int) ∧ i ≤ 5 ∧ SetOk x.2 ∧ ∀ j, x.2.getD j 0 = if j < i then bOr .u64 (s.getD j 0) (t.getD j 0) else s.getD j 0) (fun x => (5 - x.1).toNat) ⟨0, rfl, by omega, hs, fun j => by simp⟩ ?_
  rintro ⟨v, r⟩ ⟨i, rfl, hi, hr, hj⟩ X hX
  simp only at hr hj ⊢
  have hl := hr.len
  unfold VC102_l1
  rw [five ht.len]
  simp only [Int.toNat_natCast]
  refine ⟨fun hb => ?_, fun hb => ?_⟩
  · simp only [decide_eq_true_eq] at hb
    refine ⟨⟨by omega, by omega⟩, ⟨by omega, by omega⟩, ⟨by omega, by omega⟩, ⟨by omega, by omega⟩, hX _ ⟨i + 1, by simp, by omega, ⟨by simp only [List.length_set]; exact hl, fun j => ?_⟩, fun j => ?_⟩ (by simp only; omega)⟩
    · simp only
      rw [getD_setI (by omega)]
      split
      · exact u64_or (hr.word i) (ht.word i)
      · exact hr.word j
    · simp only
      rw [getD_setI (by omega), hj i, hj j, if_neg (Nat.lt_irrefl i)]
      by_cases hij : i = j
      · subst hij
        rw [if_pos rfl, if_pos (by omega)]
      · rw [if_neg hij]
        by_cases hji : j < i
        · rw [if_pos hji, if_pos (by omega)]
        · rw [if_neg hji, if_neg (by omega)]
  · simp only [decide_eq_false_iff_not] at hb
    have hi5 : i = 5 := by omega
    subst hi5
    unfold VC102_k1
    rw [five hl, five hl]
    refine h r hr fun q => ?_
    unfold mem
    rw [hj]
    by_cases hq : q / 64 < 5
    · rw [if_pos hq, bt_or64 (hs.word _) (ht.word _)]
    · rw [if_neg hq]
      have e1 : t.getD (q / 64) 0 = 0 := getD_ge 0 (by have := ht.len; omega)
      rw [e1, bt_zero, Bool.or_false]

end Dec
