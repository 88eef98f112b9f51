/-
Sets as words of 32 bits.
-/
import Derived.Test.YtljlpmfmfcljaaaLib
set_option linter.unusedSimpArgs false
set_option linter.unusedVariables false
namespace Dec
open Go
def U32 (s : Int) : Prop := 0 ≤ s ∧ s < 4294967296
def bt (s : Int) (i : Nat) : Bool := s.toNat.testBit i
theorem u32_of_ok {s : Int} (h : Ok (.int .u32) s) : U32 s := by
  have h1 : IntKind.u32.min ≤ s ∧ s ≤ IntKind.u32.max := h
  simp only [IntKind.min, IntKind.max, IntKind.signed, IntKind.bits] at h1
  unfold U32
  simp at h1
  omega
theorem u32_nat {s : Int} (h : U32 s) : ∃ n : Nat, n < 4294967296 ∧ s = (n : Int) := ⟨s.toNat, by have := h.1; have := h.2; omega, by have := h.1; omega⟩
theorem ofInt_nat {n : Nat} (h : n < 4294967296) : (BitVec.ofInt 32 (n : Int)).toNat = n := by
  simp [BitVec.toNat_ofInt]; omega
theorem wrap_nat {n : Nat} (h : n < 4294967296) : IntKind.wrap .u32 (n : Int) = (n : Int) := wrapU32 ⟨by omega, by omega⟩
theorem bAnd_nat {m n : Nat} (hm : m < 4294967296) (hn : n < 4294967296) : bAnd .u32 (m : Int) (n : Int) = ((m &&& n : Nat) : Int) := by
  unfold bAnd
  have : (BitVec.ofInt 32 (m : Int) &&& BitVec.ofInt 32 (n : Int)).toNat = m &&& n := by rw [BitVec.toNat_and, ofInt_nat hm, ofInt_nat hn]
  show IntKind.wrap .u32 ((BitVec.ofInt 32 (m : Int) &&& BitVec.ofInt 32 (n : Int)).toNat : Int) = _
  rw [this, wrap_nat (by have := Nat.and_le_left (n := m) (m := n); omega)]
theorem shl1 {n : Nat} (h : n < 32) : bShl .u32 1 (n : Int) = ((2 ^ n : Nat) : Int) := by
  unfold bShl
  have hp : (2 : Nat) ^ n < 4294967296 := by
    have : (2 : Nat) ^ n < 2 ^ 32 := Nat.pow_lt_pow_right (by decide) h
    simpa using this
  have hm : min (n : Int).toNat IntKind.u32.bits = n := by simp [IntKind.bits]; omega
  rw [hm, Int.one_mul]
  have : (2 : Int) ^ n = ((2 ^ n : Nat) : Int) := by simp
  rw [this, wrap_nat hp]
theorem shr_nat {m : Nat} (n : Nat) (hm : m < 4294967296) : bShr .u32 (m : Int) (n : Int) = ((m / 2 ^ n : Nat) : Int) := by
  unfold bShr
  simp only [IntKind.bits, Int.toNat_natCast]
  have e : (2 : Int) ^ (min n 32) = ((2 ^ (min n 32) : Nat) : Int) := by simp
  rw [e, Int.fdiv_eq_ediv_of_nonneg _ (Int.natCast_nonneg _), ← Int.natCast_ediv]
  congr 1
  by_cases h : n ≤ 32
  · rw [Nat.min_eq_left h]
  · rw [Nat.min_eq_right (by omega)]
    rw [Nat.div_eq_of_lt (by simpa using hm), Nat.div_eq_of_lt]
    exact Nat.lt_of_lt_of_le hm (Nat.pow_le_pow_right (n := 2) (by decide) (show 32 ≤ n by omega))
theorem has_bt {s n : Int} (hs : U32 s) (hn : 0 ≤ n) : (decide ((bAnd .u32 (bShr .u32 s n) (1 : Int)) = (1 : Int))) = bt s n.toNat := by
  obtain ⟨m, hm, rfl⟩ := u32_nat hs
  obtain ⟨k, rfl⟩ : ∃ k : Nat, n = (k : Int) := ⟨n.toNat, by omega⟩
  rw [shr_nat k hm]
  have h1 := bAnd_nat (m := m / 2 ^ k) (n := 1) (Nat.lt_of_le_of_lt (Nat.div_le_self _ _) hm) (by decide)
  rw [show ((1 : Nat) : Int) = 1 from rfl] at h1
  rw [h1]
  simp only [bt, Int.toNat_natCast, Nat.testBit_eq_decide_div_mod_eq, Nat.and_one_is_mod]
  congr 1
  rw [eq_iff_iff]
  omega
theorem shr_zero {s : Int} {n : Nat} (hs : U32 s) : bShr .u32 s (n : Int) = 0 ↔ s < ((2 ^ n : Nat) : Int) := by
  obtain ⟨m, hm, rfl⟩ := u32_nat hs
  rw [shr_nat n hm]
  have : (m / 2 ^ n : Nat) = 0 ↔ m < 2 ^ n := by rw [Nat.div_eq_zero_iff]; simp [Nat.pow_eq_zero]
  omega
end Dec
