/-
Plain lemmas on loops and lists, no program in sight.
-/
import Derived.Test.YtfchgkifdfgbmaaDecA
set_option linter.unusedSimpArgs false
set_option linter.unusedVariables false
namespace Dec
open Go
theorem loop_state {τ : Type} {B : Int × τ → (Int × τ → Prop) → Prop} (n : Nat) (st : Nat → τ) (P : Nat → Prop) (h0 : P 0)
  (h : ∀ i : Nat, i ≤ n → P i → ∀ X : Int × τ → Prop, (i < n → P (i + 1) → X ((i : Int) + 1, st (i + 1))) → B ((i : Int), st i) X) : Loop B (0, st 0) := by
 refine Loop.by (fun s => ∃ i : Nat, i ≤ n ∧ P i ∧ s = ((i : Int), st i)) (fun s => ((n : Int) - s.1).toNat) ⟨0, by omega, h0, rfl⟩ ?_
 rintro s ⟨i, hi, hP, rfl⟩ X hX
 exact h i hi hP X fun hlt hP' => hX _ ⟨i + 1, by omega, hP', by simp⟩ (by simp only; omega)
theorem loop_count {B : Int → (Int → Prop) → Prop} (n : Nat) (P : Nat → Prop) (h0 : P 0)
  (h : ∀ i : Nat, i ≤ n → P i → ∀ X : Int → Prop, (i < n → P (i + 1) → X ((i : Int) + 1)) → B (i : Int) X) : Loop B 0 := by
 refine Loop.by (fun s => ∃ i : Nat, i ≤ n ∧ P i ∧ s = (i : Int)) (fun s => ((n : Int) - s).toNat) ⟨0, by omega, h0, rfl⟩ ?_
 rintro s ⟨i, hi, hP, rfl⟩ X hX
 exact h i hi hP X fun hlt hP' => hX _ ⟨i + 1, by omega, hP', by simp⟩ (by omega)
theorem getD_lt {α : Type} {l : List α} {i : Nat} (d : α) (h : i < l.length) : l.getD i d = l[i] := by simp [List.getD, h]
theorem getD_ge {α : Type} {l : List α} {i : Nat} (d : α) (h : l.length ≤ i) : l.getD i d = d := by simp [List.getD, h]
theorem getD_mem {α : Type} {l : List α} {i : Nat} {d : α} (h : i < l.length) : l.getD i d ∈ l := by rw [getD_lt d h]; exact List.getElem_mem h
theorem getD_opt {α : Type} {l : List α} {i : Nat} {d : α} (h : i < l.length) : l[i]? = some (l.getD i d) := by simp [List.getD, h]
theorem ext_getD {α : Type} (d : α) {a b : List α} (hl : a.length = b.length) (h : ∀ i, i < a.length → a.getD i d = b.getD i d) : a = b := by
 apply List.ext_getElem hl
 intro i h1 h2
 have := h i h1
 rwa [getD_lt d h1, getD_lt d h2] at this
def VCidx {α : Type} (d : α) (s : List α) (F : α → (Bool → Prop) → Prop) (K : Int → Prop) : Prop :=
 Loop (σ := Int) (fun v X => (((decide (v < (s.length : Int))) = true → (inIdx v s.length ∧ F (s.getD (v).toNat d) (fun r => ((r = true → K v) ∧ (r = false → (InR (v + (1 : Int)) ∧ X (v + (1 : Int)))))))) ∧ ((decide (v < (s.length : Int))) = false → K (-1)))) 0
def idxOf {α : Type} (f : α → Bool) (s : List α) : Int := match s.findIdx? f with | some i => (i : Int) | none => -1
theorem VCidx_of {α : Type} {d : α} {s : List α} {F : α → (Bool → Prop) → Prop} {K : Int → Prop} (f : α → Bool) (hl : s.length ≤ 4611686018427387904) (hF : ∀ x ∈ s, ∀ K' : Bool → Prop, K' (f x) → F x K') (h : K (idxOf f s)) : VCidx d s F K := by
 unfold VCidx
 refine loop_count s.length (fun i => ∀ j, j < i → ∀ x, s[j]? = some x → f x = false) (by simp) ?_
 intro i hi hP X hX
 refine ⟨fun hb => ?_, fun hb => ?_⟩
 ·simp only [decide_eq_true_eq] at hb
  have hil : i < s.length := by omega
  refine ⟨⟨by omega, by omega⟩, ?_⟩
  simp only [Int.toNat_natCast]
  refine hF _ (getD_mem hil) _ ⟨fun ht => ?_, fun hf => ⟨⟨by omega, by omega⟩, hX hil ?_⟩⟩
  ·have : s.findIdx? f = some i := by
    rw [List.findIdx?_eq_some_iff_getElem]
    refine ⟨hil, by rw [← getD_lt d hil]; exact ht, fun j hj => ?_⟩
    have := hP j hj _ (List.getElem?_eq_getElem (by omega))
    simp [this]
   unfold idxOf at h
   rw [this] at h
   exact h
  ·intro j hj x hx
   by_cases hji : j < i
   ·exact hP j hji x hx
   ·have : j = i := by omega
    subst this
    rw [getD_opt (d := d) hil] at hx
    injection hx with hx
    rw [← hx]; exact hf
 ·simp only [decide_eq_false_iff_not] at hb
  have : s.findIdx? f = none := by
   rw [List.findIdx?_eq_none_iff]
   intro x hx
   obtain ⟨j, hj, rfl⟩ := List.mem_iff_getElem.1 hx
   exact hP j (by omega) _ (List.getElem?_eq_getElem hj)
  unfold idxOf at h
  rw [this] at h
  exact h
theorem idxOf_any {α : Type} (f : α → Bool) (s : List α) : decide (0 ≤ idxOf f s) = s.any f := by
 unfold idxOf
 cases h : s.findIdx? f with
 | none =>
  have : s.any f = false := by
   rw [List.any_eq_false]
   rw [List.findIdx?_eq_none_iff] at h
   intro x hx
   rw [h x hx]; simp
  rw [this]; rfl
 | some i =>
  rw [List.findIdx?_eq_some_iff_getElem] at h
  obtain ⟨hi, hf, _⟩ := h
  have : s.any f = true := List.any_eq_true.2 ⟨_, List.getElem_mem hi, hf⟩
  rw [this]
  simp
theorem VCany_of {α : Type} {d : α} {s : List α} {F : α → (Bool → Prop) → Prop} {K : Bool → Prop} (f : α → Bool) (hl : s.length ≤ 4611686018427387904) (hF : ∀ x ∈ s, ∀ K' : Bool → Prop, K' (f x) → F x K') (h : K (s.any f)) : VCidx d s F (fun r => K (decide ((0 : Int) ≤ r))) := by
 refine VCidx_of f hl hF ?_
 rw [idxOf_any]
 exact h
theorem wrapU32 {n : Int} (h : 0 ≤ n ∧ n < 4294967296) : IntKind.wrap .u32 n = n := by
 simp [IntKind.wrap, IntKind.signed, IntKind.bits]; omega
end Dec
namespace Dec
open Go
def U32 (s : Int) : Prop := 0 ≤ s ∧ s < 4294967296
def bt (s : Int) (i : Nat) : Bool := s.toNat.testBit i
theorem u32_nat {s : Int} (h : U32 s) : ∃ n : Nat, n < 4294967296 ∧ s = (n : Int) := ⟨s.toNat, by have := h.1; have := h.2; omega, by have := h.1; omega⟩
theorem ofInt_nat {n : Nat} (h : n < 4294967296) : (BitVec.ofInt 32 (n : Int)).toNat = n := by
 simp [BitVec.toNat_ofInt]; omega
theorem wrap_nat {n : Nat} (h : n < 4294967296) : IntKind.wrap .u32 (n : Int) = (n : Int) := wrapU32 ⟨by omega, by omega⟩
theorem bAnd_nat {m n : Nat} (hm : m < 4294967296) (hn : n < 4294967296) : bAnd .u32 (m : Int) (n : Int) = ((m &&& n : Nat) : Int) := by
 unfold bAnd
 have : (BitVec.ofInt 32 (m : Int) &&& BitVec.ofInt 32 (n : Int)).toNat = m &&& n := by rw [BitVec.toNat_and, ofInt_nat hm, ofInt_nat hn]
 show IntKind.wrap .u32 ((BitVec.ofInt 32 (m : Int) &&& BitVec.ofInt 32 (n : Int)).toNat : Int) = _
 rw [this, wrap_nat (by have := Nat.and_le_left (n := m) (m := n); omega)]
theorem bOr_nat {m n : Nat} (hm : m < 4294967296) (hn : n < 4294967296) : bOr .u32 (m : Int) (n : Int) = ((m ||| n : Nat) : Int) ∧ (m ||| n) < 4294967296 := by
 have hlt : (m ||| n) < 4294967296 := Nat.or_lt_two_pow (n := 32) hm hn
 refine ⟨?_, hlt⟩
 unfold bOr
 have : (BitVec.ofInt 32 (m : Int) ||| BitVec.ofInt 32 (n : Int)).toNat = m ||| n := by rw [BitVec.toNat_or, ofInt_nat hm, ofInt_nat hn]
 show IntKind.wrap .u32 ((BitVec.ofInt 32 (m : Int) ||| BitVec.ofInt 32 (n : Int)).toNat : Int) = _
 rw [this, wrap_nat hlt]
theorem bt_or {s t : Int} (hs : U32 s) (ht : U32 t) (i : Nat) : bt (bOr .u32 s t) i = (bt s i || bt t i) := by
 obtain ⟨m, hm, rfl⟩ := u32_nat hs
 obtain ⟨n, hn, rfl⟩ := u32_nat ht
 rw [(bOr_nat hm hn).1]
 simp [bt, Nat.testBit_or]
theorem u32_or {s t : Int} (hs : U32 s) (ht : U32 t) : U32 (bOr .u32 s t) := by
 obtain ⟨m, hm, rfl⟩ := u32_nat hs
 obtain ⟨n, hn, rfl⟩ := u32_nat ht
 rw [(bOr_nat hm hn).1]
 have := (bOr_nat hm hn).2
 exact ⟨by omega, by omega⟩
theorem u32_zero : U32 0 := ⟨by omega, by omega⟩
theorem bt_zero (i : Nat) : bt 0 i = false := by simp [bt]
theorem shl1 {n : Nat} (h : n < 32) : bShl .u32 1 (n : Int) = ((2 ^ n : Nat) : Int) := by
 unfold bShl
 have hp : (2 : Nat) ^ n < 4294967296 := by
  have : (2 : Nat) ^ n < 2 ^ 32 := Nat.pow_lt_pow_right (by decide) h
  simpa using this
 have hm : min (n : Int).toNat IntKind.u32.bits = n := by simp [IntKind.bits]; omega
 rw [hm, Int.one_mul]
 have : (2 : Int) ^ n = ((2 ^ n : Nat) : Int) := by simp
 rw [this, wrap_nat hp]
theorem u32_shl1 (n : Int) : U32 (bShl .u32 1 n) := by
 unfold bShl U32
 have := @IntKind.wrap .u32 (1 * 2 ^ min n.toNat IntKind.u32.bits)
 simp only [IntKind.wrap, IntKind.signed, IntKind.bits]
 simp
 omega
theorem bt_shl1 {n : Nat} (h : n < 32) (i : Nat) : bt (bShl .u32 1 (n : Int)) i = decide (n = i) := by
 rw [shl1 h]
 simp only [bt, Int.toNat_natCast]
 rw [Nat.testBit_two_pow]
theorem shr_nat {m : Nat} (n : Nat) (hm : m < 4294967296) : bShr .u32 (m : Int) (n : Int) = ((m / 2 ^ n : Nat) : Int) := by
 unfold bShr
 simp only [IntKind.bits, Int.toNat_natCast]
 have e : (2 : Int) ^ (min n 32) = ((2 ^ (min n 32) : Nat) : Int) := by simp
 rw [e, Int.fdiv_eq_ediv_of_nonneg _ (Int.natCast_nonneg _), ← Int.natCast_ediv]
 congr 1
 by_cases h : n ≤ 32
 ·rw [Nat.min_eq_left h]
 ·rw [Nat.min_eq_right (by omega)]
  rw [Nat.div_eq_of_lt (by simpa using hm), Nat.div_eq_of_lt]
  exact Nat.lt_of_lt_of_le hm (Nat.pow_le_pow_right (n := 2) (by decide) (show 32 ≤ n by omega))
theorem has_bt {s n : Int} (hs : U32 s) (hn : 0 ≤ n) : (decide ((bAnd .u32 (bShr .u32 s n) (1 : Int)) = (1 : Int))) = bt s n.toNat := by
 obtain ⟨m, hm, rfl⟩ := u32_nat hs
 obtain ⟨k, rfl⟩ : ∃ k : Nat, n = (k : Int) := ⟨n.toNat, by omega⟩
 rw [shr_nat k hm]
 have h1 := bAnd_nat (m := m / 2 ^ k) (n := 1) (Nat.lt_of_le_of_lt (Nat.div_le_self _ _) hm) (by decide)
 rw [show ((1 : Nat) : Int) = 1 from rfl] at h1
 rw [h1]
 simp only [bt, Int.toNat_natCast, Nat.testBit_eq_decide_div_mod_eq, Nat.and_one_is_mod]
 congr 1
 rw [eq_iff_iff]
 omega
end Dec
namespace Dec
open Go
theorem mget_mset {α β : Type} [DecidableEq α] (l : List (α × β)) (x y : α) (v : β) : mget (mset l x v) y = if y = x then some v else mget l y := by
 induction l with
 | nil => by_cases h : y = x <;> simp [mset, mget, h]
 | cons p r ih =>
  obtain ⟨k, u⟩ := p
  by_cases h : x = k
  ·subst h
   by_cases h2 : y = x <;> simp [mset, mget, h2]
  ·by_cases h2 : y = k
   ·subst h2
    have : ¬ y = x := fun e => h e.symm
    simp [mset, mget, h, this]
   ·simp only [mset, if_neg h, mget, if_neg h2, ih]
theorem pigeon : ∀ (N n : Nat) (f : Nat → Nat), (∀ i, i < n → f i < N) → (∀ i j, i < j → j < n → f i ≠ f j) → n ≤ N
 | N, 0, _, _, _ => Nat.zero_le _
 | 0, n + 1, f, h, _ => absurd (h 0 (by omega)) (by omega)
 | N + 1, n + 1, f, h, hd => by
  by_cases hk : ∃ k, k < n + 1 ∧ f k = N
  ·obtain ⟨k, hk1, hk2⟩ := hk
   have := pigeon N n (fun i => f (if i < k then i else i + 1)) (fun i hi => by
    have h1 : (if i < k then i else i + 1) < n + 1 := by split <;> omega
    have h2 : (if i < k then i else i + 1) ≠ k := by split <;> omega
    have h3 := h _ h1
    have h4 : f (if i < k then i else i + 1) ≠ N := by
     intro e
     rw [← hk2] at e
     rcases Nat.lt_or_gt_of_ne h2 with h5 | h5
     ·exact hd _ _ h5 hk1 e
     ·exact hd _ _ h5 h1 e.symm
    show f (if i < k then i else i + 1) < N
    omega) (fun i j hij hj => hd _ _ (by split <;> split <;> omega) (by split <;> omega))
   omega
  ·have := pigeon N (n + 1) f (fun i hi => by
    have h1 := h i hi
    have h2 : f i ≠ N := fun e => hk ⟨i, hi, e⟩
    omega) hd
   omega
end Dec
namespace Cfg
abbrev Rules := List (Int × List Int)
inductive Row (K : Int) (R : Rules) (w : List Int) : List Int → Nat → Nat → Prop
 | nil (i : Nat) (h : i ≤ w.length) : Row K R w [] i i
 | sym (s : Int) (l : List Int) (i j : Nat) (hs : s < K) (hi : w[i]? = some s) (h : Row K R w l (i + 1) j) : Row K R w (s :: l) i j
 | name (s : Int) (l r : List Int) (i m j : Nat) (hs : ¬ s < K) (hr : (s - K, r) ∈ R) (h1 : Row K R w r i m) (h2 : Row K R w l m j) : Row K R w (s :: l) i j
def Der (K : Int) (R : Rules) (w : List Int) (A : Int) (i j : Nat) : Prop := ∃ l, (A, l) ∈ R ∧ Row K R w l i j
section
variable {K : Int} {R : Rules} {w : List Int}
theorem Row.le {l : List Int} {i j : Nat} (h : Row K R w l i j) : i ≤ j ∧ j ≤ w.length := by
 induction h with
 | nil i h => exact ⟨Nat.le_refl _, h⟩
 | sym s l i j hs hi h ih => omega
 | name s l r i m j hs hr h1 h2 ih1 ih2 => omega
theorem Row.more {R' : Rules} (hR : ∀ x, x ∈ R → x ∈ R') {l : List Int} {i j : Nat} (h : Row K R w l i j) : Row K R' w l i j := by
 induction h with
 | nil i h => exact .nil i h
 | sym s l i j hs hi h ih => exact .sym s l i j hs hi ih
 | name s l r i m j hs hr h1 h2 ih1 ih2 => exact .name s l r i m j hs (hR _ hr) ih1 ih2
theorem Der.more {R' : Rules} (hR : ∀ x, x ∈ R → x ∈ R') {A : Int} {i j : Nat} (h : Der K R w A i j) : Der K R' w A i j := by
 obtain ⟨l, h1, h2⟩ := h
 exact ⟨l, hR _ h1, h2.more hR⟩
theorem Row.move {w' : List Int} {d : Nat} (hw : ∀ i x, w[i]? = some x → w'[d + i]? = some x) (hl : d + w.length ≤ w'.length) {l : List Int} {i j : Nat} (h : Row K R w l i j) : Row K R w' l (d + i) (d + j) := by
 induction h with
 | nil i h => exact .nil _ (by omega)
 | sym s l i j hs hi h ih => exact .sym s l _ _ hs (hw _ _ hi) (by rw [Nat.add_assoc]; exact ih)
 | name s l r i m j hs hr h1 h2 ih1 ih2 => exact .name s l r _ _ _ hs hr ih1 ih2
theorem Row.left {u v : List Int} {l : List Int} {i j : Nat} (h : Row K R u l i j) : Row K R (u ++ v) l i j := by
 have := h.move (w' := u ++ v) (d := 0) (fun i x hx => by
  rw [Nat.zero_add, List.getElem?_append_left (by
   refine Nat.lt_of_not_le fun hle => ?_
   rw [List.getElem?_eq_none hle] at hx
   cases hx)]
  exact hx) (by simp)
 simpa using this
theorem Row.right {u v : List Int} {l : List Int} {i j : Nat} (h : Row K R v l i j) : Row K R (u ++ v) l (u.length + i) (u.length + j) := by
 refine h.move (fun i x hx => ?_) (by simp)
 rw [List.getElem?_append_right (by omega), Nat.add_sub_cancel_left]
 exact hx
theorem Row.two {A B : Int} {i m j : Nat} (ha : ¬ A < K) (hb : ¬ B < K) (h1 : Der K R w (A - K) i m) (h2 : Der K R w (B - K) m j) : Row K R w [A, B] i j := by
 obtain ⟨r, h3, h4⟩ := h1
 obtain ⟨q, h5, h6⟩ := h2
 exact .name A [B] r i m j ha h3 h4 (.name B [] q m j j hb h5 h6 (.nil j h6.le.2))
theorem Row.word : ∀ (l : List Int) (i : Nat), (∀ k x, l[k]? = some x → w[i + k]? = some x ∧ x < K) → i + l.length ≤ w.length → Row K R w l i (i + l.length)
 | [], i, _, h => .nil i (by simpa using h)
 | s :: l, i, hw, h => by
  have h0 := hw 0 s rfl
  have := Row.word l (i + 1) (fun k x hk => by
   have := hw (k + 1) x (by simpa using hk)
   rw [show i + (k + 1) = i + 1 + k by omega] at this
   exact this) (by simp only [List.length_cons] at h; omega)
  rw [show i + 1 + l.length = i + (s :: l).length by simp only [List.length_cons]; omega] at this
  exact .sym s l i _ h0.2 h0.1 this
/-! ### a table of names over stretches -/
def SignS (K : Int) (w : List Int) (S : Int → Nat → Nat → Prop) (s : Int) (i j : Nat) : Prop := if s < K then j = i + 1 ∧ w[i]? = some s else S (s - K) i j
def RowS (K : Int) (w : List Int) (S : Int → Nat → Nat → Prop) : List Int → Nat → Nat → Prop
 | [], i, j => i = j
 | s :: l, i, j => ∃ m, i ≤ m ∧ m ≤ w.length ∧ SignS K w S s i m ∧ RowS K w S l m j
theorem RowS.row {S : Int → Nat → Nat → Prop} (hS : ∀ A i j, i ≤ j → j ≤ w.length → S A i j → Der K R w A i j) : ∀ {l : List Int} {i j : Nat}, i ≤ w.length → RowS K w S l i j → Row K R w l i j
 | [], i, j, hi, h => by
  simp only [RowS] at h
  subst h
  exact .nil i hi
 | s :: l, i, j, hi, h => by
  obtain ⟨m, h1, h2, h3, h4⟩ := h
  have ih := RowS.row hS h2 h4
  unfold SignS at h3
  by_cases hs : s < K
  ·rw [if_pos hs] at h3
   obtain ⟨rfl, h5⟩ := h3
   exact .sym s l i j hs h5 ih
  ·rw [if_neg hs] at h3
   obtain ⟨r, h5, h6⟩ := hS _ _ _ h1 h2 h3
   exact .name s l r i m j hs h5 h6 ih
theorem row_rowS {S : Int → Nat → Nat → Prop} (hC : ∀ A l i j, (A, l) ∈ R → i ≤ j → j ≤ w.length → RowS K w S l i j → S A i j) {l : List Int} {i j : Nat} (h : Row K R w l i j) : RowS K w S l i j := by
 induction h with
 | nil i h => rfl
 | sym s l i j hs hi h ih => exact ⟨i + 1, by omega, by have := h.le; omega, by unfold SignS; rw [if_pos hs]; exact ⟨rfl, hi⟩, ih⟩
 | name s l r i m j hs hr h1 h2 ih1 ih2 =>
  refine ⟨m, h1.le.1, h1.le.2, ?_, ih2⟩
  unfold SignS
  rw [if_neg hs]
  exact hC _ _ _ _ hr h1.le.1 h1.le.2 ih1
theorem RowS.le {S : Int → Nat → Nat → Prop} : ∀ {l : List Int} {i j : Nat}, RowS K w S l i j → i ≤ j
 | [], i, j, h => by simp only [RowS] at h; omega
 | s :: l, i, j, h => by
  obtain ⟨m, h1, h2, h3, h4⟩ := h
  have := RowS.le h4
  omega
theorem RowS.mono {S T : Int → Nat → Nat → Prop} (h : ∀ A i j, S A i j → T A i j) : ∀ {l : List Int} {i j : Nat}, RowS K w S l i j → RowS K w T l i j
 | [], i, j, h' => h'
 | s :: l, i, j, h' => by
  obtain ⟨m, h1, h2, h3, h4⟩ := h'
  refine ⟨m, h1, h2, ?_, RowS.mono h h4⟩
  unfold SignS at h3 ⊢
  by_cases hs : s < K
  ·rw [if_pos hs] at h3 ⊢; exact h3
  ·rw [if_neg hs] at h3 ⊢; exact h _ _ _ h3
theorem rowS_snoc {S : Int → Nat → Nat → Prop} : ∀ {l : List Int} {s : Int} {i j : Nat}, j ≤ w.length → (RowS K w S (l ++ [s]) i j ↔ ∃ m, m ≤ j ∧ m ≤ w.length ∧ RowS K w S l i m ∧ SignS K w S s m j ∧ i ≤ m)
 | [], s, i, j, hj => by
  simp only [List.nil_append, RowS]
  constructor
  ·rintro ⟨m, h1, h2, h3, rfl⟩
   exact ⟨i, h1, by omega, rfl, h3, Nat.le_refl _⟩
  ·rintro ⟨m, h1, h2, rfl, h4, h5⟩
   exact ⟨j, h1, hj, h4, rfl⟩
 | x :: l, s, i, j, hj => by
  simp only [List.cons_append, RowS]
  constructor
  ·rintro ⟨m, h1, h2, h3, h4⟩
   obtain ⟨n, h5, h6, h7, h8, h9⟩ := (rowS_snoc hj).1 h4
   exact ⟨n, h5, h6, ⟨m, h1, h2, h3, h7⟩, h8, by omega⟩
  ·rintro ⟨n, h5, h6, ⟨m, h1, h2, h3, h7⟩, h8, h9⟩
   have := RowS.le h7
   exact ⟨m, h1, h2, h3, (rowS_snoc hj).2 ⟨n, h5, h6, h7, h8, this⟩⟩
end
end Cfg
namespace Dec
open Go
open Classical in
noncomputable def howMany (P : Nat → Prop) : Nat → Nat
 | 0 => 0
 | t + 1 => howMany P t + if P t then 1 else 0
theorem howMany_le (P : Nat → Prop) : ∀ t, howMany P t ≤ t
 | 0 => Nat.le_refl _
 | t + 1 => by have := howMany_le P t; unfold howMany; split <;> omega
theorem howMany_mono {P Q : Nat → Prop} : ∀ t, (∀ i, i < t → P i → Q i) → howMany P t ≤ howMany Q t
 | 0, _ => Nat.le_refl _
 | t + 1, h => by
  have := howMany_mono t fun i hi => h i (by omega)
  have h2 := h t (by omega)
  unfold howMany
  by_cases hp : P t
  ·rw [if_pos hp, if_pos (h2 hp)]; omega
  ·rw [if_neg hp]; omega
theorem howMany_lt {P Q : Nat → Prop} : ∀ t, (∀ i, i < t → P i → Q i) → (∃ i, i < t ∧ Q i ∧ ¬ P i) → howMany P t < howMany Q t
 | 0, _, ⟨i, hi, _⟩ => absurd hi (by omega)
 | t + 1, h, ⟨i, hi, hq, hp⟩ => by
  have h0 := howMany_mono t fun i hi => h i (by omega)
  have h2 := h t (by omega)
  unfold howMany
  by_cases hit : i = t
  ·subst hit
   rw [if_neg hp, if_pos hq]; omega
  ·have := howMany_lt t (fun i hi => h i (by omega)) ⟨i, by omega, hq, hp⟩
   by_cases hpt : P t
   ·rw [if_pos hpt, if_pos (h2 hpt)]; omega
   ·rw [if_neg hpt]; omega
theorem bt_or1 {s : Int} {n : Nat} (hs : U32 s) (hn : n < 32) (i : Nat) : bt (bOr .u32 s (bShl .u32 1 (n : Int))) i = (bt s i || decide (n = i)) := by
 rw [bt_or hs (u32_shl1 _), bt_shl1 hn]
end Dec
namespace Dec
open Go
theorem mget_mtouch {α β : Type} [DecidableEq α] (l : List (α × β)) (x y : α) (d : β) : mget (mtouch l x d) y = if y = x then some ((mget l x).getD d) else mget l y := by
 have happ : ∀ l : List (α × β), mget l x = none → mget (l ++ [(x, d)]) y = if y = x then some d else mget l y := by
  intro l
  induction l with
  | nil => intro _; simp only [List.nil_append, mget]
  | cons p r ih =>
   obtain ⟨k, u⟩ := p
   intro h
   simp only [mget] at h
   by_cases h1 : x = k
   ·rw [if_pos h1] at h; cases h
   ·rw [if_neg h1] at h
    simp only [List.cons_append, mget]
    by_cases h2 : y = k
    ·rw [if_pos h2, if_pos h2, if_neg (fun e => h1 (by rw [← e, h2]))]
    ·rw [if_neg h2, if_neg h2, ih h]
 unfold mtouch
 cases h : mget l x with
 | none => simp only [Option.isSome_none, Bool.false_eq_true, if_false, happ l h, Option.getD_none]
 | some v =>
  simp only [Option.isSome_some, if_true, Option.getD_some]
  by_cases e : y = x
  ·rw [e, h, if_pos rfl]
  ·rw [if_neg e]
theorem midx_none {α β : Type} [DecidableEq α] : ∀ (l : List (α × β)) (x : α), mget l x = none → midx l x = none
 | [], _, _ => rfl
 | (k, u) :: r, x, h => by
  simp only [mget] at h
  by_cases h1 : x = k
  ·rw [if_pos h1] at h; cases h
  ·rw [if_neg h1] at h
   simp only [midx, if_neg h1, midx_none r x h, Option.map_none]
theorem midx_some {α β : Type} [DecidableEq α] : ∀ (l : List (α × β)) (x : α), (mget l x).isSome → ∃ i, midx l x = some i ∧ i < l.length ∧ ∀ v, l.modify i (fun e => (e.1, v)) = mset l x v
 | [], _, h => by simp [mget] at h
 | (k, u) :: r, x, h => by
  by_cases h1 : x = k
  ·subst h1
   exact ⟨0, by simp [midx], by simp, fun v => by simp [mset]⟩
  ·simp only [mget, if_neg h1] at h
   obtain ⟨i, h2, h3, h4⟩ := midx_some r x h
   refine ⟨i + 1, by simp [midx, h1, h2], by simpa using h3, fun v => ?_⟩
   simp only [mset, if_neg h1, List.modify_succ_cons, h4 v]
theorem mset_none {α β : Type} [DecidableEq α] : ∀ (l : List (α × β)) (x : α) (v : β), mget l x = none → mset l x v = l ++ [(x, v)]
 | [], _, _, _ => rfl
 | (k, u) :: r, x, v, h => by
  simp only [mget] at h
  by_cases h1 : x = k
  ·rw [if_pos h1] at h; cases h
  ·rw [if_neg h1] at h
   simp only [mset, if_neg h1, mset_none r x v h, List.cons_append]
theorem modify_last {α : Type} : ∀ (l : List α) (a : α) (f : α → α), (l ++ [a]).modify l.length f = l ++ [f a]
 | [], a, f => by simp
 | x :: l, a, f => by
  simp only [List.cons_append, List.length_cons, List.modify_succ_cons, modify_last l a f]
theorem mput_mset {α β : Type} [DecidableEq α] (l : List (α × β)) (x : α) (d v : β) : mputAt (mtouch l x d) (mplace l x).toNat v = mset l x v ∧ inIdx (mplace l x) (mtouch l x d).length := by
 unfold mputAt mplace mtouch
 cases h : mget l x with
 | none =>
  rw [midx_none l x h, mset_none l x v h]
  simp only [Option.isSome_none, Bool.false_eq_true, if_false, Option.getD_none, Int.toNat_natCast]
  exact ⟨modify_last l _ _, by omega, by simp only [List.length_append, List.length_singleton]; omega⟩
 | some u =>
  obtain ⟨i, h1, h2, h3⟩ := midx_some l x (by rw [h]; rfl)
  rw [h1]
  simp only [Option.isSome_some, if_true, Option.getD_some, Int.toNat_natCast]
  exact ⟨h3 v, by omega, by omega⟩
theorem mset_keys {α β : Type} [DecidableEq α] : ∀ (l : List (α × β)) (x : α) (v : β), (mset l x v).map Prod.fst = if (mget l x).isSome then l.map Prod.fst else l.map Prod.fst ++ [x]
 | [], x, v => rfl
 | (k, u) :: r, x, v => by
  by_cases h1 : x = k
  ·subst h1
   simp [mset, mget]
  ·simp only [mset, mget, if_neg h1, List.map_cons, mset_keys r x v]
   split <;> rfl
theorem mget_none_keys {α β : Type} [DecidableEq α] : ∀ (l : List (α × β)) (x : α), (mget l x).isSome = false → x ∉ l.map Prod.fst
 | [], x, _ => by simp
 | (k, u) :: r, x, h => by
  by_cases h1 : x = k
  ·subst h1; simp [mget] at h
  ·simp only [mget, if_neg h1] at h
   have := mget_none_keys r x h
   simp only [List.map_cons, List.mem_cons, not_or]
   exact ⟨h1, this⟩
end Dec
