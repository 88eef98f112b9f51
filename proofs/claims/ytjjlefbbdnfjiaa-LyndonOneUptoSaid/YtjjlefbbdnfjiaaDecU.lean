/-
  bytes.Compare's stand-in (two rows of bytes in their order).
-/
import Derived.Test.YtjjlefbbdnfjiaaDecT
set_option linter.unusedSimpArgs false
set_option linter.unusedVariables false
namespace Dec
open Go Go.RowKit

/-- -1, 0 or 1: which comes first -/
def cmpL : List Int → List Int → Int
  | [], [] => 0
  | [], _ :: _ => -1
  | _ :: _, [] => 1
  | a :: l, b :: m => if a < b then -1 else if b < a then 1 else cmpL l m

section
variable {P : Program} {w : World}

theorem run_loadBytes {b : Nat} {cells : Array Value} {e : TypeId} {fz : Nat × Nat} (hb : w.heap[b]? = some (.cells cells e fz)) : ∀ (l : List Int) (off : Nat) (acc : ByteArray), (∀ (j : Nat) (x : Int), l[j]? = some x → cells[off + j]? = some (.int .u8 x)) →
    (Extern.Bytes.loadBytes ⟨b, off, none⟩ l.length acc).run P w = .ok ⟨acc.data ++ (l.map fun n => UInt8.ofNat n.toNat).toArray⟩ w
  | [], off, acc, _ => by
    simp [Extern.Bytes.loadBytes]
  | x :: l, off, acc, h => by
    have h0 := h 0 x rfl
    have ih := run_loadBytes hb l (off + 1) (acc.push x.toNat.toUInt8) (fun j y hj => by have := h (j + 1) y (by simpa using hj); rw [show off + (j + 1) = off + 1 + j by omega] at this; exact this)
    have hadd : (⟨b, off, none⟩ : Addr).add 1 = ⟨b, off + 1, none⟩ := by simp [Addr.add]
    have hc : w.cell? ⟨b, off, none⟩ = some (.int .u8 x) := by simpa [World.cell?, hb] using h0
    simp only [List.length_cons, Extern.Bytes.loadBytes, hadd, Sem.run_bind, run_load, hc, Result.andThen_ok]
    rw [ih]
    congr 1
    simp [ByteArray.push, Nat.toUInt8]

theorem run_bytesOf {S : Nat → Prop} {l : List Int} {v : Value} (h : Enc w S (.sl (.int .u8)) l [v]) : (Extern.Bytes.bytesOf v).run P w = .ok (strOfNums l) w := by
  obtain ⟨a, c, e1, hc, hm, hr⟩ := h
  injection e1 with e1 _
  subst e1
  rcases hr with rfl | ⟨b, off, cells, ty, fz, xs, rfl, hS, hb, hx, hj⟩
  · cases a with
    | none => rfl
    | some a => rfl
  · simp only [Extern.Bytes.bytesOf]
    rw [run_loadBytes hb l off .empty (fun j x hx2 => ?_)]
    · simp [strOfNums, ByteArray.empty, ByteArray.emptyWithCapacity]
      rfl
    · obtain ⟨cs, h1, h2⟩ := EncL.get (fun _ _ hh => Enc.length hh) j x hx hx2
      obtain ⟨rfl, _⟩ := h1
      have h3 := hj _ _ (h2 0 _ rfl)
      simpa [Ty.size] using h3

theorem cmpL_diff : ∀ (a b : List Int) (i : Nat), i < a.length → i < b.length → (∀ j, j < i → a[j]? = b[j]?) → a.getD i 0 ≠ b.getD i 0 → cmpL a b = if a.getD i 0 < b.getD i 0 then -1 else 1
  | [], _, _, h, _, _, _ => by simp at h
  | _ :: _, [], _, _, h, _, _ => by simp at h
  | x :: a, y :: b, 0, _, _, _, hne => by
    simp only [List.getD_cons_zero] at hne ⊢
    simp only [cmpL]
    by_cases h : x < y
    · rw [if_pos h, if_pos h]
    · rw [if_neg h, if_neg h, if_pos (by omega)]
  | x :: a, y :: b, i + 1, h1, h2, h3, hne => by
    have h0 := h3 0 (by omega)
    simp only [List.getElem?_cons_zero, Option.some.injEq] at h0
    subst h0
    simp only [List.getD_cons_succ] at hne ⊢
    simp only [cmpL]
    rw [if_neg (by omega), if_neg (by omega)]
    exact cmpL_diff a b i (by simpa using h1) (by simpa using h2) (fun j hj => by simpa using h3 (j + 1) (by omega)) hne

theorem cmpL_same : ∀ (a b : List Int), (∀ j, j < min a.length b.length → a[j]? = b[j]?) → cmpL a b = if a.length < b.length then -1 else if a.length > b.length then 1 else 0
  | [], [], _ => by simp [cmpL]
  | [], _ :: _, _ => by simp [cmpL]
  | _ :: _, [], _ => by simp [cmpL]
  | x :: a, y :: b, h => by
    have h0 := h 0 (by simp)
    simp only [List.getElem?_cons_zero, Option.some.injEq] at h0
    subst h0
    simp only [cmpL]
    rw [if_neg (by omega), if_neg (by omega), cmpL_same a b (fun j hj => by simpa using h (j + 1) (by simp only [List.length_cons]; omega))]
    simp

theorem strOfNums_size (l : List Int) : (strOfNums l).size = l.length := by
  show (strOfNums l).data.size = _
  simp [strOfNums]

theorem strOfNums_get {l : List Int} {i : Nat} (h : i < l.length) : (strOfNums l)[i]! = UInt8.ofNat (l.getD i 0).toNat := by
  rw [getElem!_pos (strOfNums l) i (by rw [strOfNums_size]; exact h)]
  show (strOfNums l).data[i]'_ = _
  simp [strOfNums, List.getD, h]

theorem cmp_strOfNums {a b : List Int} (ha : ∀ x ∈ a, 0 ≤ x ∧ x ≤ 255) (hb : ∀ x ∈ b, 0 ≤ x ∧ x ≤ 255) : Extern.BytealgCompare.cmp (strOfNums a) (strOfNums b) = cmpL a b := by
  have rg : ∀ {l : List Int} {i : Nat}, (∀ x ∈ l, 0 ≤ x ∧ x ≤ 255) → i < l.length → 0 ≤ l.getD i 0 ∧ l.getD i 0 ≤ 255 := by
    intro l i h hi
    have : l.getD i 0 = l[i] := by simp [List.getD, hi]
    rw [this]
    exact h _ (List.getElem_mem hi)
  have un : ∀ {x : Int}, 0 ≤ x ∧ x ≤ 255 → (UInt8.ofNat x.toNat).toNat = x.toNat := by
    intro x hx
    rw [UInt8.toNat_ofNat']
    exact Nat.mod_eq_of_lt (by omega)
  have inj : ∀ {x y : Int}, 0 ≤ x ∧ x ≤ 255 → 0 ≤ y ∧ y ≤ 255 → (UInt8.ofNat x.toNat = UInt8.ofNat y.toNat ↔ x = y) := by
    intro x y hx hy
    constructor
    · intro e
      have := congrArg UInt8.toNat e
      rw [un hx, un hy] at this
      omega
    · rintro rfl; rfl
  have lt : ∀ {x y : Int}, 0 ≤ x ∧ x ≤ 255 → 0 ≤ y ∧ y ≤ 255 → (UInt8.ofNat x.toNat < UInt8.ofNat y.toNat ↔ x < y) := by
    intro x y hx hy
    rw [UInt8.lt_iff_toNat_lt, un hx, un hy]
    omega
  unfold Extern.BytealgCompare.cmp
  rw [strOfNums_size, strOfNums_size]
  split
  · rename_i i hi
    have hmem := List.mem_of_find?_eq_some hi
    have him : i < min a.length b.length := by simpa using hmem
    have hp := List.find?_some hi
    have hbefore : ∀ j, j < i → a[j]? = b[j]? := by
      intro j hj
      have := List.find?_eq_some_iff_getElem.1 hi
      obtain ⟨_, k, hk, e1, e2⟩ := this
      simp only [List.getElem_range] at e1
      subst e1
      have h3 := e2 j hj
      simp only [List.getElem_range, Bool.not_eq_true', bne_eq_false_iff_eq] at h3
      rw [strOfNums_get (by omega), strOfNums_get (by omega), inj (rg ha (by omega)) (rg hb (by omega))] at h3
      rw [List.getElem?_eq_getElem (by omega), List.getElem?_eq_getElem (by omega)]
      simpa [List.getD, show j < a.length by omega, show j < b.length by omega] using h3
    rw [strOfNums_get (by omega), strOfNums_get (by omega)] at hp ⊢
    have hne : a.getD i 0 ≠ b.getD i 0 := by
      simp only [bne_iff_ne, ne_eq] at hp
      intro e
      exact hp (by rw [e])
    rw [cmpL_diff a b i (by omega) (by omega) hbefore hne]
    by_cases hlt : a.getD i 0 < b.getD i 0
    · rw [if_pos hlt, if_pos ((lt (rg ha (by omega)) (rg hb (by omega))).2 hlt)]
    · rw [if_neg hlt, if_neg (fun e => hlt ((lt (rg ha (by omega)) (rg hb (by omega))).1 e))]
  · rename_i hn
    rw [List.find?_eq_none] at hn
    rw [cmpL_same a b]
    intro j hj
    have h3 := hn j (by simpa using hj)
    simp only [Bool.not_eq_true, bne_eq_false_iff_eq] at h3
    rw [strOfNums_get (by omega), strOfNums_get (by omega), inj (rg ha (by omega)) (rg hb (by omega))] at h3
    rw [List.getElem?_eq_getElem (by omega), List.getElem?_eq_getElem (by omega)]
    simpa [List.getD, show j < a.length by omega, show j < b.length by omega] using h3

/-- a call of a function for which the model stands in: it gives a value at once -/
theorem run_callVal {a : Act} {c : Call} {f : FuncId} {v : Value} (hc : c.callee = .value (.func f)) (o : Oper) (ho : o.op = .call c) (hf : ∀ args : Array Value, args = (c.args.toList.map a.eval).toArray → (callFunc f args).run P w = .ok (.value v) w) :
    (execOp a.eval o).run P w = .ok (.value v) w := by
  unfold execOp
  simp only [ho, resolve, hc, Act.eval, Deferred.ofValue, invoke, Sem.run_bind, Sem.run_pure, Result.andThen_ok]
  rw [hf _ (by apply Array.ext'; simp)]
end
end Dec
