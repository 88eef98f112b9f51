/-
  bytes.Compare, in plain words.
-/
import Derived.Test.YtfamoglamihdfaaDecSo
import Derived.Lib.Bytealg
import Derived.Laws.Externs
set_option linter.unusedSimpArgs false
set_option linter.unusedVariables false
namespace Dec
open Go Go.RowKit Go.Proofs

/-- the order of words -/
def cmpI : List Int → List Int → Int
  | [], [] => 0
  | [], _ :: _ => -1
  | _ :: _, [] => 1
  | a :: l, b :: m => if a < b then -1 else if b < a then 1 else cmpI l m

def byteOf (n : Int) : UInt8 := n.toNat.toUInt8

theorem byteOf_lt {a b : Int} (ha : 0 ≤ a ∧ a ≤ 255) (hb : 0 ≤ b ∧ b ≤ 255) : byteOf a < byteOf b ↔ a < b := by
  unfold byteOf
  rw [UInt8.lt_iff_toNat_lt]
  simp only [Nat.toUInt8_eq, UInt8.toNat_ofNat']
  omega

theorem cmp_bytes : ∀ (l m : List Int), (∀ x ∈ l, 0 ≤ x ∧ x ≤ 255) → (∀ x ∈ m, 0 ≤ x ∧ x ≤ 255) → Lib.compareBytes (l.map byteOf) (m.map byteOf) = cmpI l m
  | [], [], _, _ => rfl
  | [], _ :: _, _, _ => rfl
  | _ :: _, [], _, _ => rfl
  | a :: l, b :: m, h1, h2 => by
    have ih := cmp_bytes l m (fun x hx => h1 x (by simp [hx])) (fun x hx => h2 x (by simp [hx]))
    have ha := h1 a (by simp)
    have hb := h2 b (by simp)
    simp only [List.map_cons, Lib.compareBytes, cmpI, byteOf_lt ha hb, byteOf_lt hb ha, ih]

theorem run_loadBytes {P : Program} {w : World} : ∀ (l : List Int) (b off : Nat) (acc : ByteArray), (∀ j x, l[j]? = some x → w.cell? ⟨b, off + j, none⟩ = some (.int .u8 x)) →
    (Extern.Bytes.loadBytes ⟨b, off, none⟩ l.length acc).run P w = .ok ⟨acc.data ++ (l.map byteOf).toArray⟩ w
  | [], b, off, acc, _ => by simp [Extern.Bytes.loadBytes]
  | x :: l, b, off, acc, h => by
    have h0 := h 0 x rfl
    have ih := run_loadBytes (P := P) (w := w) l b (off + 1) (acc.push (byteOf x)) (fun j y hy => by rw [Nat.add_right_comm, Nat.add_assoc]; exact h (j + 1) y hy)
    rw [Nat.add_zero] at h0
    unfold Extern.Bytes.loadBytes
    simp only [List.length_cons, Sem.run_bind, run_load, h0, Result.andThen]
    have e1 : (⟨b, off, none⟩ : Addr).add 1 = ⟨b, off + 1, none⟩ := rfl
    rw [e1]
    have e2 : x.toNat.toUInt8 = byteOf x := rfl
    rw [e2, ih]
    simp [ByteArray.push]

theorem run_bytesOf {P : Program} {w : World} {S : Nat → Prop} {l : List Int} {v : Value} (h : Enc w S (.sl (.int .u8)) l [v]) : (Extern.Bytes.bytesOf v).run P w = .ok ⟨(l.map byteOf).toArray⟩ w := by
  obtain ⟨a, c, e, h1, h2, h3⟩ := h
  simp only [List.cons.injEq, and_true] at e
  subst e
  rcases h3 with rfl | ⟨b, off, cells, ty, fz, xs, rfl, _, hb, hE, hj⟩
  · cases a with
    | none => simp [Extern.Bytes.bytesOf, Sem.run_pure]; rfl
    | some a => simp [Extern.Bytes.bytesOf, Extern.Bytes.loadBytes]; rfl
  · have hx : ∀ j x, l[j]? = some x → w.cell? ⟨b, off + j, none⟩ = some (.int .u8 x) := by
      intro j x hx
      obtain ⟨cs, he, hg⟩ := EncL.get (n := 1) (fun x c hh => by rw [hh.1]; rfl) j x hE hx
      have h4 := hg 0 (.int .u8 x) (by rw [he.1]; rfl)
      rw [Nat.mul_one, Nat.add_zero] at h4
      have h5 := hj _ _ h4
      rw [cells_cell hb]; exact h5
    simp only [Extern.Bytes.bytesOf]
    rw [run_loadBytes l b off _ hx]
    simp [ByteArray.empty, ByteArray.emptyWithCapacity]; rfl

theorem run_compare {P : Program} {w : World} {S : Nat → Prop} {l m : List Int} {v u : Value} (h1 : Enc w S (.sl (.int .u8)) l [v]) (h2 : Enc w S (.sl (.int .u8)) m [u]) :
    (Extern.BytealgCompare.compare #[v, u]).run P w = .ok (.int .i64 (cmpI l m)) w := by
  change Sem.run P (do pure (goInt (Extern.BytealgCompare.cmp (← Extern.Bytes.bytesOf v) (← Extern.Bytes.bytesOf u)))) w = _
  simp only [Sem.run_bind, run_bytesOf h1, run_bytesOf h2, Sem.run_pure, Result.andThen]
  rw [Lib.cmp_eq]
  have o1 := (Enc.ok h1).2
  have o2 := (Enc.ok h2).2
  have r : ∀ {l : List Int}, (∀ x ∈ l, Ok (.int .u8) x) → ∀ x ∈ l, 0 ≤ x ∧ x ≤ 255 := fun h x hx => by
    have := h x hx
    simpa [Ok, IntKind.min, IntKind.max, IntKind.bits, IntKind.signed] using this
  have := cmp_bytes l m (r o1) (r o2)
  simp only
  rw [this]
  rfl
end Dec
