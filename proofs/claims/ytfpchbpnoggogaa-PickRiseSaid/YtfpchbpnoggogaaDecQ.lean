/-
  bytes.Equal: a string made of bytes, and its equality.
-/
import Derived.Test.YtfpchbpnoggogaaDecP
import Derived.Laws.BytesArg
import Derived.Laws.BytesString
import Derived.Laws.Strings
set_option linter.unusedSimpArgs false
set_option linter.unusedVariables false
namespace Dec
open Go Go.RowKit

section
variable {P : Program} {w : World} {S : Nat → Prop}

theorem enc_string {l : List Int} {v : Value} (h : Enc w S (.sl (.int .u8)) l [v]) {src e dst : TypeId} (hs : P.underlying src = some (.slice e)) (he : P.underlying e = some (.int .u8)) (hd : P.underlying dst = some .string) :
    (convert src dst v).run P w = .ok (.string (strOfNums l)) w := by
  obtain ⟨a, c, e1, hc, hm, hr⟩ := h
  injection e1 with e1 _
  subst e1
  rcases hr with rfl | ⟨b, off, cells, ty, fz, xs, rfl, hS, hb, hx, hj⟩
  · rw [run_convert_bytes_string w src dst e _ _ c hs he hd]
    cases a <;> simp [Conv.bytesToString, loadCells]
    all_goals rfl
  · refine run_convert_bytes_arg w src e hs he b off l.length c l rfl (fun i hi => ?_) dst hd
    obtain ⟨cs, h1, h2⟩ := EncL.get (fun _ _ hh => Enc.length hh) i (l[i]) hx (List.getElem?_eq_getElem hi)
    obtain ⟨rfl, _⟩ := h1
    have h3 := hj _ _ (h2 0 _ rfl)
    simp only [Ty.size, Nat.mul_one, Nat.add_zero] at h3
    simp only [World.cell?, hb]
    simp [h3, List.getD, List.getElem?_eq_getElem hi]

theorem strOfNums_toList (l : List Int) : (strOfNums l).toList = l.map fun n => UInt8.ofNat n.toNat := by
  have key : ∀ (b : ByteArray), b.toList = b.data.toList := by
    intro b
    have loop : ∀ (n i : Nat) (r : List UInt8), b.size - i = n → ByteArray.toList.loop b i r = r.reverse ++ b.data.toList.drop i := by
      intro n
      induction n with
      | zero =>
        intro i r hn
        unfold ByteArray.toList.loop
        rw [if_neg (by omega)]
        have : b.data.toList.length ≤ i := by have : b.data.toList.length = b.size := Array.length_toList
                                              omega
        simp [List.drop_of_length_le this]
      | succ n ih =>
        intro i r hn
        unfold ByteArray.toList.loop
        rw [if_pos (by omega), ih (i + 1) _ (by omega)]
        have hi : i < b.data.toList.length := by have : b.data.toList.length = b.size := Array.length_toList
                                                 omega
        rw [List.drop_eq_getElem_cons hi]
        have hg : b.get! i = b.data.toList[i] := by
          cases b with
          | mk d =>
            have hi' : i < d.size := by simpa using hi
            simp [ByteArray.get!, hi']
        simp [hg]
    have := loop b.size 0 [] (by omega)
    simpa [ByteArray.toList] using this
  rw [key]
  simp [strOfNums]

theorem strOfNums_beq {a b : List Int} (ha : ∀ x ∈ a, 0 ≤ x ∧ x ≤ 255) (hb : ∀ x ∈ b, 0 ≤ x ∧ x ≤ 255) : ((strOfNums a).toList == (strOfNums b).toList) = decide (a = b) := by
  rw [strOfNums_toList, strOfNums_toList]
  have key : ∀ {a b : List Int}, (∀ x ∈ a, 0 ≤ x ∧ x ≤ 255) → (∀ x ∈ b, 0 ≤ x ∧ x ≤ 255) → (a.map fun n => UInt8.ofNat n.toNat) = (b.map fun n => UInt8.ofNat n.toNat) → a = b := by
    intro a
    induction a with
    | nil => intro b _ _ h; cases b with | nil => rfl | cons y b => simp at h
    | cons x a ih =>
      intro b ha hb h
      cases b with
      | nil => simp at h
      | cons y b =>
        simp only [List.map_cons, List.cons.injEq] at h
        have h1 := ha x (by simp)
        have h2 := hb y (by simp)
        have e := congrArg UInt8.toNat h.1
        simp only [UInt8.toNat_ofNat'] at e
        rw [Nat.mod_eq_of_lt (by omega), Nat.mod_eq_of_lt (by omega)] at e
        rw [ih (fun x hx => ha x (by simp [hx])) (fun x hx => hb x (by simp [hx])) h.2, show x = y by omega]
  by_cases h : a = b
  · subst h; simp
  · rw [decide_eq_false h]
    rw [beq_eq_false_iff_ne]
    exact fun e => h (key ha hb e)

theorem enc_bytes {l : List Int} {v : Value} (h : Enc w S (.sl (.int .u8)) l [v]) : ∀ x ∈ l, 0 ≤ x ∧ x ≤ 255 := by
  have := (Enc.ok h).2
  intro x hx
  have h1 := this x hx
  simp only [Ok, IntKind.min, IntKind.max] at h1
  simpa [IntKind.signed, IntKind.bits] using h1
end
end Dec
namespace Dec
open Go Go.RowKit
section
variable {P : Program} {ops : Array Oper} {Q : Exit → Act → World → Prop}

theorem wpl_val {m : Md} {o : Oper} {rest : List Oper} {a : Act} {w : World} (v : Value) {d : Nat} (hg : o.guard = none) (hd : o.dst = some d) (h : (execOp a.eval o).run P w = .ok (.value v) w) (hr : lwp m P ops Q rest (a.put (some d) v) w) : lwp m P ops Q (o :: rest) a w := by
  refine lwp_step fun K hK => ?_
  rw [if_pos (by simp [Region.wanted, hg])]
  refine upon_value' h ?_
  rw [hd]
  exact hK _ _ hr

theorem eval_hit {a : Act} {d : Nat} {v : Value} (h : d < a.tmps.size) : (a.put (some d) v).eval (.tmp d) = v := by
  simp [Act.eval, Act.put, h]

theorem eval_miss {a : Act} {d t : Nat} {v : Value} (h : d ≠ t) : (a.put (some d) v).eval (.tmp t) = a.eval (.tmp t) :=
  Act.eval_put fun d' hd' e => by injection hd' with hd'; injection e with e; subst hd'; exact h e.symm
end
end Dec
