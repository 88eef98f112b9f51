/-
  The plain contract of climb.Read.
-/
import Derived.Test.YtfamoglamihdfaaClimbA
set_option linter.unusedSimpArgs false
set_option linter.unusedVariables false
namespace Dec
open Go

def emitTo (p : Int → Bool) : List Int → List Int → List Int × List Int
  | out, [] => (out, [])
  | out, t :: st => if p t = true then (out, t :: st) else emitTo p (out ++ [t]) st

theorem emitTo_len (p : Int → Bool) : ∀ (st out : List Int), (emitTo p out st).1.length + (emitTo p out st).2.length = out.length + st.length
  | [], out => by simp [emitTo]
  | t :: st, out => by
    simp only [emitTo]
    split
    · simp
    · rw [emitTo_len p st]; simp; omega

theorem emitTo_sub (p : Int → Bool) : ∀ (st out : List Int), ∀ t ∈ (emitTo p out st).2, t ∈ st
  | [], out => by simp [emitTo]
  | t :: st, out => by
    simp only [emitTo]
    split
    · exact fun _ h => h
    · intro x hx
      exact List.mem_cons_of_mem _ (emitTo_sub p st _ x hx)

theorem emitTo_out (p : Int → Bool) : ∀ (st out : List Int), ∀ t ∈ (emitTo p out st).1, t ∈ out ∨ (t ∈ st ∧ p t = false)
  | [], out => by simp [emitTo]
  | t :: st, out => by
    simp only [emitTo]
    split
    · exact fun _ h => .inl h
    · rename_i hp
      intro x hx
      rcases emitTo_out p st _ x hx with h | ⟨h, h2⟩
      · simp only [List.mem_append, List.mem_singleton] at h
        rcases h with h | rfl
        · exact .inl h
        · exact .inr ⟨by simp, by simpa using hp⟩
      · exact .inr ⟨by simp [h], h2⟩

theorem emitTo_stop (p : Int → Bool) : ∀ (st out : List Int) (t : Int) (r : List Int), (emitTo p out st).2 = t :: r → p t = true
  | [], out, t, r, h => by simp [emitTo] at h
  | x :: st, out, t, r, h => by
    simp only [emitTo] at h
    split at h
    · rename_i hp
      simp only [List.cons.injEq] at h
      rw [← h.1]; exact hp
    · exact emitTo_stop p st _ t r h

theorem emit_loop {F : Int → (Bool → Prop) → Prop} {C : List Int → List Int → Prop} (p : Int → Bool) {out st : List Int} (hF : ∀ t ∈ st, ∀ K : Bool → Prop, K (p t) → F t K) (hn : out.length + st.length ≤ 1000) (h : C (emitTo p out st).1 (emitTo p out st).2.reverse) :
    Loop (σ := List Int × List Int) (fun s X => (((decide ((0 : Int) < (s.2.length : Int))) = true → InR ((s.2.length : Int) - (1 : Int))) ∧ ((decide ((0 : Int) < (s.2.length : Int))) = true → inIdx ((s.2.length : Int) - (1 : Int)) s.2.length) ∧ gcall (α := Bool) (decide ((0 : Int) < (s.2.length : Int))) (F (s.2.getD ((((s.2.length : Int) - (1 : Int))).toNat) (0 : Int))) false (fun (ret15v2 : Bool) => ((((decide ((0 : Int) < (s.2.length : Int))) && (!ret15v2)) = true → (InR ((s.2.length : Int) - (1 : Int)) ∧ inIdx ((s.2.length : Int) - (1 : Int)) s.2.length ∧ (roomN (s.1.length + [(s.2.getD ((((s.2.length : Int) - (1 : Int))).toNat) (0 : Int))].length) ∧ (InR ((s.2.length : Int) - (1 : Int)) ∧ (0 ≤ ((s.2.length : Int) - (1 : Int)) ∧ ((s.2.length : Int) - (1 : Int)) ≤ (s.2.length : Int)) ∧ X ((s.1 ++ [(s.2.getD ((((s.2.length : Int) - (1 : Int))).toNat) (0 : Int))]), (s.2.take ((((s.2.length : Int) - (1 : Int))).toNat))))))) ∧ (((decide ((0 : Int) < (s.2.length : Int))) && (!ret15v2)) = false → C s.1 s.2))))) (out, st.reverse) := by
  refine Loop.by (fun s => ∃ o r : List Int, s = (o, r.reverse) ∧ emitTo p o r = emitTo p out st ∧ (∀ t ∈ r, t ∈ st) ∧ o.length + r.length ≤ 1000) (fun s => s.2.length) ⟨out, st, rfl, rfl, fun _ h => h, hn⟩ ?_
  rintro s ⟨o, r, rfl, he, hsub, hlen⟩ X hX
  simp only [List.length_reverse]
  match r, he, hsub, hlen, hX with
  | [], he, hsub, hlen, hX =>
    simp only [emitTo] at he
    rw [← he] at h
    refine ⟨by simp, by simp, gcall_of false (fun hc => (by simp at hc)) ⟨fun hc => (by simp at hc), fun _ => h⟩⟩
  | t :: r, he, hsub, hlen, hX =>
    simp only [List.length_cons] at hlen ⊢
    have e1 : (((r.length + 1 : Nat) : Int) - 1).toNat = r.length := by omega
    have e3 : (t :: r).reverse = r.reverse ++ [t] := by simp
    simp only [e1, e3]
    have g1 : (r.reverse ++ [t]).getD r.length 0 = t := by
      rw [List.getD_eq_getElem?_getD, List.getElem?_append_right (by simp)]
      simp
    rw [g1]
    refine ⟨fun _ => ⟨by omega, by omega⟩, fun _ => ⟨by omega, by omega⟩, gcall_of (p t) (fun _ hk => hF t (hsub t (by simp)) _ hk) ?_⟩
    have hpos : decide ((0 : Int) < ((r.length + 1 : Nat) : Int)) = true := by rw [decide_eq_true_eq]; omega
    simp only [hpos, if_true, Bool.true_and]
    refine ⟨fun hp => ⟨⟨by omega, by omega⟩, ⟨by omega, by omega⟩, ?_, ⟨by omega, by omega⟩, ⟨by omega, by omega⟩, hX _ ⟨o ++ [t], r, ?_, ?_, fun x hx => hsub x (by simp [hx]), by simp; omega⟩ (by simp)⟩, fun hp => ?_⟩
    · unfold roomN; simp; omega
    · rw [List.take_append_of_le_length (by simp), List.take_of_length_le (by simp)]
    · rw [← he]
      simp only [Bool.not_eq_true'] at hp
      simp only [emitTo, hp, Bool.false_eq_true, if_false]
    · simp only [Bool.not_eq_false'] at hp
      simp only [emitTo, hp, if_true] at he
      rw [← he] at h
      simpa using h

abbrev RdS := List Int × List Int × Bool

/-- climb.Read, one sign: what is written, the stack (its top ahead), whether an operand has to come -/
def readStep (ops : Ops) (x : RdS) (s : Int) : Option RdS :=
  if (x.2.2 != (decide (100 ≤ s) || decide (s = -1))) = true then none
  else if 100 ≤ s then some (x.1 ++ [s], x.2.1, false)
  else if s = -1 then some (x.1, s :: x.2.1, x.2.2)
  else if s = -2 then match (emitTo (fun t => decide (t = -1)) x.1 x.2.1).2 with
    | [] => none
    | _ :: st => some ((emitTo (fun t => decide (t = -1)) x.1 x.2.1).1, st, x.2.2)
  else some ((emitTo (fun t => decide (t = -1) || !bef ops t s) x.1 x.2.1).1, s :: (emitTo (fun t => decide (t = -1) || !bef ops t s) x.1 x.2.1).2, true)

def readRun (ops : Ops) : RdS → List Int → Option RdS
  | x, [] => some x
  | x, s :: l => match readStep ops x s with
    | some y => readRun ops y l
    | none => none

def readEnd : Option RdS → List Int × Int
  | some (out, st, false) => if (emitTo (fun t => decide (t = -1)) out st).2 = [] then ((emitTo (fun t => decide (t = -1)) out st).1, 0) else ([], 5)
  | _ => ([], 5)

def readRes (ops : Ops) (l : List Int) : List Int × Int := readEnd (readRun ops ([], [], true) l)

theorem VC32_of {ops : Ops} {l : List Int} {K : List Int × Int → Prop} (hl : l.length ≤ 9223372036854775807) (hbad : ¬ GoodC ops l true → ∀ e, e ≠ 0 → K ([], e)) (h : GoodC ops l true → K (readRes ops l)) : VC32 ops l K := by
  unfold VC32
  refine VC53_of hl (fun hn e he => ⟨fun _ => hbad hn e he, fun hc => ?_⟩) (fun g => ⟨fun hc => (by cases hc), fun _ => ?_⟩)
  · simp only [Bool.not_eq_false', decide_eq_true_eq] at hc
    exact absurd hc he
  have h := h g
  have hm := g.m
  have hopn := g.n
  refine Loop.by (fun s => ∃ (i : Nat) (out st : List Int) (o : Bool), i ≤ l.length ∧ s = (o, (i : Int), out, st.reverse) ∧ readRun ops (out, st, o) (l.drop i) = readRun ops ([], [], true) l ∧ out.length + st.length ≤ i ∧ ∀ t ∈ st, t = -1 ∨ inIdx t ops.length) (fun s => ((l.length : Int) - s.2.1).toNat) ⟨0, [], [], true, by omega, rfl, rfl, by simp, by simp⟩ ?_
  rintro s ⟨i, out, st, o, hi, rfl, hr, hlen, hmem⟩ X hX
  simp only
  unfold VC32_l2
  simp only [Int.toNat_natCast]
  refine ⟨fun hb => ?_, fun hb => ?_⟩
  · simp only [decide_eq_true_eq] at hb
    have hil : i < l.length := by omega
    have hd : l.drop i = l.getD i 0 :: l.drop (i + 1) := by rw [List.drop_eq_getElem_cons hil, getD_lt 0 hil]
    have hsg := g.sg _ (getD_mem (d := 0) hil)
    obtain ⟨s, hs⟩ : ∃ s, l.getD i 0 = s := ⟨_, rfl⟩
    rw [hs] at hd hsg
    simp only [hs]
    refine ⟨⟨by omega, by omega⟩, fun hop => ?_, fun hop => ?_⟩
    · have : readRun ops ([], [], true) l = none := by
        rw [← hr, hd]
        simp only [readRun, readStep, if_pos hop]
      unfold readRes at h
      rw [this] at h
      exact h
    · have hop' : ¬ (o != (decide (100 ≤ s) || decide (s = -1))) = true := by rw [hop]; simp
      refine ⟨fun hv => ?_, fun hv => ⟨fun h1 => ?_, fun h1 => ⟨fun h2 => ?_, fun h2 => ?_⟩⟩⟩
      · simp only [decide_eq_true_eq] at hv
        unfold VC32_k3
        refine ⟨by unfold roomN; simp; omega, ⟨by omega, by omega⟩, hX _ ⟨i + 1, out ++ [s], st, false, by omega, by simp, ?_, by simp; omega, hmem⟩ (by simp only; omega)⟩
        rw [← hr, hd]
        simp only [readRun, readStep, if_neg hop', if_pos hv]
      · simp only [decide_eq_false_iff_not] at hv
        simp only [decide_eq_true_eq] at h1
        unfold VC32_k4 VC32_k3
        refine ⟨by unfold roomN; simp; omega, ⟨by omega, by omega⟩, hX _ ⟨i + 1, out, s :: st, o, by omega, by simp, ?_, by simp; omega, ?_⟩ (by simp only; omega)⟩
        · rw [← hr, hd]
          simp only [readRun, readStep, if_neg hop', if_neg hv, if_pos h1]
        · intro t ht
          rcases List.mem_cons.1 ht with rfl | ht
          · exact .inl h1
          · exact hmem t ht
      · simp only [decide_eq_false_iff_not] at hv h1
        simp only [decide_eq_true_eq] at h2
        refine emit_loop (F := VC60) (C := VC32_k6 _ o _ X) (fun t => decide (t = -1)) (fun t ht K hK => hK) (by omega) ?_
        have hl2 := emitTo_len (fun t => decide (t = -1)) st out
        have hs2 := emitTo_sub (fun t => decide (t = -1)) st out
        have hstep : readRun ops ([], [], true) l = (match (match (emitTo (fun t => decide (t = -1)) out st).2 with
            | [] => none
            | _ :: st' => some ((emitTo (fun t => decide (t = -1)) out st).1, st', o)) with
            | some y => readRun ops y (l.drop (i + 1))
            | none => none) := by
          rw [← hr, hd]
          simp only [readRun, readStep, if_neg hop', if_neg hv, if_neg h1, if_pos h2]
          rfl
        generalize emitTo (fun t => decide (t = -1)) out st = z at hl2 hs2 hstep ⊢
        obtain ⟨o1, s1⟩ := z
        simp only at hl2 hs2 hstep ⊢
        unfold VC32_k6
        simp only [List.length_reverse]
        match s1, hl2, hs2, hstep with
        | [], hl2, hs2, hstep =>
          refine ⟨fun _ => ?_, fun hc => (by simp at hc)⟩
          unfold readRes at h
          rw [hstep] at h
          exact h
        | t :: s1, hl2, hs2, hstep =>
          simp only [List.length_cons] at hl2 ⊢
          refine ⟨fun hc => (by simp at hc; omega), fun _ => ⟨⟨by omega, by omega⟩, ⟨by omega, by omega⟩, ?_⟩⟩
          unfold VC32_k5 VC32_k4 VC32_k3
          refine ⟨⟨by omega, by omega⟩, hX _ ⟨i + 1, o1, s1, o, by omega, ?_, hstep.symm, by omega, fun x hx => hmem x (hs2 x (by simp [hx]))⟩ (by simp only; omega)⟩
          have e1 : (((s1.length + 1 : Nat) : Int) - 1).toNat = s1.length := by omega
          rw [e1, List.reverse_cons, List.take_append_of_le_length (by simp), List.take_of_length_le (by simp)]
          simp
      · simp only [decide_eq_false_iff_not] at hv h1 h2
        have hsI : inIdx s ops.length := by
          simp only [sgOk, Bool.true_and, Bool.or_eq_true, decide_eq_true_eq, Bool.and_eq_true] at hsg
          rcases hsg with (hsg | hsg) | hsg
          · exact absurd hsg hv
          · exact hsg
          · rcases hsg with hsg | hsg
            · exact absurd hsg h1
            · exact absurd hsg h2
        have hl2 := emitTo_len (fun t => decide (t = -1) || !bef ops t s) st out
        have hs2 := emitTo_sub (fun t => decide (t = -1) || !bef ops t s) st out
        refine emit_loop (F := fun t => VC61 t ops (l.getD i 0)) (C := VC32_k7 l _ X) (fun t => decide (t = -1) || !bef ops t s) (fun t ht K hK => ?_) (by omega) ?_
        · rw [hs]
          unfold VC61
          refine gcall_of (bef ops t s) (fun hc hk => VC55_of ?_ hsI hk) ?_
          · simp only [Bool.not_eq_true', decide_eq_false_iff_not] at hc
            exact (hmem t ht).resolve_left hc
          · refine cast (congrArg K ?_) hK
            cases decide (t = -1) <;> simp
        · unfold VC32_k7
          simp only [Int.toNat_natCast, hs]
          unfold VC32_k5 VC32_k4 VC32_k3
          refine ⟨by unfold roomN; simp; omega, ⟨by omega, by omega⟩, hX _ ⟨i + 1, _, s :: (emitTo (fun t => decide (t = -1) || !bef ops t s) out st).2, true, by omega, by simp; rfl, ?_, ?_, ?_⟩ (by simp only; omega)⟩
          · rw [← hr, hd]
            simp only [readRun, readStep, if_neg hop', if_neg hv, if_neg h1, if_neg h2]
          · simp only [List.length_cons]; omega
          · intro t ht
            rcases List.mem_cons.1 ht with rfl | ht
            · exact .inr hsI
            · exact hmem t (hs2 t ht)
  · simp only [decide_eq_false_iff_not] at hb
    have hiN : i = l.length := by omega
    rw [hiN, List.drop_length] at hr
    simp only [readRun] at hr
    unfold readRes at h
    rw [← hr] at h
    unfold VC32_k1
    cases o with
    | true => exact ⟨fun _ => h, fun hc => (by cases hc)⟩
    | false =>
      refine ⟨fun hc => (by cases hc), fun _ => ?_⟩
      refine emit_loop (F := VC62) (C := VC32_k2 _) (fun t => decide (t = -1)) (fun t ht K hK => hK) (by omega) ?_
      simp only [readEnd] at h
      unfold VC32_k2
      simp only [List.length_reverse]
      generalize emitTo (fun t => decide (t = -1)) out st = z at h ⊢
      obtain ⟨o1, s1⟩ := z
      simp only at h ⊢
      match s1, h with
      | [], h => exact ⟨fun hc => (by simp at hc), fun _ => (by simpa using h)⟩
      | t :: s1, h => exact ⟨fun _ => (by simpa using h), fun hc => (by simp only [List.length_cons, decide_eq_false_iff_not] at hc; omega)⟩

end Dec
