/-
  'NetSure' in plain Lean: the sets that are reached are the states.
-/
import Derived.Test.YtfigkkmiallghaaNetA
set_option linter.unusedSimpArgs false
set_option linter.unusedVariables false
namespace Dec
open Go Go.Proofs

theorem getD_snocI {l : List Int} {x : Int} {u : Nat} : (l ++ [x]).getD u 0 = if u < l.length then l.getD u 0 else if u = l.length then x else 0 := by
  simp only [List.getD]
  by_cases h : u < l.length
  · rw [if_pos h, List.getElem?_append_left h]
  · rw [if_neg h, List.getElem?_append_right (by omega)]
    by_cases e : u = l.length
    · rw [if_pos e, e, Nat.sub_self]; rfl
    · rw [if_neg e, List.getElem?_eq_none (by simp; omega)]; rfl

theorem getD_snocR {l : List (List Int)} {x : List Int} {u : Nat} : (l ++ [x]).getD u [] = if u < l.length then l.getD u [] else if u = l.length then x else [] := by
  simp only [List.getD]
  by_cases h : u < l.length
  · rw [if_pos h, List.getElem?_append_left h]
  · rw [if_neg h, List.getElem?_append_right (by omega)]
    by_cases e : u = l.length
    · rw [if_pos e, e, Nat.sub_self]; rfl
    · rw [if_neg e, List.getElem?_eq_none (by simp; omega)]; rfl

/-- a step depends on the set alone -/
theorem isRun_step {n : Net} {S x r s : Int} {u u' : List Int} (h : IsRun n S u x) (h' : IsRun n S u' x) (hr : IsRun n S (u ++ [s]) r) : IsRun n S (u' ++ [s]) r := by
  have key : ∀ v, IsRun n S v x → ∀ q, (∃ p, bt S p = true ∧ NP n p (v ++ [s]) q) ↔ ∃ m, bt x m = true ∧ NP n m [s] q := by
    intro v hv q
    constructor
    · rintro ⟨p, h1, h2⟩
      obtain ⟨m, h3, a, ha, hs, h0, hm, h4⟩ := h2.split rfl
      exact ⟨m, (hv.2 m).2 ⟨p, h1, h3⟩, .sym a ha hs h0 hm h4⟩
    · rintro ⟨m, h1, h2⟩
      obtain ⟨p, h3, h4⟩ := (hv.2 m).1 h1
      exact ⟨p, h3, h4.append h2⟩
  refine ⟨hr.1, fun q => ?_⟩
  rw [hr.2 q, key u h q, key u' h' q]

structure SInv (n : Net) (i : Nat) (out : Int) (sets : List Int) (rows : List (List Int)) : Prop where
  runs : ∀ x ∈ sets, ∃ u : List Int, (∀ s ∈ u, 0 ≤ s ∧ s < n.2.1) ∧ IsRun n n.2.2.2.1 u x
  pos : 0 < sets.length
  first : IsRun n n.2.2.2.1 [] (sets.getD 0 0)
  lenR : rows.length = i
  lenS : i ≤ sets.length
  row : ∀ j, j < i → ((rows.getD j []).length : Int) = n.2.1 ∧ ∀ s : Nat, (s : Int) < n.2.1 → ∃ t : Nat, (rows.getD j []).getD s 0 = (t : Int) ∧ t < sets.length ∧ ∀ u, IsRun n n.2.2.2.1 u (sets.getD j 0) → IsRun n n.2.2.2.1 (u ++ [(s : Int)]) (sets.getD t 0)
  u32 : U32 out
  bit : ∀ j, bt out j = (decide (j < i) && !decide (bAnd .u32 (sets.getD j 0) n.2.2.2.2 = 0))

theorem VC24_of {n : Net} (hu : NU n) {K : Mach × Int → Prop} (hbad : ∀ e, e ≠ 0 → ¬ GoodN n → K (((0 : Int), ((0 : Int), (([] : (List (List Int))), ((0 : Int), (0 : Int))))), e))
    (hmany : GoodN n → K (((0 : Int), ((0 : Int), (([] : (List (List Int))), ((0 : Int), (0 : Int))))), 1))
    (h : GoodN n → ∀ out sets rows, sets.length ≤ 7 → SInv n sets.length out sets rows → K (((sets.length : Int), (n.2.1, (rows, ((0 : Int), out)))), 0)) : VC24 n K := by
  unfold VC24
  refine VC44_of hu ⟨fun hc => hbad _ (by simpa using hc) fun hg => ?_, fun hc => ?_⟩
  · rw [(chkN_zero n).2 hg] at hc; simp at hc
  have g := (chkN_zero n).1 (by simpa using hc)
  have hmany := hmany g
  have h := h g
  obtain ⟨⟨a1, a2, a3, a4, a5⟩, b, c⟩ := id g
  obtain ⟨k, hk⟩ : ∃ k : Nat, n.2.1 = (k : Int) := ⟨n.2.1.toNat, by omega⟩
  refine VC45_of b a5 a2 hu.1 fun r0 hr0 => ?_
  refine Loop.by (fun z : Int × Int × List Int × List (List Int) => ∃ i : Nat, z.1 = (i : Int) ∧ z.2.2.1.length ≤ 7 ∧ SInv n i z.2.1 z.2.2.1 z.2.2.2) (fun z => (8 - z.1).toNat) ⟨0, rfl, by simp, fun x hx => ?_, by simp, by simpa using hr0, rfl, by omega, by intro j hj; omega, u32_zero, by intro j; simp [bt_zero]⟩ ?_
  · rw [List.mem_singleton.1 hx]
    exact ⟨[], by simp, hr0⟩
  rintro ⟨i', out, sets, rows⟩ ⟨i, e, hl7, hI⟩ X hX
  dsimp only at e hl7 hI
  subst e
  have hlenS := hI.lenS
  unfold VC24_l1
  dsimp only
  refine ⟨fun hb => ⟨⟨by omega, by omega⟩, ?_⟩, fun hb => ?_⟩
  · simp only [decide_eq_true_eq] at hb
    have hil : i < sets.length := by omega
    have ek : n.2.1.toNat = k := by omega
    rw [ek]
    refine Loop.by (fun z : Int × List Int × List Int => ∃ s : Nat, z.1 = (s : Int) ∧ s ≤ k ∧ (∃ l, z.2.1 = sets ++ l) ∧ z.2.1.length ≤ 7 + s ∧ (∀ x ∈ z.2.1, ∃ u : List Int, (∀ s ∈ u, 0 ≤ s ∧ s < n.2.1) ∧ IsRun n n.2.2.2.1 u x) ∧ z.2.2.length = k ∧ ∀ c, c < s → ∃ t : Nat, z.2.2.getD c 0 = (t : Int) ∧ t < z.2.1.length ∧ ∀ u, IsRun n n.2.2.2.1 u (sets.getD i 0) → IsRun n n.2.2.2.1 (u ++ [(c : Int)]) (z.2.1.getD t 0)) (fun z => ((k : Int) - z.1).toNat) ⟨0, rfl, by omega, ⟨[], by simp⟩, by dsimp only; omega, hI.runs, by simp, by intro c hc; omega⟩ ?_
    rintro ⟨s', sets2, row⟩ ⟨s, e, hsk, ⟨l, hl⟩, hlen2, hruns, hrl, hrow⟩ Y hY
    dsimp only at e hl hlen2 hruns hrl hrow
    subst e
    have hgs : ∀ j, j < sets.length → sets2.getD j 0 = sets.getD j 0 := by
      intro j hj
      rw [hl]
      simp only [List.getD, List.getElem?_append_left hj]
    have hls : sets.length ≤ sets2.length := by rw [hl, List.length_append]; omega
    unfold VC24_l2
    dsimp only
    simp only [List.length_replicate]
    refine ⟨fun hc => ?_, fun hc => ?_⟩
    · simp only [decide_eq_true_eq] at hc
      simp only [Int.toNat_natCast]
      have hsk' : s < k := by omega
      have hcur := hgs i hil
      obtain ⟨u0, hu0, hru0⟩ := hI.runs _ (getD_mem (d := (0 : Int)) hil)
      rw [hcur]
      -- the next state, once the set's place is known
      have fin : ∀ (t : Nat) (sets3 : List Int), (∃ l, sets3 = sets2 ++ l) → t < sets3.length → (∀ x ∈ sets3, ∃ u : List Int, (∀ s ∈ u, 0 ≤ s ∧ s < n.2.1) ∧ IsRun n n.2.2.2.1 u x) → sets3.length ≤ 7 + s + 1 → (∀ u, IsRun n n.2.2.2.1 u (sets.getD i 0) → IsRun n n.2.2.2.1 (u ++ [(s : Int)]) (sets3.getD t 0)) → (InR ((s : Int) + (1 : Int)) ∧ Y (((s : Int) + (1 : Int)), sets3, (row.set s (t : Int)))) := by
        rintro t sets3 ⟨l3, hl3⟩ ht hr3 hn3 hstep
        refine ⟨⟨by omega, by omega⟩, hY _ ⟨s + 1, by simp, by omega, ⟨l ++ l3, by rw [hl3, hl]; simp⟩, by dsimp only; omega, hr3, by dsimp only; rw [List.length_set]; exact hrl, fun c hc2 => ?_⟩ (by dsimp only; omega)⟩
        dsimp only
        by_cases ec : c = s
        · subst ec
          refine ⟨t, ?_, ht, hstep⟩
          rw [getD_lt _ (by rw [List.length_set]; omega), List.getElem_set_self]
        · obtain ⟨t2, h1, h2, h3⟩ := hrow c (by omega)
          refine ⟨t2, ?_, by rw [hl3, List.length_append]; omega, fun u hru => ?_⟩
          · rw [getD_lt _ (by rw [List.length_set]; omega), List.getElem_set_ne (by omega), ← getD_lt (0 : Int) (by omega)]
            exact h1
          · have e3 : sets3.getD t2 0 = sets2.getD t2 0 := by
              rw [hl3]
              simp only [List.getD, List.getElem?_append_left h2]
            rw [e3]
            exact h3 u hru
      have go : ∀ r, IsRun n n.2.2.2.1 (u0 ++ [(s : Int)]) r → ∀ u, IsRun n n.2.2.2.1 u (sets.getD i 0) → IsRun n n.2.2.2.1 (u ++ [(s : Int)]) r := fun r hr u hru => isRun_step hru0 hru hr
      refine ⟨⟨⟨by omega, by omega⟩, VC46_of b a5 a2 (by omega) hru0 fun r hr1 => ?_⟩, ⟨by omega, by omega⟩, VC46_of b a5 a2 (by omega) hru0 fun r hr1 => ?_, VC46_of b a5 a2 (by omega) hru0 fun r hr1 => ?_⟩
      · have hr := go r hr1
        refine loop_count sets2.length (fun v => ∀ j, j < v → sets2.getD j 0 ≠ r) (by intro j hj; omega) ?_
        intro v hv hP X3 hX3
        unfold VC24_l3 VC24_k6 VC24_k5 VC24_k4
        refine ⟨fun hc => ?_, fun hc => ?_⟩
        · simp only [decide_eq_true_eq] at hc
          simp only [Int.toNat_natCast]
          refine ⟨⟨by omega, by omega⟩, fun he => ?_, fun he => ⟨⟨by omega, by omega⟩, hX3 (by omega) fun j hj => ?_⟩⟩
          · simp only [decide_eq_true_eq] at he
            exact ⟨⟨by omega, by omega⟩, fin v sets2 ⟨[], by simp⟩ (by omega) hruns (by omega) (by rw [he]; exact hr)⟩
          · simp only [decide_eq_false_iff_not] at he
            by_cases ej : j < v
            · exact hP j ej
            · have : j = v := by omega
              subst this; exact he
        · have el : (((sets2 ++ [r]).length : Int) - (1 : Int)) = ((sets2.length : Nat) : Int) := by simp only [List.length_append, List.length_singleton]; omega
          rw [el]
          simp only [Int.toNat_natCast]
          refine ⟨by simp only [roomN, List.length_singleton]; omega, ⟨by omega, by omega⟩, ⟨by omega, by omega⟩, fin sets2.length (sets2 ++ [r]) ⟨[r], rfl⟩ (by simp only [List.length_append, List.length_singleton]; omega) (fun x hx => ?_) (by simp only [List.length_append, List.length_singleton]; omega) (by rw [getD_snocI, if_neg (by omega), if_pos rfl]; exact hr)⟩
          rcases List.mem_append.1 hx with hx | hx
          · exact hruns x hx
          · rw [List.mem_singleton.1 hx]
            exact ⟨u0 ++ [(s : Int)], fun y hy => by
              rcases List.mem_append.1 hy with hy | hy
              · exact hu0 y hy
              · rw [List.mem_singleton.1 hy]; omega, hr u0 hru0⟩
      · have hr := go r hr1
        refine loop_count sets2.length (fun v => ∀ j, j < v → sets2.getD j 0 ≠ r) (by intro j hj; omega) ?_
        intro v hv hP X3 hX3
        unfold VC24_l4 VC24_k8 VC24_k7 VC24_k4
        refine ⟨fun hc => ?_, fun hc => ?_⟩
        · simp only [decide_eq_true_eq] at hc
          simp only [Int.toNat_natCast]
          refine ⟨⟨by omega, by omega⟩, fun he => ?_, fun he => ⟨⟨by omega, by omega⟩, hX3 (by omega) fun j hj => ?_⟩⟩
          · simp only [decide_eq_true_eq] at he
            exact ⟨⟨by omega, by omega⟩, fin v sets2 ⟨[], by simp⟩ (by omega) hruns (by omega) (by rw [he]; exact hr)⟩
          · simp only [decide_eq_false_iff_not] at he
            by_cases ej : j < v
            · exact hP j ej
            · have : j = v := by omega
              subst this; exact he
        · have el : (((sets2 ++ [r]).length : Int) - (1 : Int)) = ((sets2.length : Nat) : Int) := by simp only [List.length_append, List.length_singleton]; omega
          rw [el]
          simp only [Int.toNat_natCast]
          refine ⟨by simp only [roomN, List.length_singleton]; omega, ⟨by omega, by omega⟩, ⟨by omega, by omega⟩, fin sets2.length (sets2 ++ [r]) ⟨[r], rfl⟩ (by simp only [List.length_append, List.length_singleton]; omega) (fun x hx => ?_) (by simp only [List.length_append, List.length_singleton]; omega) (by rw [getD_snocI, if_neg (by omega), if_pos rfl]; exact hr)⟩
          rcases List.mem_append.1 hx with hx | hx
          · exact hruns x hx
          · rw [List.mem_singleton.1 hx]
            exact ⟨u0 ++ [(s : Int)], fun y hy => by
              rcases List.mem_append.1 hy with hy | hy
              · exact hu0 y hy
              · rw [List.mem_singleton.1 hy]; omega, hr u0 hru0⟩
      · have hr := go r hr1
        refine loop_count sets2.length (fun v => ∀ j, j < v → sets2.getD j 0 ≠ r) (by intro j hj; omega) ?_
        intro v hv hP X3 hX3
        unfold VC24_l5 VC24_k10 VC24_k9 VC24_k4
        refine ⟨fun hc => ?_, fun hc => ?_⟩
        · simp only [decide_eq_true_eq] at hc
          simp only [Int.toNat_natCast]
          refine ⟨⟨by omega, by omega⟩, fun he => ?_, fun he => ⟨⟨by omega, by omega⟩, hX3 (by omega) fun j hj => ?_⟩⟩
          · simp only [decide_eq_true_eq] at he
            exact ⟨⟨by omega, by omega⟩, fin v sets2 ⟨[], by simp⟩ (by omega) hruns (by omega) (by rw [he]; exact hr)⟩
          · simp only [decide_eq_false_iff_not] at he
            by_cases ej : j < v
            · exact hP j ej
            · have : j = v := by omega
              subst this; exact he
        · have el : (((sets2 ++ [r]).length : Int) - (1 : Int)) = ((sets2.length : Nat) : Int) := by simp only [List.length_append, List.length_singleton]; omega
          rw [el]
          simp only [Int.toNat_natCast]
          refine ⟨by simp only [roomN, List.length_singleton]; omega, ⟨by omega, by omega⟩, ⟨by omega, by omega⟩, fin sets2.length (sets2 ++ [r]) ⟨[r], rfl⟩ (by simp only [List.length_append, List.length_singleton]; omega) (fun x hx => ?_) (by simp only [List.length_append, List.length_singleton]; omega) (by rw [getD_snocI, if_neg (by omega), if_pos rfl]; exact hr)⟩
          rcases List.mem_append.1 hx with hx | hx
          · exact hruns x hx
          · rw [List.mem_singleton.1 hx]
            exact ⟨u0 ++ [(s : Int)], fun y hy => by
              rcases List.mem_append.1 hy with hy | hy
              · exact hu0 y hy
              · rw [List.mem_singleton.1 hy]; omega, hr u0 hru0⟩
    · simp only [decide_eq_false_iff_not] at hc
      have : s = k := by omega
      subst this
      unfold VC24_k2
      refine ⟨fun _ => hmany, fun h7 => ?_⟩
      simp only [decide_eq_false_iff_not] at h7
      simp only [Int.toNat_natCast]
      have hlr := hI.lenR
      have base : ∀ out2, U32 out2 → (∀ j, bt out2 j = (decide (j < i + 1) && !decide (bAnd .u32 (sets2.getD j 0) n.2.2.2.2 = 0))) → VC24_k3 (i : Int) rows X sets2 row out2 := by
        intro out2 hu2 hbit
        unfold VC24_k3
        refine ⟨⟨by omega, by omega⟩, hX _ ⟨i + 1, by simp, by dsimp only; omega, hruns, by dsimp only; omega, ?_, by simp [hlr], by dsimp only; omega, fun j hj => ?_, hu2, hbit⟩ (by dsimp only; omega)⟩
        · dsimp only
          rw [hgs 0 hI.pos]
          exact hI.first
        · dsimp only
          rw [getD_snocR, hlr]
          by_cases ej : j < i
          · rw [if_pos ej, hgs j (by omega)]
            obtain ⟨h1, h2⟩ := hI.row j ej
            refine ⟨h1, fun s hs => ?_⟩
            obtain ⟨t, h3, h4, h5⟩ := h2 s hs
            refine ⟨t, h3, by omega, fun u hru => ?_⟩
            rw [hgs t h4]
            exact h5 u hru
          · have : j = i := by omega
            subst this
            rw [if_neg ej, if_pos rfl, hgs j hil]
            exact ⟨by omega, fun s hs => hrow s (by omega)⟩
      have hbo : ∀ j, j ≠ i → bt out j = (decide (j < i + 1) && !decide (bAnd .u32 (sets2.getD j 0) n.2.2.2.2 = 0)) := by
        intro j hj
        rw [hI.bit j]
        by_cases h1 : j < i
        · rw [hgs j (by omega), decide_eq_true h1, decide_eq_true (show j < i + 1 by omega)]
        · rw [decide_eq_false h1, decide_eq_false (show ¬ j < i + 1 by omega)]; rfl
      have hbi : bt out i = false := by rw [hI.bit i]; simp
      refine ⟨by simp only [roomN, List.length_singleton]; omega, ⟨by omega, by omega⟩, fun hf => ⟨by omega, base _ (u32_or hI.u32 (u32_shl1 _)) fun j => ?_⟩, fun hf => base _ hI.u32 fun j => ?_⟩
      · rw [bt_or hI.u32 (u32_shl1 _), bt_shl1 (by omega)]
        by_cases ej : j = i
        · subst ej
          simp only [Bool.not_eq_true', decide_eq_false_iff_not] at hf
          rw [hbi, decide_eq_true rfl, decide_eq_true (show j < j + 1 by omega), decide_eq_false hf]; rfl
        · have e1 : decide (i = j) = false := decide_eq_false (fun e => ej e.symm)
          rw [hbo j ej, e1, Bool.or_false]
      · by_cases ej : j = i
        · subst ej
          simp only [Bool.not_eq_false', decide_eq_true_eq] at hf
          rw [hbi, decide_eq_true hf]; simp
        · exact hbo j ej
  · simp only [decide_eq_false_iff_not] at hb
    have : i = sets.length := by omega
    subst this
    unfold VC24_k1
    exact h out sets rows hl7 hI

abbrev mkM (n : Net) (out : Int) (sets : List Int) (rows : List (List Int)) : Mach := ((sets.length : Int), (n.2.1, (rows, ((0 : Int), out))))

theorem mk_good {n : Net} (g : GoodN n) {out : Int} {sets : List Int} {rows : List (List Int)} (hl : sets.length ≤ 7) (h : SInv n sets.length out sets rows) : GoodM (mkM n out sets rows) := by
  obtain ⟨⟨a1, a2, a3, a4, a5⟩, b, c⟩ := id g
  have hp := h.pos
  have hlr := h.lenR
  refine ⟨⟨by show (1 : Int) ≤ (sets.length : Int); omega, by show (sets.length : Int) ≤ 7; omega, a3, a4⟩, ⟨by show (rows.length : Int) = (sets.length : Int); omega, ?_⟩, ?_, ⟨Int.le_refl _, by show (0 : Int) < (sets.length : Int); omega⟩, ?_⟩
  · intro l hm
    obtain ⟨j, hj, e⟩ := List.mem_iff_getElem.1 hm
    have := (h.row j (by rw [← hlr]; exact hj)).1
    rw [getD_lt _ hj, e] at this
    exact this
  · intro l hm x hx
    obtain ⟨j, hj, e⟩ := List.mem_iff_getElem.1 hm
    obtain ⟨h1, h2⟩ := h.row j (by rw [← hlr]; exact hj)
    rw [getD_lt _ hj, e] at h1 h2
    obtain ⟨s, hs, e2⟩ := List.mem_iff_getElem.1 hx
    obtain ⟨t, h3, h4, _⟩ := h2 s (by omega)
    rw [getD_lt _ hs, e2] at h3
    show 0 ≤ x ∧ x < (sets.length : Int)
    omega
  · show out < ((2 ^ ((sets.length : Int)).toNat : Nat) : Int)
    rw [Int.toNat_natCast, below_bt h.u32]
    intro j hj
    rw [h.bit]
    have : ¬ j < sets.length := by omega
    simp [this]

theorem mk_run {n : Net} {out : Int} {sets : List Int} {rows : List (List Int)} (h : SInv n sets.length out sets rows) : ∀ (w u : List Int) (t0 : Nat), t0 < sets.length → IsRun n n.2.2.2.1 u (sets.getD t0 0) → (∀ s ∈ w, 0 ≤ s ∧ s < n.2.1) → ∃ t : Nat, t < sets.length ∧ runM (mkM n out sets rows) (t0 : Int) w = (t : Int) ∧ IsRun n n.2.2.2.1 (u ++ w) (sets.getD t 0)
  | [], u, t0, ht, hr, _ => ⟨t0, ht, rfl, by simpa using hr⟩
  | s :: w, u, t0, ht, hr, hw => by
    have hs := hw s (by simp)
    obtain ⟨h1, h2⟩ := h.row t0 ht
    obtain ⟨t1, h3, h4, h5⟩ := h2 s.toNat (by omega)
    have e : ((s.toNat : Nat) : Int) = s := by omega
    rw [e] at h5
    obtain ⟨t, h6, h7, h8⟩ := mk_run h w (u ++ [s]) t1 h4 (h5 u hr) (fun x hx => hw x (by simp [hx]))
    refine ⟨t, h6, ?_, by simpa using h8⟩
    rw [← h7, ← h3]
    show runM _ (nextM (mkM n out sets rows) (t0 : Int) s) w = _
    unfold nextM
    rw [Int.toNat_natCast]

end Dec
