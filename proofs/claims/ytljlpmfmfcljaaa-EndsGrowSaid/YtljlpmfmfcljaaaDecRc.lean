/-
Calls of functions that are lent own blocks and may call themselves: a contract over what the blocks hold.
-/
import Derived.Test.YtljlpmfmfcljaaaDecZ
set_option linter.unusedSimpArgs false
set_option linter.unusedVariables false
namespace Dec
open Go Go.RowKit
variable {M : Md → Prop}
abbrev Hp := List (Nat × Path × Con)
abbrev z3 : Int × (Int × Int) := ((0 : Int), ((0 : Int), (0 : Int)))
abbrev t3 : Ty := .pr (.int .i64) (.pr (.int .i64) (.int .i64))
abbrev LL := List (List Int)
abbrev LI := List Int
abbrev Cl.pI (x : Int) : Cl := .p (.int .i64) x
abbrev Cl.pB (x : Bool) : Cl := .p .bool x
abbrev Cl.pS (x : List Int) : Cl := .p (.sl (.int .i64)) x
def Cap.tagsIn (D : List Nat) : Cap → Bool
  | .pt r _ => D.contains r
  | _ => true
def Cl.tagsIn (D : List Nat) : Cl → Bool
  | .own r => D.contains r
  | .vw r _ _ _ => D.contains r
  | .ptr r _ => D.contains r
  | .el r _ _ => D.contains r
  | .elf r _ _ _ => D.contains r
  | .elv r _ _ _ _ => D.contains r
  | .ep r q _ => D.contains r && D.contains q
  | .yv r => D.contains r
  | .cl _ caps => caps.all (·.tagsIn D)
  | _ => true
def V1.tagsIn (D : List Nat) : V1 → Bool
  | .c x => x.tagsIn D
  | .agg cs => cs.all (·.tagsIn D)
def AV.tagsIn (D : List Nat) : AV → Bool
  | .v x => x.tagsIn D
  | .tup xs => xs.all (·.tagsIn D)
def Con.tagsIn (D : List Nat) : Con → Bool
  | .box cs => cs.all (·.tagsIn D)
  | .deep _ _ _ _ fs => fs.isEmpty
  | .lp _ _ sl => sl.all fun e => e.2.tagsIn D
  | .mit x _ _ => x.tagsIn D
  | _ => true
def okHp (D : List Nat) : Hp → Bool
  | [] => true
  | (r, [], c) :: l => D.contains r && c.tagsIn D && okHp D l
  | (_, _ :: _, _) :: _ => false
theorem Cap.tagsIn_has {D : List Nat} {x : Cap} {q : Nat} (h : x.tagsIn D = true) (hq : x.has q = true) : q ∈ D := by
  cases x with
  | pt r o =>
    simp only [Cap.tagsIn, Cap.has, beq_iff_eq, List.contains_iff_mem] at h hq
    subst hq; exact h
  | ad d => simp [Cap.has] at hq
  | no => simp [Cap.has] at hq
theorem Cl.tagsIn_has {D : List Nat} {x : Cl} {q : Nat} (h : x.tagsIn D = true) (hq : x.has q = true) : q ∈ D := by
  cases x with
  | cl f caps =>
    simp only [Cl.tagsIn, Cl.has, List.all_eq_true, List.any_eq_true] at h hq
    obtain ⟨c, hc, h2⟩ := hq
    exact Cap.tagsIn_has (h c hc) h2
  | p t y => simp [Cl.has] at hq
  | ad t y => simp [Cl.has] at hq
  | nils => simp [Cl.has] at hq
  | nilm => simp [Cl.has] at hq
  | fn f c => simp [Cl.has] at hq
  | any => simp [Cl.has] at hq
  | ep r s off =>
    simp only [Cl.tagsIn, Cl.has, Bool.and_eq_true, Bool.or_eq_true, beq_iff_eq, List.contains_iff_mem] at h hq
    rcases hq with rfl | rfl
    · exact h.1
    · exact h.2
  | _ =>
    simp only [Cl.tagsIn, Cl.has, beq_iff_eq, List.contains_iff_mem] at h hq
    subst hq; exact h
theorem V1.tagsIn_has {D : List Nat} {x : V1} {q : Nat} (h : x.tagsIn D = true) (hq : x.has q = true) : q ∈ D := by
  cases x with
  | c x => exact Cl.tagsIn_has h hq
  | agg cs =>
    simp only [V1.has, List.any_eq_true] at hq
    obtain ⟨y, hy, hy2⟩ := hq
    exact Cl.tagsIn_has (List.all_eq_true.1 h y hy) hy2
theorem AV.tagsIn_has {D : List Nat} {x : AV} {q : Nat} (h : x.tagsIn D = true) (hq : x.has q = true) : q ∈ D := by
  cases x with
  | v x => exact V1.tagsIn_has h hq
  | tup xs =>
    simp only [AV.has, List.any_eq_true] at hq
    obtain ⟨y, hy, hy2⟩ := hq
    exact V1.tagsIn_has (List.all_eq_true.1 h y hy) hy2
theorem Con.tagsIn_has {D : List Nat} {c : Con} {q : Nat} (h : c.tagsIn D = true) (hq : c.has q = true) : q ∈ D := by
  cases c with
  | box cs =>
    simp only [Con.tagsIn, Con.has, List.all_eq_true, List.any_eq_true] at h hq
    obtain ⟨x, hx, h2⟩ := hq
    exact Cl.tagsIn_has (h x hx) h2
  | arr e t l => simp [Con.has] at hq
  | vec n t l => simp [Con.has] at hq
  | dict k v l => simp [Con.has] at hq
  | mit x n seen => exact Cl.tagsIn_has h hq
  | lost => simp [Con.has] at hq
  | lp x0 k sl =>
    simp only [Con.has, List.any_eq_true] at hq
    obtain ⟨e, he, hq⟩ := hq
    exact AV.tagsIn_has (List.all_eq_true.1 h e he) hq
  | deep e E t l fs =>
    have he : fs = [] := by simpa [Con.tagsIn] using h
    subst he
    simp [Con.has] at hq
theorem okHp_mem {D : List Nat} : ∀ {hp : Hp} {e : Nat × Path × Con}, okHp D hp = true → e ∈ hp → e.2.1 = [] ∧ e.1 ∈ D ∧ e.2.2.tagsIn D = true
  | [], e, _, h => by simp at h
  | (r, [], c) :: l, e, ho, h => by
    simp only [okHp, Bool.and_eq_true, List.contains_iff_mem] at ho
    rcases List.mem_cons.1 h with rfl | h
    · exact ⟨rfl, ho.1.1, ho.1.2⟩
    · exact okHp_mem ho.2 h
  | (_, _ :: _, _) :: _, e, ho, h => by simp [okHp] at ho
def LCalls (P : Program) (f : FuncId) (D B : List Nat) (hp0 : Hp) (args : List V1) (K : AV → Hp → Prop) : Prop :=
  ∀ (w : World) (G : Ghost) (vs : List Value), (∀ b, G.S b → b < w.heap.size) → (∀ b r, G.col b = some r → b < w.heap.size ∧ ¬ G.S b) → (∀ e ∈ hp0, ConRep w G e.1 e.2.2) → All2 (V1Rep w G) args vs →
    Calls P f vs.toArray w fun en w' => ∃ v G' av hp', en = .returned v ∧ Fr (Xof D G) w.heap.size w w' ∧ (∀ b, G'.S b → b < w'.heap.size ∧ (G.S b ∨ w.heap.size ≤ b ∨ Xof D G b)) ∧
      (∀ b r, G'.col b = some r → (Xof D G b ∨ w.heap.size ≤ b) ∧ b < w'.heap.size ∧ ¬ G'.S b) ∧ (∀ r ∈ B, G'.rho r = G.rho r) ∧ AVRep w' G' av v ∧ okHp D hp' = true ∧ (∀ e ∈ hp', ConRep w' G' e.1 e.2.2) ∧ K av hp'
section
variable {P : Program} {w0 w : World} {S0 : Base} {G : Ghost} {st : St} {a : Act} {ops : Array Oper} {Q : XE → St → Prop}
def moved (D B : List Nat) (r : Nat) : Bool := D.contains r && !B.contains r
def Cap.mvd (D B : List Nat) : Cap → Bool
  | .pt r _ => moved D B r
  | _ => false
def Cl.mvd (D B : List Nat) : Cl → Bool
  | .own r => moved D B r
  | .vw r _ _ _ => moved D B r
  | .ptr r _ => moved D B r
  | .el r _ _ => moved D B r
  | .elf r _ _ _ => moved D B r
  | .elv r _ _ _ _ => moved D B r
  | .ep r q _ => moved D B r || moved D B q
  | .yv r => moved D B r
  | .cl _ caps => caps.any (·.mvd D B)
  | _ => false
def V1.mvd (D B : List Nat) : V1 → Bool
  | .c x => x.mvd D B
  | .agg cs => cs.any (·.mvd D B)
def AV.mvd (D B : List Nat) : AV → Bool
  | .v x => x.mvd D B
  | .tup xs => xs.any (·.mvd D B)
def Con.mvd (D B : List Nat) : Con → Bool
  | .box cs => cs.any (·.mvd D B)
  | .deep _ _ _ _ fs => fs.any fun f => moved D B f.1 || f.2.2.any (·.mvd D B)
  | .lp _ _ sl => sl.any fun e => e.2.mvd D B
  | .mit x _ _ => x.mvd D B
  | _ => false
theorem Cap.mvd_has {D B : List Nat} {x : Cap} (h : x.mvd D B = false) {q : Nat} (hq : x.has q = true) : moved D B q = false := by
  cases x with
  | pt r o => simp only [Cap.mvd, Cap.has, beq_iff_eq] at h hq; subst hq; exact h
  | ad d => simp [Cap.has] at hq
  | no => simp [Cap.has] at hq
theorem Cl.mvd_has {D B : List Nat} {x : Cl} (h : x.mvd D B = false) {q : Nat} (hq : x.has q = true) : moved D B q = false := by
  cases x with
  | cl f caps =>
    simp only [Cl.mvd, Cl.has, List.any_eq_false, List.any_eq_true] at h hq
    obtain ⟨c, hc, h2⟩ := hq
    exact Cap.mvd_has (by simpa using h c hc) h2
  | p t y => simp [Cl.has] at hq
  | ad t y => simp [Cl.has] at hq
  | nils => simp [Cl.has] at hq
  | nilm => simp [Cl.has] at hq
  | fn f c => simp [Cl.has] at hq
  | any => simp [Cl.has] at hq
  | ep r s off =>
    simp only [Cl.mvd, Cl.has, Bool.or_eq_true, Bool.or_eq_false_iff, beq_iff_eq] at h hq
    rcases hq with rfl | rfl
    · exact h.1
    · exact h.2
  | _ =>
    simp only [Cl.mvd, Cl.has, beq_iff_eq] at h hq
    subst hq; exact h
theorem V1.mvd_has {D B : List Nat} {x : V1} (h : x.mvd D B = false) {q : Nat} (hq : x.has q = true) : moved D B q = false := by
  cases x with
  | c x => exact Cl.mvd_has h hq
  | agg cs =>
    simp only [V1.mvd, V1.has, List.any_eq_false, List.any_eq_true] at h hq
    obtain ⟨c, hc, h2⟩ := hq
    exact Cl.mvd_has (by simpa using h c hc) h2
theorem AV.mvd_has {D B : List Nat} {x : AV} (h : x.mvd D B = false) {q : Nat} (hq : x.has q = true) : moved D B q = false := by
  cases x with
  | v x => exact V1.mvd_has h hq
  | tup cs =>
    simp only [AV.mvd, AV.has, List.any_eq_false, List.any_eq_true] at h hq
    obtain ⟨c, hc, h2⟩ := hq
    exact V1.mvd_has (by simpa using h c hc) h2
theorem Con.mvd_has {D B : List Nat} {x : Con} (h : x.mvd D B = false) {q : Nat} (hq : x.has q = true) : moved D B q = false := by
  cases x with
  | box cs =>
    simp only [Con.mvd, Con.has, List.any_eq_false, List.any_eq_true] at h hq
    obtain ⟨c, hc, h2⟩ := hq
    exact Cl.mvd_has (by simpa using h c hc) h2
  | arr e t l => simp [Con.has] at hq
  | vec n t l => simp [Con.has] at hq
  | dict k v l => simp [Con.has] at hq
  | mit x n seen => exact Cl.mvd_has h hq
  | lost => simp [Con.has] at hq
  | lp x0 k sl =>
    simp only [Con.has, List.any_eq_true] at hq
    obtain ⟨e, he, hq⟩ := hq
    simp only [Con.mvd, List.any_eq_false] at h
    exact AV.mvd_has (by simpa using h e he) hq
  | deep e E t l fs =>
    simp only [Con.has, List.any_eq_true, Bool.or_eq_true] at hq
    obtain ⟨f, hf, hq⟩ := hq
    simp only [Con.mvd, List.any_eq_false] at h
    have h := h f hf
    rw [Bool.not_eq_true, Bool.or_eq_false_iff] at h
    rcases hq with e | ⟨c, hc, h2⟩
    · rw [← beq_iff_eq.1 e]; exact h.1
    · exact Cl.mvd_has (by simpa using List.any_eq_false.1 h.2 c hc) h2
def lentSl (D B : List Nat) (d : Nat) : List (Nat × Path × AV) → List (Nat × Path × AV)
  | [] => []
  | (i, [], x) :: r => if i != d && !x.mvd D B then (i, [], x) :: lentSl D B d r else lentSl D B d r
  | (_, _ :: _, _) :: r => lentSl D B d r
def lentHp (D B : List Nat) : Hp → Hp
  | [] => []
  | (i, [], x) :: r => if !D.contains i && !x.mvd D B then (i, [], x) :: lentHp D B r else lentHp D B r
  | (_, _ :: _, _) :: r => lentHp D B r
theorem mem_lentSl {D B : List Nat} {d : Nat} {e : Nat × Path × AV} : ∀ {l : List (Nat × Path × AV)}, e ∈ lentSl D B d l → e ∈ l ∧ e.2.1 = [] ∧ e.1 ≠ d ∧ e.2.2.mvd D B = false
  | [], h => by simp [lentSl] at h
  | (i, [], x) :: r, h => by
    simp only [lentSl] at h
    split at h
    · rename_i hc
      simp only [Bool.and_eq_true, bne_iff_ne, ne_eq, Bool.not_eq_true'] at hc
      rcases List.mem_cons.1 h with rfl | h
      · exact ⟨by simp, rfl, hc.1, hc.2⟩
      · obtain ⟨h1, h2⟩ := mem_lentSl h
        exact ⟨by simp [h1], h2⟩
    · obtain ⟨h1, h2⟩ := mem_lentSl h
      exact ⟨by simp [h1], h2⟩
  | (_, _ :: _, _) :: r, h => by
    simp only [lentSl] at h
    obtain ⟨h1, h2⟩ := mem_lentSl h
    exact ⟨by simp [h1], h2⟩
theorem mem_lentHp {D B : List Nat} {e : Nat × Path × Con} : ∀ {l : Hp}, e ∈ lentHp D B l → e ∈ l ∧ e.2.1 = [] ∧ e.1 ∉ D ∧ e.2.2.mvd D B = false
  | [], h => by simp [lentHp] at h
  | (i, [], x) :: r, h => by
    simp only [lentHp] at h
    split at h
    · rename_i hc
      simp only [Bool.and_eq_true, Bool.not_eq_true', List.contains_eq_mem, decide_eq_false_iff_not] at hc
      rcases List.mem_cons.1 h with rfl | h
      · exact ⟨by simp, rfl, hc.1, hc.2⟩
      · obtain ⟨h1, h2⟩ := mem_lentHp h
        exact ⟨by simp [h1], h2⟩
    · obtain ⟨h1, h2⟩ := mem_lentHp h
      exact ⟨by simp [h1], h2⟩
  | (_, _ :: _, _) :: r, h => by
    simp only [lentHp] at h
    obtain ⟨h1, h2⟩ := mem_lentHp h
    exact ⟨by simp [h1], h2⟩
def St.lentB (st : St) (D B : List Nat) (d : Nat) (av : AV) (hp' : Hp) : St := ⟨st.n, (d, [], av) :: lentSl D B d st.sl, hp' ++ lentHp D B st.hp⟩
theorem SR.lentB {D B : List Nat} {d : Nat} {G' : Ghost} {w' : World} {av : AV} {v : Value} {hp' : Hp} (hs : SR w0 S0 G st a w) (hd : d < st.n)
    (h1 : Fr (Xof D G) w.heap.size w w') (h2 : ∀ b, G'.S b → b < w'.heap.size ∧ (G.S b ∨ w.heap.size ≤ b ∨ Xof D G b)) (h3 : ∀ b r, G'.col b = some r → (Xof D G b ∨ w.heap.size ≤ b) ∧ b < w'.heap.size ∧ ¬ G'.S b)
    (h4 : ∀ r ∈ B, G'.rho r = G.rho r) (hav : AVRep w' G' av v) (hcl : ∀ r, av.has r = true → r ∈ D) (hok : okHp D hp' = true) (hhp : ∀ e ∈ hp', ConRep w' G' e.1 e.2.2) :
    ∃ G2, Mv D G w G2 w' ∧ SR w0 S0 G2 (st.lentB D B d av hp') (a.put (some d) v) w' := by
  have hsz := h1.size
  have hsz0 := hs.below.size
  have hF : ∀ b, Xof D G b → S0.F b ∨ w0.heap.size ≤ b := by
    rintro b ⟨q, _, hq⟩
    exact (hs.colr b q hq).1
  have hXS : ∀ b, Xof D G b → ¬ G.S b := by
    rintro b ⟨q, _, hq⟩
    exact (hs.colr b q hq).2.2
  have hSb : ∀ b, G.S b → w'.heap[b]? = w.heap[b]? := fun b hb => h1.block b (hs.sub b hb).1 (fun hx => hXS b hx hb)
  let G2 : Ghost := { S := fun b => G.S b ∨ G'.S b, col := fun b => match G.col b with | some r => if r ∈ D then (match G'.col b with | some q => if q ∈ D then some q else none | none => none) else some r | none => (match G'.col b with | some q => if q ∈ D then some q else none | none => none), rho := fun r => if r ∈ D then G'.rho r else G.rho r }
  have hold : ∀ b r, G.col b = some r → r ∉ D → G2.col b = some r ∧ w'.heap[b]? = w.heap[b]? := by
    intro b r hb hr
    refine ⟨?_, h1.block b (hs.colr b r hb).2.1 ?_⟩
    · show (match G.col b with | some r => _ | none => _) = _
      rw [hb]
      simp only [if_neg hr]
    · rintro ⟨q, hq, hqb⟩
      rw [hb] at hqb
      injection hqb with hqb
      subst hqb
      exact hr hq
  have hnew : ∀ b r, G'.col b = some r → r ∈ D → G2.col b = some r := by
    intro b r hb hr
    have := (h3 b r hb).1
    show (match G.col b with | some r => _ | none => _) = _
    cases hc : G.col b with
    | none => simp only [hb, if_pos hr]
    | some q =>
      have hq : q ∈ D := by
        rcases this with ⟨q', hq', hq2⟩ | this
        · rw [hc] at hq2; injection hq2 with hq2; subst hq2; exact hq'
        · have := (hs.colr b q hc).2.1; omega
      simp only [if_pos hq, hb, if_pos hr]
  have hcol : ∀ b r, G2.col b = some r → (G.col b = some r ∧ r ∉ D) ∨ (G'.col b = some r ∧ r ∈ D) := by
    intro b r hb
    have hb' : (match G.col b with | some r => if r ∈ D then (match G'.col b with | some q => if q ∈ D then some q else none | none => none) else some r | none => (match G'.col b with | some q => if q ∈ D then some q else none | none => none)) = some r := hb
    have key : (match G'.col b with | some q => if q ∈ D then some q else none | none => none) = some r → G'.col b = some r ∧ r ∈ D := by
      intro hk
      split at hk
      · rename_i q hq
        split at hk
        · rename_i hqd
          injection hk with hk
          subst hk
          exact ⟨hq, hqd⟩
        · cases hk
      · cases hk
    split at hb'
    · rename_i q hq
      split at hb'
      · exact .inr (key hb')
      · rename_i hqd
        injection hb' with hb'
        subst hb'
        exact .inl ⟨hq, hqd⟩
    · exact .inr (key hb')
  have hrho : ∀ r, moved D B r = false → G2.rho r = G.rho r := by
    intro r hr
    show (if r ∈ D then G'.rho r else G.rho r) = _
    by_cases hd : r ∈ D
    · rw [if_pos hd]
      simp only [moved, List.contains_eq_mem, hd, decide_true, Bool.true_and, Bool.not_eq_false', decide_eq_true_eq] at hr
      exact h4 r hr
    · rw [if_neg hd]
  have hSS : ∀ b, G.S b → G2.S b ∧ w'.heap[b]? = w.heap[b]? := fun b hb => ⟨.inl hb, hSb b hb⟩
  refine ⟨G2, ⟨hsz, fun b hb hx => h1.block b hb hx, fun b q hq => ?_⟩, ?_, fun b hb => ?_, fun b r hb => ?_, hs.df.keep hSS rfl, by simpa [Act.put, St.lentB] using hs.size, fun e he => ?_, fun e he hh => ?_⟩
  · rcases hcol b q hq with ⟨k1, _⟩ | ⟨k1, k2⟩
    · exact .inr (.inl k1)
    · rcases (h3 b q k1).1 with ⟨q', hq1, hq2⟩ | hh
      · exact .inr (.inr ⟨q', hq1, hq2⟩)
      · exact .inl hh
  · refine hs.below.trans (h1.mono hsz0 fun k hk hx => ?_)
    rcases hF k hx with h | h
    · exact h
    · omega
  · rcases hb with hb | hb
    · have := hs.sub b hb
      exact ⟨by omega, this.2⟩
    · obtain ⟨k1, k2⟩ := h2 b hb
      refine ⟨k1, ?_⟩
      rcases k2 with k2 | k2 | k2
      · exact (hs.sub b k2).2
      · exact .inr (.inl (by omega))
      · rcases hF b k2 with h | h
        · exact .inr (.inr h)
        · exact .inr (.inl h)
  · rcases hcol b r hb with ⟨k1, k2⟩ | ⟨k1, k2⟩
    · obtain ⟨q1, q2, q3⟩ := hs.colr b r k1
      refine ⟨q1, by omega, ?_⟩
      rintro (hh | hh)
      · exact q3 hh
      · rcases (h2 b hh).2 with hh | hh | ⟨q, hq, hqb⟩
        · exact q3 hh
        · omega
        · rw [k1] at hqb; injection hqb with hqb; subst hqb; exact k2 hq
    · obtain ⟨q1, q2, q3⟩ := h3 b r k1
      refine ⟨?_, q2, ?_⟩
      · rcases q1 with q1 | q1
        · exact hF b q1
        · exact .inr (by omega)
      · rintro (hh | hh)
        · rcases q1 with q1 | q1
          · exact hXS b q1 hh
          · have := (hs.sub b hh).1; omega
        · exact q3 hh
  · simp only [St.lentB, List.mem_cons] at he
    rcases he with rfl | he
    · refine ⟨trivial, fun _ => ?_, fun hn => absurd holds_nil hn⟩
      rw [slotV_put_same (by rw [hs.size]; exact hd)]
      exact AVRep.keep (w := w') (G := G') (fun b hb => ⟨.inr hb, rfl⟩) (fun r hr => by show (if r ∈ D then _ else _) = _; rw [if_pos (hcl r hr)]) hav
    · obtain ⟨k1, k2, k3, k4⟩ := mem_lentSl he
      refine ⟨trivial, fun _ => ?_, fun hn => absurd (by rw [k2]; exact holds_nil) hn⟩
      rw [slotV_put_ne k3]
      exact AVRep.keep hSS (fun r hr => hrho r (AV.mvd_has k4 hr)) ((hs.sl e k1).2.1 (by rw [k2]; exact holds_nil))
  · simp only [St.lentB, List.mem_append] at he
    rcases he with he | he
    · obtain ⟨k1, k2, k3⟩ := okHp_mem hok he
      refine ConRep.keep (w := w') (G := G') (fun b hb => ⟨.inr hb, rfl⟩) ?_ (fun q hq => ?_) (fun b hb => ⟨hnew b _ hb k2, rfl⟩) (hhp e he)
      · show (if e.1 ∈ D then _ else _) = _
        rw [if_pos k2]
      · show (if q ∈ D then _ else _) = _
        rw [if_pos (Con.tagsIn_has k3 hq)]
    · obtain ⟨k1, k2, k3, k4⟩ := mem_lentHp he
      refine ConRep.keep hSS ?_ (fun q hq => hrho q (Con.mvd_has k4 hq)) (fun b hb => hold b _ hb k3) (hs.hp e k1 (by rw [k2]; exact holds_nil))
      show (if e.1 ∈ D then _ else _) = _
      rw [if_neg k3]
theorem awl_lcall {σ : Type} {o : Oper} {rest : List Oper} {c : Call} {d : Nat} {f : FuncId} (D B : List Nat) (l cl : List V1) (A : σ → AV) (H : σ → Hp) (K0 : σ → Prop) (hp0 : Hp) (S : σ → St) (hg : o.guard = none) (hd : o.dst = some d) (hdn : decide (d < st.n) = true)
    (ho : o.op = .call c) (hcal : inlCallee st c = some (f, cl)) (hf : FnOk P f) (hargs : inlArgs st c.args.toList = some l) (hpk : pick st.hp D = hp0) (hok : okHp D hp0 = true)
    (hA : ∀ y r, (A y).has r = false) (hS : ∀ y, st.lentB D B d (A y) (H y) = S y) (hlc : LCalls P f D B hp0 (l ++ cl) (fun av hp' => ∃ y, av = A y ∧ hp' = H y ∧ K0 y))
    (h : ∀ y, K0 y → AWL M P ops rest Q (S y)) : AWL M P ops (o :: rest) Q st := by
  intro m w0 S0 G a w hs
  simp only [decide_eq_true_eq] at hdn
  have hw : Region.wanted o (yielded ops a.tmps) = true := by simp [Region.wanted, hg]
  refine lwp_step fun K hK => ?_
  rw [if_pos hw]
  obtain ⟨vs, hen, hr2⟩ := inl_enter hs ho hcal hf hargs
  refine upon_enter' hen ?_
  refine (hlc w G vs (fun b hb => (hs.sub b hb).1) (fun b r hb => (hs.colr b r hb).2) (fun e he => ?_) hr2).mono ?_
  · obtain ⟨k1, _⟩ := okHp_mem hok he
    have : e ∈ st.hp := by rw [← hpk] at he; exact pick_mem he
    exact hs.hp e this (by rw [k1]; exact holds_nil)
  · rintro e w' ⟨v, G', av, hp', rfl, h1, h2, h3, h4, h5, h6, h7, y, rfl, rfl, hk⟩
    simp only [hd]
    obtain ⟨G2, _, hs2⟩ := hs.lentB (d := d) hdn h1 h2 h3 h4 h5 (fun r hr => by rw [hA y r] at hr; cases hr) h6 h7
    have := h y hk
    rw [← hS y] at this
    exact hK _ _ (this _ _ _ _ _ _ hs2)
end
end Dec
