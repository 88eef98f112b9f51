/-
  'KindsStill' in plain Lean.
-/
import Derived.Test.YtfigkkmiallghaaGenYd
import Derived.Test.YtfigkkmiallghaaStillA
set_option linter.unusedSimpArgs false
set_option linter.unusedVariables false
namespace Dec
open Go Go.Proofs

theorem VC75_of {x a : List Int} (hx : x.length = 7) (ha : a.length = 7) {K : Bool → Prop} (h : K (decide (a = x))) : VC75 x a K := by
  unfold VC75
  rw [seven_id hx, seven_id hx, seven_id ha]
  exact h

theorem VC76_of {s : List (List Int)} {a : List Int} (hs : ∀ x ∈ s, x.length = 7) (ha : a.length = 7) (hl : s.length ≤ 1000) {K : Int → Prop} (h1 : a ∈ s → ∀ r, 0 ≤ r → K r) (h0 : a ∉ s → K (-1)) : VC76 s (fun (x : (List Int)) (K : Bool → Prop) => VC75 x a K) K := by
  unfold VC76
  refine loop_count s.length (fun i => ∀ j, j < i → s.getD j (List.replicate 7 0) ≠ a) (by intro j hj; omega) ?_
  intro i hi hP X hX
  unfold VC76_l1 VC76_k1
  refine ⟨fun hb => ?_, fun hb => ?_⟩
  · simp only [decide_eq_true_eq] at hb
    have hm : s.getD i (List.replicate 7 0) ∈ s := getD_mem (by omega)
    simp only [Int.toNat_natCast]
    rw [seven_id (hs _ hm)]
    refine ⟨⟨by omega, by omega⟩, VC75_of (hs _ hm) ha ⟨fun ht => ?_, fun hf => ⟨⟨by omega, by omega⟩, hX (by omega) fun j hj => ?_⟩⟩⟩
    · simp only [decide_eq_true_eq] at ht
      rw [← ht] at hm
      exact h1 hm _ (by omega)
    · simp only [decide_eq_false_iff_not] at hf
      by_cases e : j < i
      · exact hP j e
      · have : j = i := by omega
        subst this
        exact fun e => hf e.symm
  · simp only [decide_eq_false_iff_not] at hb
    refine h0 fun hm => ?_
    obtain ⟨j, hj, e⟩ := List.mem_iff_getElem.1 hm
    refine hP j (by omega) ?_
    rw [getD_lt _ hj]; exact e

/-- the actions of all words -/
def Act (m : Mach) (a : List Int) : Prop := ∃ w, SymW m.2.1 w ∧ a = ofA m w

def stepA (m : Mach) (a : List Int) (s : Int) : List Int := afterA a (tab7 fun i => if (i : Int) < m.1 then nextM m (i : Int) s else (i : Int))

theorem Act.len {m : Mach} {a : List Int} (h : Act m a) : a.length = 7 := by obtain ⟨w, _, rfl⟩ := h; exact ofA_len _ _

theorem Act.step {m : Mach} (g : GoodM m) {a : List Int} (h : Act m a) {s : Int} (hs : 0 ≤ s ∧ s < m.2.1) : Act m (stepA m a s) := by
  obtain ⟨w, hw, rfl⟩ := h
  refine ⟨w ++ [s], fun t ht => ?_, ofA_snoc g hw s⟩
  rcases List.mem_append.1 ht with h | h
  · exact hw t h
  · rw [List.mem_singleton.1 h]; exact hs

structure AInv (m : Mach) (i : Nat) (P : Nat → Int → Prop) (out : List (List Int)) : Prop where
  nd : out.Nodup
  act : ∀ a ∈ out, Act m a
  rest : ofA m [] ∈ out
  step : ∀ j s, j < out.length → 0 ≤ s ∧ s < m.2.1 → P j s → stepA m (out.getD j (List.replicate 7 0)) s ∈ out

theorem AInv.snoc {m : Mach} {i : Nat} {P Q : Nat → Int → Prop} {out : List (List Int)} (h : AInv m i P out) {a : List Int} (ha : Act m a) (hn : a ∉ out) (hQ : ∀ j s, Q j s → P j s ∨ (j < out.length ∧ stepA m (out.getD j (List.replicate 7 0)) s = a)) (hP : ∀ j s, P j s → j < out.length) : AInv m i Q (out ++ [a]) := by
  have hg : ∀ j, j < out.length → (out ++ [a]).getD j (List.replicate 7 0) = out.getD j (List.replicate 7 0) := by
    intro j hj
    simp only [List.getD, List.getElem?_append_left hj]
  refine ⟨?_, fun b hb => ?_, by simp [h.rest], fun j s hj hs hq => ?_⟩
  · rw [List.nodup_append]
    refine ⟨h.nd, by simp, fun x hx y hy => ?_⟩
    rw [List.mem_singleton.1 hy]
    exact fun e => hn (e ▸ hx)
  · rcases List.mem_append.1 hb with h' | h'
    · exact h.act b h'
    · rw [List.mem_singleton.1 h']; exact ha
  · rcases hQ j s hq with h' | ⟨h', e⟩
    · have hjl := hP j s h'
      rw [hg j hjl]
      exact List.mem_append_left _ (h.step j s hjl hs h')
    · rw [hg j h', e]
      simp

theorem AInv.keep {m : Mach} {i i' : Nat} {P Q : Nat → Int → Prop} {out : List (List Int)} (h : AInv m i P out) (hQ : ∀ j s, j < out.length → 0 ≤ s ∧ s < m.2.1 → Q j s → P j s ∨ stepA m (out.getD j (List.replicate 7 0)) s ∈ out) : AInv m i' Q out :=
  ⟨h.nd, h.act, h.rest, fun j s hj hs hq => by
    rcases hQ j s hj hs hq with h' | h'
    · exact h.step j s hj hs h'
    · exact h'⟩

theorem AInv.all {m : Mach} (g : GoodM m) {i : Nat} {out : List (List Int)} (h : AInv m i (fun j _ => j < out.length) out) : ∀ n (w : List Int), w.length = n → SymW m.2.1 w → ofA m w ∈ out
  | 0, w, hl, hw => by rw [List.length_eq_zero_iff.1 hl]; exact h.rest
  | n + 1, w, hl, hw => by
    have hne : w ≠ [] := fun e => by rw [e] at hl; simp at hl
    have e := List.dropLast_concat_getLast hne
    have hw1 : SymW m.2.1 w.dropLast := fun s hs => hw s (List.dropLast_subset w hs)
    have hs := hw _ (List.getLast_mem hne)
    have ih := AInv.all g h n w.dropLast (by simp [hl]) hw1
    obtain ⟨j, hj, ej⟩ := List.mem_iff_getElem.1 ih
    have := h.step j (w.getLast hne) hj hs hj
    rw [getD_lt _ hj, ej] at this
    rw [← e, ← ofA_snoc g hw1]
    exact this

theorem VC71_of {m : Mach} (g : GoodM m) {K : List (List Int) × Bool → Prop} (hT : ∀ A : List (List Int), A.Nodup → (∀ a, a ∈ A ↔ Act m a) → A.length ≤ 100 → K (A, true)) (hF : ∀ B : List (List Int), B.Nodup → (∀ a ∈ B, Act m a) → 100 < B.length → K ([], false)) : VC71 m K := by
  have hk := g.1.2.2
  unfold VC71
  refine VC69_of ?_
  rw [seven_id (tab7_len _), ← ofA_nil m]
  refine Loop.by (fun s : Int × List (List Int) => ∃ i : Nat, s.1 = (i : Int) ∧ i ≤ s.2.length ∧ s.2.length ≤ 100 ∧ AInv m i (fun j _ => j < i) s.2) (fun s => (101 - s.1).toNat) ⟨0, rfl, by omega, by simp, by simp, fun a ha => ?_, by simp, fun j s _ _ h => absurd h (by omega)⟩ ?_
  · rw [List.mem_singleton.1 ha]
    exact ⟨[], fun s hs => absurd hs (by simp), rfl⟩
  rintro ⟨i', out⟩ ⟨i, e, hi, hl, hI⟩ X hX
  dsimp only at e hi hl hI
  subst e
  unfold VC71_l1 VC71_k1
  refine ⟨fun hb => ?_, fun hb => ?_⟩
  · simp only [decide_eq_true_eq] at hb
    refine Loop.by (fun s : Int × List (List Int) => ∃ t : Nat, s.1 = (t : Int) ∧ (t : Int) ≤ m.2.1 ∧ i < s.2.length ∧ s.2.length ≤ 100 + t ∧ AInv m i (fun j s => j < i ∨ (j = i ∧ s < (t : Int))) s.2) (fun s => (m.2.1 - s.1).toNat) ⟨0, rfl, by omega, by dsimp only; omega, by dsimp only; omega, hI.keep fun j s _ hs hq => ?_⟩ ?_
    · left
      rcases hq with h | ⟨_, h⟩
      · exact h
      · omega
    rintro ⟨t', out2⟩ ⟨t, e, ht, hi2, hl2, hI2⟩ Y hY
    dsimp only at e hi2 hl2 hI2
    subst e
    unfold VC71_l2
    refine ⟨fun hc => ?_, fun hc => ?_⟩
    · simp only [decide_eq_true_eq] at hc
      simp only [Int.toNat_natCast]
      have hmem : out2.getD i (List.replicate 7 0) ∈ out2 := getD_mem hi2
      have hact := hI2.act _ hmem
      obtain ⟨w, hw, ew⟩ := hact
      have hact : Act m (out2.getD i (List.replicate 7 0)) := ⟨w, hw, ew⟩
      have hs : 0 ≤ (t : Int) ∧ (t : Int) < m.2.1 := ⟨by omega, hc⟩
      have hnew := hact.step g hs
      have h7 : (out2.getD i (List.replicate 7 0)).length = 7 := hact.len
      have hin : ∀ j, j < 7 → 0 ≤ (out2.getD i (List.replicate 7 0)).getD j 0 ∧ (out2.getD i (List.replicate 7 0)).getD j 0 < 7 := by rw [ew]; exact fun j hj => ofA_in g hw hj
      unfold VC71_k4 VC71_k5 VC71_k6 VC71_k3
      rw [seven_id h7]
      have go : ∀ (r : Bool), (r = true ↔ stepA m (out2.getD i (List.replicate 7 0)) (t : Int) ∈ out2) → (((!r) = true → (roomN (out2.length + [stepA m (out2.getD i (List.replicate 7 0)) (t : Int)].length) ∧ (InR ((t : Int) + (1 : Int)) ∧ Y (((t : Int) + (1 : Int)), out2 ++ [stepA m (out2.getD i (List.replicate 7 0)) (t : Int)])))) ∧ ((!r) = false → (InR ((t : Int) + (1 : Int)) ∧ Y (((t : Int) + (1 : Int)), out2)))) := by
        intro r hr
        refine ⟨fun hf => ?_, fun htr => ?_⟩
        · have hno : stepA m (out2.getD i (List.replicate 7 0)) (t : Int) ∉ out2 := fun h => by rw [hr.2 h] at hf; simp at hf
          refine ⟨by simp only [roomN, List.length_singleton]; omega, ⟨by omega, by omega⟩, hY _ ⟨t + 1, by simp, by omega, by simp only [List.length_append, List.length_singleton]; omega, by simp only [List.length_append, List.length_singleton]; omega, ?_⟩ (by dsimp only; omega)⟩
          refine hI2.snoc hnew hno (fun j s hq => ?_) (fun j s hp => ?_)
          · rcases hq with h | ⟨h1, h2⟩
            · exact Or.inl (Or.inl h)
            · by_cases e : s < (t : Int)
              · exact Or.inl (Or.inr ⟨h1, e⟩)
              · right
                have : s = (t : Int) := by omega
                subst this h1
                exact ⟨hi2, rfl⟩
          · rcases hp with h | ⟨h1, h2⟩ <;> omega
        · have hyes := hr.1 (by simpa using htr)
          refine ⟨⟨by omega, by omega⟩, hY _ ⟨t + 1, by simp, by omega, hi2, by dsimp only; omega, hI2.keep fun j s _ hs2 hq => ?_⟩ (by dsimp only; omega)⟩
          rcases hq with h | ⟨h1, h2⟩
          · exact Or.inl (Or.inl h)
          · by_cases e : s < (t : Int)
            · exact Or.inl (Or.inr ⟨h1, e⟩)
            · right
              have : s = (t : Int) := by omega
              subst this h1
              exact hyes
      have body : ∀ (a : List Int), a = stepA m (out2.getD i (List.replicate 7 0)) (t : Int) → VC74 out2 (fun (x : (List Int)) (K : Bool → Prop) => VC75 x a K) (fun (ret31v : Bool) => (((!ret31v) = true → (roomN (out2.length + [a].length) ∧ (InR ((t : Int) + (1 : Int)) ∧ Y (((t : Int) + (1 : Int)), out2 ++ [a])))) ∧ ((!ret31v) = false → (InR ((t : Int) + (1 : Int)) ∧ Y (((t : Int) + (1 : Int)), out2))))) := by
        rintro a rfl
        unfold VC74
        refine VC76_of (fun x hx => (hI2.act x hx).len) hnew.len (by omega) (fun hmem r hr => ?_) (fun hno => ?_)
        · exact go _ ⟨fun _ => hmem, fun _ => decide_eq_true hr⟩
        · exact go _ ⟨fun h => by simp at h, fun h => absurd h hno⟩
      have v60 : ∀ (b : List Int), b = (tab7 fun i => if (i : Int) < m.1 then nextM m (i : Int) (t : Int) else (i : Int)) → ∀ Kx : List Int → Prop, Kx (stepA m (out2.getD i (List.replicate 7 0)) (t : Int)) → VC60 (out2.getD i (List.replicate 7 0)) b Kx := by
        rintro b rfl Kx hKx
        exact VC60_of h7 (tab7_len _) hin hKx
      refine ⟨⟨by omega, by omega⟩, VC70_of g hs ?_, VC70_of g hs ?_⟩
      · rw [seven_id (tab7_len _)]
        refine ⟨v60 _ rfl _ ?_, v60 _ rfl _ ?_⟩
        · rw [seven_id hnew.len, seven_id hnew.len]
          exact body _ rfl
        · rw [seven_id hnew.len, seven_id hnew.len]
          exact body _ rfl
      · rw [seven_id (tab7_len _)]
        refine v60 _ rfl _ ?_
        rw [seven_id hnew.len, seven_id hnew.len]
        exact body _ rfl
    · simp only [decide_eq_false_iff_not] at hc
      unfold VC71_k2
      refine ⟨fun h100 => ?_, fun h100 => ?_⟩
      · simp only [decide_eq_true_eq] at h100
        exact hF out2 hI2.nd hI2.act (by omega)
      · simp only [decide_eq_false_iff_not] at h100
        refine ⟨⟨by omega, by omega⟩, hX _ ⟨i + 1, by simp, by dsimp only; omega, by dsimp only; omega, hI2.keep fun j s _ hs hq => ?_⟩ (by dsimp only; omega)⟩
        left
        by_cases e : j < i
        · exact Or.inl e
        · exact Or.inr ⟨by omega, by omega⟩
  · simp only [decide_eq_false_iff_not] at hb
    have : i = out.length := by omega
    subst this
    refine hT out hI.nd (fun a => ⟨hI.act a, ?_⟩) hl
    rintro ⟨w, hw, rfl⟩
    exact hI.all g _ w rfl hw

/-- the classes of a machine, or too many -/
structure AllA (m : Mach) (A : List (List Int)) : Prop where
  nd : A.Nodup
  all : ∀ a, a ∈ A ↔ Act m a
  few : A.length ≤ 100

def Many (m : Mach) : Prop := ∃ B : List (List Int), B.Nodup ∧ (∀ a ∈ B, Act m a) ∧ 100 < B.length

theorem many_not {m : Mach} {A : List (List Int)} (h : AllA m A) : ¬ Many m := by
  rintro ⟨B, h1, h2, h3⟩
  have := nodup_le h1 (b := A) (fun x hx => (h.all x).2 (h2 x hx))
  have := h.few
  omega

theorem all_len {m : Mach} {A B : List (List Int)} (hA : AllA m A) (hB : AllA m B) : A.length = B.length := by
  have h1 := nodup_le hA.nd (b := B) (fun x hx => (hB.all x).2 ((hA.all x).1 hx))
  have h2 := nodup_le hB.nd (b := A) (fun x hx => (hA.all x).2 ((hB.all x).1 hx))
  omega

theorem act_same {a b : Mach} (h1 : a.1 = b.1) (h2 : a.2.1 = b.2.1) (h3 : a.2.2.1 = b.2.2.1) (x : List Int) : Act a x ↔ Act b x := by
  unfold Act
  rw [h2]
  simp only [ofA_same h1 h3]

theorem VC59_of {m : Mach} (hm : Ok MachT m) {K : List (List Int) × Int → Prop} (hbad : ∀ e, e ≠ 0 → ¬ GoodM m → K ([], e)) (hmany : GoodM m → Many (leastF m) → K ([], 1)) (h : GoodM m → ∀ A, AllA (leastF m) A → K (A, 0)) : VC59 m K := by
  unfold VC59
  refine VC25_of hm (fun e he hno => ⟨fun _ => hbad e he hno, fun hc => absurd (by simpa using hc) he⟩) (fun g => ⟨fun hc => (by simp at hc), fun _ => ?_⟩)
  refine VC71_of (least_good g) (fun A h1 h2 h3 => ⟨fun e => by simp at e, fun _ => h g A ⟨h1, h2, h3⟩⟩) (fun B h1 h2 h3 => ⟨fun _ => hmany g ⟨B, h1, h2, h3⟩, fun e => by simp at e⟩)

theorem powA_one {a : List Int} (h : a.length = 7) : powA a 1 = a := by
  unfold powA powA afterA
  refine (tab7_of h fun i hi => ?_).symm
  rw [tab7_get _ hi, Int.toNat_natCast]

/-- every action stands still at last -/
def StillA (A : List (List Int)) : Prop := ∀ a ∈ A, powA a 102 = powA a 101

theorem VC37_of {m : Mach} (hm : Ok MachT m) {K : Bool × Int → Prop} (hbad : ∀ e, e ≠ 0 → ¬ GoodM m → K (false, e)) (hmany : GoodM m → Many (leastF m) → K (false, 1)) (h : GoodM m → ∀ A, AllA (leastF m) A → ∀ b : Bool, (b = true ↔ StillA A) → K (b, 0)) : VC37 m K := by
  unfold VC37
  refine VC59_of hm (fun e he hno => ⟨fun _ => hbad e he hno, fun hc => absurd (by simpa using hc) he⟩) (fun g hmm => ⟨fun _ => hmany g hmm, fun hc => by simp at hc⟩) (fun g A hA => ⟨fun hc => (by simp at hc), fun _ => ?_⟩)
  have h := h g A hA
  have gl := least_good g
  have hfew := hA.few
  try dsimp only
  refine loop_count A.length (fun i => ∀ j, j < i → powA (A.getD j (List.replicate 7 0)) 102 = powA (A.getD j (List.replicate 7 0)) 101) (by intro j hj; omega) ?_
  intro i hi hP X hX
  unfold VC37_l1
  dsimp only
  refine ⟨fun hb => ?_, fun hb => ?_⟩
  · simp only [decide_eq_true_eq] at hb
    simp only [Int.toNat_natCast]
    have hmem : A.getD i (List.replicate 7 0) ∈ A := getD_mem (by omega)
    obtain ⟨w, hw, ew⟩ := (hA.all _).1 hmem
    have h7 : (A.getD i (List.replicate 7 0)).length = 7 := by rw [ew]; exact ofA_len _ _
    have hin : ∀ n j, j < 7 → 0 ≤ (powA (A.getD i (List.replicate 7 0)) n).getD j 0 ∧ (powA (A.getD i (List.replicate 7 0)) n).getD j 0 < 7 := by
      intro n j hj
      rw [ew, powA_of gl hw]
      exact ofA_in gl (repW_sym hw n) hj
    rw [seven_id h7, seven_id h7]
    refine ⟨⟨by omega, by omega⟩, ?_⟩
    have hgen : ∃ N : Nat, N = 100 := ⟨100, rfl⟩
    have h1 := powA_one h7
    have start : Loop (σ := Int × List Int) (fun s X1 => VC37_l2 K (A, 0) (i : Int) X s.1 s.2 X1) ((0 : Int), powA (A.getD i (List.replicate 7 0)) (0 + 1)) := by
      refine loop_state 100 (fun n => powA (A.getD i (List.replicate 7 0)) (n + 1)) (fun _ => True) trivial ?_
      intro n hn _ Y hY
      unfold VC37_l2
      dsimp only
      simp only [Int.toNat_natCast]
      rw [seven_id h7, seven_id h7, seven_id (powA_len _ _)]
      refine ⟨fun hc => ?_, fun hc => ?_⟩
      · simp only [decide_eq_true_eq] at hc
        refine VC60_of (powA_len _ _) h7 (hin (n + 1)) ?_
        have e : afterA (powA (A.getD i (List.replicate 7 0)) (n + 1)) (A.getD i (List.replicate 7 0)) = powA (A.getD i (List.replicate 7 0)) (n + 1 + 1) := rfl
        rw [e, seven_id (powA_len _ _)]
        exact ⟨⟨by omega, by omega⟩, hY (by omega) trivial⟩
      · simp only [decide_eq_false_iff_not] at hc
        have : n = 100 := by omega
        subst this
        unfold VC37_k2
        dsimp only
        simp only [Int.toNat_natCast]
        rw [seven_id h7, seven_id h7, seven_id (powA_len _ _)]
        refine VC60_of (powA_len _ _) h7 (hin (100 + 1)) ?_
        have e : afterA (powA (A.getD i (List.replicate 7 0)) (100 + 1)) (A.getD i (List.replicate 7 0)) = powA (A.getD i (List.replicate 7 0)) 102 := rfl
        rw [e, seven_id (powA_len _ _)]
        refine ⟨fun hne => ?_, fun heq => ?_⟩
        · simp only [Bool.not_eq_true', decide_eq_false_iff_not] at hne
          exact h false ⟨fun e => (by cases e), fun hs => absurd (hs _ hmem) hne⟩
        · simp only [Bool.not_eq_false', decide_eq_true_eq] at heq
          refine ⟨⟨by omega, by omega⟩, hX (by omega) fun j hj => ?_⟩
          by_cases e : j < i
          · exact hP j e
          · have : j = i := by omega
            subst this
            exact heq
    rw [show (0 : Nat) + 1 = 1 from rfl, h1] at start
    exact start
  · simp only [decide_eq_false_iff_not] at hb
    unfold VC37_k1
    refine h true ⟨fun _ a ha => ?_, fun _ => rfl⟩
    obtain ⟨j, hj, e⟩ := List.mem_iff_getElem.1 ha
    have := hP j (by omega)
    rw [getD_lt _ hj, e] at this
    exact this

theorem VC38_of {m : Mach} (hm : Ok MachT m) {K : Int × Int → Prop} (hbad : ∀ e, e ≠ 0 → ¬ GoodM m → K (0, e)) (hmany : GoodM m → Many (leastF m) → K (0, 1)) (h : GoodM m → ∀ A, AllA (leastF m) A → K ((A.length : Int), 0)) : VC38 m K := by
  unfold VC38
  exact VC59_of hm hbad hmany h

theorem VC39_of {w : List Int} {n : Nat} (hl : n * w.length ≤ 1000) (hn : n ≤ 1000) {K : List Int → Prop} (h : K (repW w n)) : VC39 w (n : Int) K := by
  unfold VC39
  refine loop_state n (fun i => repW w i) (fun _ => True) trivial ?_
  intro i hi _ X hX
  unfold VC39_l1 VC39_k1
  refine ⟨fun hb => ?_, fun hb => ?_⟩
  · simp only [decide_eq_true_eq] at hb
    have hle : (i + 1) * w.length ≤ n * w.length := Nat.mul_le_mul_right _ (by omega)
    rw [Nat.add_mul, Nat.one_mul] at hle
    refine ⟨by simp only [roomN, repW_len]; omega, ⟨by omega, by omega⟩, ?_⟩
    have := hX (by omega) trivial
    exact this
  · simp only [decide_eq_false_iff_not] at hb
    have : i = n := by omega
    subst this
    exact h

theorem kindsStill {m : Mach} {w : List Int} (hm : Ok MachT m) : VC14 m w (fun b => b = true) := by
  unfold VC14
  by_cases g : GoodM m
  · have hc : chkM m = 0 := (chkM_zero m).2 g
    have gn := not_good hm g
    have on : Ok MachT (notM m) := ok_of_good gn (u32_andNot _ _)
    have hN : notR m = (notM m, 0) := by unfold notR; rw [if_pos hc]
    obtain ⟨s1, s2, s3⟩ := not_least hm g
    have hsame : ∀ x, Act (leastF (notM m)) x ↔ Act (leastF m) x := act_same s1 s2 s3
    have hmany : Many (leastF (notM m)) ↔ Many (leastF m) := by
      unfold Many
      simp only [hsame]
    have hall : ∀ {A}, AllA (leastF (notM m)) A → AllA (leastF m) A := fun h => ⟨h.nd, fun a => (h.all a).trans (hsame a), h.few⟩
    have hstill : ∀ {A B}, AllA (leastF m) A → AllA (leastF m) B → (StillA A ↔ StillA B) := by
      intro A B hA hB
      exact ⟨fun h a ha => h a ((hA.all a).2 ((hB.all a).1 ha)), fun h a ha => h a ((hB.all a).2 ((hA.all a).1 ha))⟩
    -- four runs
    refine VC37_of hm (fun e he hno => absurd g hno) (fun _ hM => ?_) (fun _ A hA b hb => ?_)
    · refine VC38_of hm (fun e he hno => absurd g hno) (fun _ _ => ?_) (fun _ A hA => absurd hM (many_not hA))
      refine VC26_of hm ⟨fun h => by rw [hc] at h; simp at h, fun _ => VC18_of hm ?_⟩
      rw [hN]
      refine VC37_of on (fun e he hno => absurd gn hno) (fun _ _ => ?_) (fun _ A hA b hb => absurd hM (many_not (hall hA)))
      refine VC38_of on (fun e he hno => absurd gn hno) (fun _ _ => ?_) (fun _ A hA => absurd hM (many_not (hall hA)))
      refine ⟨fun e => by simp at e, fun _ => ⟨fun _ => by simp, fun e => by simp at e⟩⟩
    · refine VC38_of hm (fun e he hno => absurd g hno) (fun _ hM => absurd hM (many_not hA)) (fun _ A2 hA2 => ?_)
      refine VC26_of hm ⟨fun h => by rw [hc] at h; simp at h, fun _ => VC18_of hm ?_⟩
      rw [hN]
      refine VC37_of on (fun e he hno => absurd gn hno) (fun _ hM => absurd (hmany.1 hM) (many_not hA)) (fun _ A3 hA3 b3 hb3 => ?_)
      refine VC38_of on (fun e he hno => absurd gn hno) (fun _ hM => absurd (hmany.1 hM) (many_not hA)) (fun _ A4 hA4 => ?_)
      have e1 : A2.length = A4.length := all_len hA2 (hall hA4)
      have e2 : A.length = A2.length := all_len hA hA2
      have e3 : b = b3 := by
        rw [Bool.eq_iff_iff, hb, hb3]
        exact hstill hA (hall hA3)
      subst e3
      rw [← e1, ← e2]
      have hpos : 1 ≤ A.length := by
        have : ofA (leastF m) [] ∈ A := (hA.all _).2 ⟨[], fun s hs => absurd hs (by simp), rfl⟩
        have := List.length_pos_of_mem this
        omega
      have hfew := hA.few
      refine ⟨fun e => by simp at e, fun _ => ⟨fun e => by simp at e, fun _ => ?_⟩⟩
      dsimp only
      have h1 : decide ((A.length : Int) < 1) = false := decide_eq_false (by omega)
      have hk1 : decide ((1 : Int) ≤ (A.length : Int)) = true := decide_eq_true (by omega)
      rw [h1]
      cases b with
      | false => simp [gcall, hk1]
      | true =>
        simp only [gcall]
        rw [if_pos (by rfl)]
        refine VC16_of hm ?_
        cases hgood : goodB m w with
        | false => simp [hk1]
        | true =>
          have hw : GoodM m ∧ GoodW m.2.1 w := @of_decide_eq_true _ (_) hgood
          obtain ⟨hw1, hw2⟩ := hw.2
          have hnn : (0 : Int) ≤ (w.length : Int) * ((A.length : Int) + 1) ∧ (w.length : Int) * ((A.length : Int) + 1) ≤ 12 * 101 := by
            refine ⟨Int.mul_nonneg (by omega) (by omega), ?_⟩
            exact Int.mul_le_mul (by omega) (by omega) (by omega) (by omega)
          refine ⟨fun _ => ⟨by omega, by omega⟩, fun _ => ⟨by omega, by omega⟩, fun _ => hk1, fun hlen => ?_⟩
          simp only [Bool.or_eq_false_iff, decide_eq_false_iff_not] at hlen
          have h12 : (w.length : Int) * ((A.length : Int) + 1) ≤ 12 := by omega
          have h12n : (A.length + 1) * w.length ≤ 12 := by
            have : (((A.length + 1) * w.length : Nat) : Int) = (w.length : Int) * ((A.length : Int) + 1) := by rw [Int.natCast_mul, Int.mul_comm]; rfl
            omega
          have h12m : A.length * w.length ≤ 12 := Nat.le_trans (Nat.mul_le_mul_right _ (by omega)) h12n
          refine ⟨⟨by omega, by omega⟩, VC39_of (by omega) (by omega) ?_⟩
          rw [show (A.length : Int) + 1 = ((A.length + 1 : Nat) : Int) by omega]
          refine VC39_of (by omega) (by omega) ?_
          refine VC36_of hm (fun hno => ?_) (fun _ _ _ => ?_)
          · exact absurd ⟨g, ⟨by rw [repW_len]; omega, repW_sym hw2 _⟩, ⟨by rw [repW_len]; omega, repW_sym hw2 _⟩⟩ hno
          · have gl := least_good g
            have lk := least_k m
            have hwl : SymW (leastF m).2.1 w := by rw [lk]; exact hw2
            have hin : ∀ n, powA (ofA (leastF m) w) n ∈ A := fun n => (hA.all _).2 ⟨repW w n, repW_sym hwl n, powA_of gl hwl n⟩
            have hst := (hb.1 rfl) (ofA (leastF m) w) ((hA.all _).2 ⟨w, hwl, rfl⟩)
            have := powA_still (M := 101) hin hst.symm
            rw [powA_of gl hwl, powA_of gl hwl] at this
            rw [decide_eq_true this]
            rfl
  · have hcz : chkM m ≠ 0 := fun h => g ((chkM_zero m).1 h)
    refine VC37_of hm (fun e he _ => ?_) (fun h => absurd h g) (fun h => absurd h g)
    refine VC38_of hm (fun e2 he2 _ => ?_) (fun h => absurd h g) (fun h => absurd h g)
    refine VC26_of hm ⟨fun _ => by simp [he, he2], fun h => ?_⟩
    simp at h
    exact absurd h hcz
end Dec
