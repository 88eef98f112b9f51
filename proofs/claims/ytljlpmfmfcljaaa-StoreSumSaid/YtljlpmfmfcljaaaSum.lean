/-
'StoreSum' in plain Lean.
-/
import Derived.Test.YtljlpmfmfcljaaaLib
import Derived.Test.YtljlpmfmfcljaaaGenAa
set_option linter.unusedSimpArgs false
set_option linter.unusedVariables false
namespace Dec
open Go Go.Proofs
def sumS (s : Int × Int) (c : Int) : Int × Int := ((s.1 + c) % 257, (s.2 + (s.1 + c) % 257) % 257)
def sumF (s : Int × Int) (b : List Int) : Int × Int := b.foldl sumS s
def Fits (s : Int × Int) : Prop := (0 ≤ s.1 ∧ s.1 < 257) ∧ (0 ≤ s.2 ∧ s.2 < 257)
theorem sumS_fits (s : Int × Int) (c : Int) : Fits (sumS s c) := by
  unfold sumS Fits
  have h := fun z : Int => And.intro (Int.emod_nonneg z (by omega : (257 : Int) ≠ 0)) (Int.emod_lt_of_pos z (by omega : (0 : Int) < 257))
  exact ⟨h _, h _⟩
theorem sumF_fits : ∀ (b : List Int) (s : Int × Int), Fits s → Fits (sumF s b)
  | [], _, h => h
  | c :: b, s, _ => sumF_fits b _ (sumS_fits s c)
theorem sumF_diff : ∀ (b : List Int) (x y z : Int), (sumF (x, y) b).1 = (sumF (x, z) b).1 ∧ (y % 257 = z % 257 ↔ (sumF (x, y) b).2 % 257 = (sumF (x, z) b).2 % 257)
  | [], _, _, _ => ⟨rfl, Iff.rfl⟩
  | c :: b, x, y, z => by
    obtain ⟨h1, h2⟩ := sumF_diff b ((x + c) % 257) ((y + (x + c) % 257) % 257) ((z + (x + c) % 257) % 257)
    refine ⟨h1, Iff.trans ?_ h2⟩
    omega
def sumB (s : Int × Int) : List Int := [(IntKind.wrap .u8 s.1), (IntKind.wrap .u8 (bShr .i64 s.1 (8 : Int))), (IntKind.wrap .u8 s.2), (IntKind.wrap .u8 (bShr .i64 s.2 (8 : Int)))]
theorem shr8_all : ∀ x : Fin 257, (IntKind.wrap .u8 (x.val : Int)) + 256 * (IntKind.wrap .u8 (bShr .i64 (x.val : Int) (8 : Int))) = (x.val : Int) := by decide +kernel
theorem shr8 {x : Int} (h : 0 ≤ x ∧ x < 257) : (IntKind.wrap .u8 x) + 256 * (IntKind.wrap .u8 (bShr .i64 x (8 : Int))) = x := by
  have := shr8_all ⟨x.toNat, by omega⟩
  have e : ((x.toNat : Nat) : Int) = x := by omega
  simp only [e] at this
  exact this
theorem sumB_inj {s t : Int × Int} (hs : Fits s) (ht : Fits t) : sumB s = sumB t ↔ s = t := by
  constructor
  · intro h
    unfold sumB at h
    simp only [List.cons.injEq, and_true] at h
    obtain ⟨h1, h2, h3, h4⟩ := h
    have a1 := shr8 hs.1
    have a2 := shr8 ht.1
    have a3 := shr8 hs.2
    have a4 := shr8 ht.2
    exact Prod.ext (by rw [← a1, ← a2, h1, h2]) (by rw [← a3, ← a4, h3, h4])
  · intro h; rw [h]
def ByteL (b : List Int) : Prop := ∀ x ∈ b, 0 ≤ x ∧ x ≤ 255
theorem VC8_of {b : List Int} (hb : ByteL b) (hl : b.length ≤ 140737488355328) {K : List Int → Prop} (h : K (sumB (sumF (0, 0) b))) : VC8 b K := by
  unfold VC8
  have hfit : ∀ i, Fits (sumF (0, 0) (b.take i)) := fun i => sumF_fits _ _ ⟨⟨by simp, by simp⟩, ⟨by simp, by simp⟩⟩
  refine Loop.by (fun s : Int × Int × Int => ∃ i : Nat, i ≤ b.length ∧ s.2.2 = (i : Int) ∧ (s.1, s.2.1) = sumF (0, 0) (b.take i)) (fun s => ((b.length : Int) - s.2.2).toNat) ⟨0, by omega, rfl, rfl⟩ ?_
  rintro ⟨x, y, c⟩ ⟨i, hi, e1, e2⟩ X hX
  dsimp only at e1 e2
  subst e1
  dsimp only
  have hf := hfit i
  rw [← e2] at hf
  obtain ⟨⟨f1, f2⟩, ⟨f3, f4⟩⟩ := hf
  dsimp only at f1 f2 f3 f4
  unfold VC8_l1
  refine ⟨fun hlt => ?_, fun hge => ?_⟩
  · simp only [decide_eq_true_eq] at hlt
    have hil : i < b.length := by omega
    have hc := hb _ (getD_mem (d := (0 : Int)) hil)
    simp only [Int.toNat_natCast]
    have hm1 := Int.emod_nonneg (x + b.getD i 0) (by omega : (257 : Int) ≠ 0)
    have hm2 := Int.emod_lt_of_pos (x + b.getD i 0) (by omega : (0 : Int) < 257)
    refine ⟨⟨by omega, by omega⟩, ⟨by omega, by omega⟩, ⟨by omega, by omega⟩, ⟨by omega, by omega⟩, ⟨by omega, by omega⟩, ⟨by omega, by omega⟩, hX _ ⟨i + 1, by omega, by simp, ?_⟩ (by dsimp only; omega)⟩
    dsimp only
    rw [List.take_succ_eq_append_getElem hil, ← getD_lt (0 : Int) hil]
    unfold sumF at e2 ⊢
    rw [List.foldl_append, ← e2]
    rfl
  · simp only [decide_eq_false_iff_not] at hge
    have : i = b.length := by omega
    subst this
    rw [List.take_length] at e2
    unfold VC8_k1
    refine ⟨⟨f1, by omega⟩, ⟨f3, by omega⟩, ?_⟩
    rw [← e2] at h
    exact h
theorem VC9_of {a b : List Int} (hl : a.length ≤ 1000000) {K : Bool → Prop} (h : K (decide (a = b))) : VC9 a b K := by
  unfold VC9
  refine ⟨fun hne => ?_, fun heq => ?_⟩
  · have : a ≠ b := by
      intro e; subst e; simp at hne
    simpa [this] using h
  · have hlen : a.length = b.length := by
      simp only [Bool.not_eq_false', decide_eq_true_eq] at heq; omega
    refine loop_count a.length (fun i => ∀ j, j < i → a.getD j 0 = b.getD j 0) (fun j hj => absurd hj (by omega)) ?_
    intro i hi hP X hX
    unfold VC9_l1
    refine ⟨fun hlt => ?_, fun hge => ?_⟩
    · simp only [decide_eq_true_eq] at hlt
      simp only [Int.toNat_natCast]
      refine ⟨⟨by omega, by omega⟩, ⟨by omega, by omega⟩, fun hne => ?_, fun he => ⟨⟨by omega, by omega⟩, hX (by omega) fun j hj => ?_⟩⟩
      · have : a ≠ b := by
          intro e; subst e; simp at hne
        simpa [this] using h
      · by_cases hji : j < i
        · exact hP j hji
        · have : j = i := by omega
          subst this
          simpa [-List.getD_eq_getElem?_getD] using he
    · simp only [decide_eq_false_iff_not] at hge
      have : a = b := ext_getD 0 hlen fun j hj => hP j (by omega)
      unfold VC9_k1
      simpa [this] using h
theorem swap_split {b : List Int} {i : Nat} (h : i + 1 < b.length) : b = b.take i ++ (b.getD i 0 :: b.getD (i + 1) 0 :: b.drop (i + 2)) ∧ (b.set i (b.getD (i + 1) 0)).set (i + 1) (b.getD i 0) = b.take i ++ (b.getD (i + 1) 0 :: b.getD i 0 :: b.drop (i + 2)) := by
  have e : b = b.take i ++ (b.getD i 0 :: b.getD (i + 1) 0 :: b.drop (i + 2)) := by
    have h1 := List.take_append_drop i b
    rw [List.drop_eq_getElem_cons (by omega), List.drop_eq_getElem_cons (by omega), ← getD_lt (0 : Int) (by omega), ← getD_lt (0 : Int) (by omega)] at h1
    exact h1.symm
  refine ⟨e, ?_⟩
  generalize b.getD i 0 = p at e ⊢
  generalize b.getD (i + 1) 0 = q at e ⊢
  have hl : (b.take i).length = i := by rw [List.length_take]; omega
  generalize hA : b.take i = A at e hl
  generalize b.drop (i + 2) = B at e ⊢
  subst e
  rw [List.set_append_right _ _ (by omega), List.set_append_right _ _ (by omega), hl]
  simp
theorem storeSum {b : List Int} {k : Int} (hb : ByteL b) (hl : b.length ≤ 140737488351232) (hk : 0 ≤ k) : VC3 b k (fun b => b = true) := by
  have hz : sumF (0, 0) ([0, 0, 0] ++ b) = sumF (0, 0) b := by
    unfold sumF
    rw [List.foldl_append]
    rfl
  have hb3 : ByteL ([0, 0, 0] ++ b) := by
    intro x hx
    simp only [List.mem_append, List.mem_cons, List.not_mem_nil, or_false] at hx
    rcases hx with (rfl | rfl | rfl) | hx
    · exact ⟨by omega, by omega⟩
    · exact ⟨by omega, by omega⟩
    · exact ⟨by omega, by omega⟩
    · exact hb x hx
  unfold VC3
  refine VC8_of hb (by omega) ⟨by unfold roomW; simp only [List.length_cons, List.length_nil]; omega, VC8_of hb3 (by simp only [List.length_append, List.length_cons, List.length_nil]; omega) ?_⟩
  rw [hz]
  refine ⟨fun _ => rfl, fun _ => gcall_of true (fun _ hk => VC9_of (by simp [sumB]) (by simpa using hk)) ?_⟩
  have h4 : (decide (((sumB (sumF (0, 0) b)).length : Int) = 4)) = true := by simp [sumB]
  simp only [h4, Bool.not_true, Bool.not_false, if_true, Bool.or_self]
  refine ⟨fun hc => (by cases hc), fun _ => ⟨fun _ => by trivial, fun h2 => ?_⟩⟩
  simp only [decide_eq_false_iff_not] at h2
  have hm1 := Int.emod_nonneg k (by omega : (b.length : Int) - 1 ≠ 0)
  have hm2 := Int.emod_lt_of_pos k (by omega : (0 : Int) < (b.length : Int) - 1)
  obtain ⟨i, hi⟩ : ∃ i : Nat, k % ((b.length : Int) - 1) = (i : Int) := ⟨(k % ((b.length : Int) - 1)).toNat, by omega⟩
  have hil : i + 1 < b.length := by omega
  have e1 : ((i : Int) + 1).toNat = i + 1 := by omega
  simp only [hi, e1, Int.toNat_natCast, List.nil_append]
  obtain ⟨s1, s2⟩ := swap_split hil
  refine ⟨⟨by omega, by omega⟩, ⟨hk, by omega⟩, by unfold roomW; simp only [List.length_nil]; omega, ⟨by omega, by omega⟩, ⟨by omega, by omega⟩, ⟨by omega, by omega⟩, ⟨by omega, by omega⟩, ⟨by omega, by omega⟩, ⟨by omega, by rw [List.length_set]; omega⟩, ⟨by omega, by omega⟩, ⟨by omega, by omega⟩, ⟨by omega, by omega⟩, ?_⟩
  rw [s2]
  have hp := hb _ (getD_mem (d := (0 : Int)) (show i < b.length by omega))
  have hq := hb _ (getD_mem (d := (0 : Int)) hil)
  have hbc : ByteL (b.take i ++ (b.getD (i + 1) 0 :: b.getD i 0 :: b.drop (i + 2))) := by
    intro x hx
    simp only [List.mem_append, List.mem_cons] at hx
    rcases hx with hx | rfl | rfl | hx
    · exact hb x (List.mem_of_mem_take hx)
    · exact hq
    · exact hp
    · exact hb x (List.mem_of_mem_drop hx)
  refine VC8_of hbc (by rw [← s2]; simp; omega) (VC9_of (by simp [sumB]) ?_)
  have hs : sumF (0, 0) b = sumF (0, 0) (b.take i ++ (b.getD i 0 :: b.getD (i + 1) 0 :: b.drop (i + 2))) := by rw [← s1]
  have hf1 : Fits (sumF (0, 0) b) := sumF_fits _ _ ⟨⟨by simp, by simp⟩, ⟨by simp, by simp⟩⟩
  have hf2 : Fits (sumF (0, 0) (b.take i ++ (b.getD (i + 1) 0 :: b.getD i 0 :: b.drop (i + 2)))) := sumF_fits _ _ ⟨⟨by simp, by simp⟩, ⟨by simp, by simp⟩⟩
  have key : (sumF (0, 0) (b.take i ++ (b.getD (i + 1) 0 :: b.getD i 0 :: b.drop (i + 2))) = sumF (0, 0) b) ↔ b.getD i 0 = b.getD (i + 1) 0 := by
    rw [hs] at hf1 ⊢
    generalize b.getD i 0 = p at *
    generalize b.getD (i + 1) 0 = q at *
    generalize b.drop (i + 2) = B at *
    have hf0 : Fits (sumF (0, 0) (b.take i)) := sumF_fits _ _ ⟨⟨by simp, by simp⟩, ⟨by simp, by simp⟩⟩
    have app : ∀ l, sumF (0, 0) (b.take i ++ l) = sumF (sumF (0, 0) (b.take i)) l := fun l => by unfold sumF; rw [List.foldl_append]
    rw [app, app] at *
    generalize sumF (0, 0) (b.take i) = s at *
    obtain ⟨x, y⟩ := s
    obtain ⟨⟨x0, x1⟩, ⟨y0, y1⟩⟩ := hf0
    dsimp only at x0 x1 y0 y1
    have st : ∀ p q : Int, sumF (x, y) (p :: q :: B) = sumF (((x + p) % 257 + q) % 257, ((y + (x + p) % 257) % 257 + ((x + p) % 257 + q) % 257) % 257) B := fun p q => rfl
    rw [st, st] at *
    have ex : ((x + q) % 257 + p) % 257 = ((x + p) % 257 + q) % 257 := by omega
    rw [ex] at *
    obtain ⟨d1, d2⟩ := sumF_diff B (((x + p) % 257 + q) % 257) (((y + (x + q) % 257) % 257 + ((x + p) % 257 + q) % 257) % 257) (((y + (x + p) % 257) % 257 + ((x + p) % 257 + q) % 257) % 257)
    constructor
    · intro h
      have h2 := d2.2 (by rw [h])
      omega
    · intro h
      subst h
      rfl
  have hbool : (decide (sumB (sumF (0, 0) (b.take i ++ (b.getD (i + 1) 0 :: b.getD i 0 :: b.drop (i + 2)))) = sumB (sumF (0, 0) b))) = decide (b.getD i 0 = b.getD (i + 1) 0) := by
    rw [decide_eq_decide, sumB_inj hf2 hf1, key]
  rw [hbool]
  simp
theorem byteL_of {b : List Int} (h : Ok (.sl (.int .u8)) b) : ByteL b := by
  intro x hx
  have h1 : IntKind.u8.min ≤ x ∧ x ≤ IntKind.u8.max := h.2 x hx
  simp [IntKind.min, IntKind.max, IntKind.signed, IntKind.bits] at h1
  exact h1
theorem u16_nn {k : Int} (h : Ok (.int .u16) k) : 0 ≤ k := by
  have h1 : IntKind.u16.min ≤ k ∧ k ≤ IntKind.u16.max := h
  simp [IntKind.min, IntKind.max, IntKind.signed, IntKind.bits] at h1
  exact h1.1
end Dec
