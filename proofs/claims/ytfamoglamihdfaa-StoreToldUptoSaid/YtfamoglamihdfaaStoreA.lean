/-
  The binary format of forests in plain Lean: it comes back, and one or two changed bytes are told.
-/
import Derived.Test.YtfamoglamihdfaaSum
import Derived.Test.YtfamoglamihdfaaLib
set_option linter.unusedSimpArgs false
set_option linter.unusedVariables false
namespace Dec
open Go

abbrev Spot := Int × (Int × (Int × List (List Int)))
abbrev Thk := List Spot × Int

def wayN (w : List Int) : List Int := (w.length : Int) :: w
def spotN (s : Spot) : List Int := s.1 :: s.2.1 :: s.2.2.1 :: (s.2.2.2.length : Int) :: s.2.2.2.flatMap wayN
/-- all numbers of a forest -/
def nums (t : Thk) : List Int := t.2 :: (t.1.length : Int) :: t.1.flatMap spotN

def OkNum (x : Int) : Prop := 0 ≤ x ∧ x ≤ 65535

def lo (x : Int) : Int := IntKind.wrap .u8 x
def hi (x : Int) : Int := IntKind.wrap .u8 (bShr .i64 x 8)
def enc1 (x : Int) : List Int := [lo x, hi x]
def encN (l : List Int) : List Int := l.flatMap enc1

theorem lo_eq (x : Int) : lo x = x % 256 := by simp [lo, IntKind.wrap, IntKind.signed, IntKind.bits]
theorem shr_eq (x : Int) : bShr .i64 x 8 = x / 256 := by
  simp only [bShr, IntKind.bits]
  show x.fdiv 256 = x / 256
  rw [Int.fdiv_eq_ediv_of_nonneg _ (by omega)]
theorem hi_eq (x : Int) : hi x = x / 256 % 256 := by
  unfold hi
  rw [shr_eq]
  simp [IntKind.wrap, IntKind.signed, IntKind.bits]
theorem shl_eq {x : Int} (h : 0 ≤ x ∧ x ≤ 255) : bShl .i64 x 8 = x * 256 := by
  simp only [bShl, IntKind.bits]
  show IntKind.wrap .i64 (x * 256) = x * 256
  exact wrap64 ⟨by omega, by omega⟩

theorem enc_lo_hi {x : Int} (h : OkNum x) : lo x + hi x * 256 = x ∧ (0 ≤ lo x ∧ lo x ≤ 255) ∧ (0 ≤ hi x ∧ hi x ≤ 255) := by
  rw [lo_eq, hi_eq]
  unfold OkNum at h
  omega

theorem lo_hi_enc {a b : Int} (ha : 0 ≤ a ∧ a ≤ 255) (hb : 0 ≤ b ∧ b ≤ 255) : OkNum (a + b * 256) ∧ lo (a + b * 256) = a ∧ hi (a + b * 256) = b := by
  rw [lo_eq, hi_eq]
  unfold OkNum
  omega

theorem encN_cons (x : Int) (l : List Int) : encN (x :: l) = lo x :: hi x :: encN l := rfl
theorem encN_app (a b : List Int) : encN (a ++ b) = encN a ++ encN b := by simp [encN]
theorem encN_len : ∀ l : List Int, (encN l).length = 2 * l.length
  | [] => rfl
  | x :: l => by rw [encN_cons, List.length_cons, List.length_cons, encN_len l, List.length_cons]; omega
theorem encN_byte : ∀ {l : List Int}, (∀ x ∈ l, OkNum x) → ByteL (encN l)
  | [], _ => by simp [encN, ByteL]
  | x :: l, h => by
    intro y hy
    rw [encN_cons] at hy
    have := enc_lo_hi (h x (by simp))
    rcases List.mem_cons.1 hy with rfl | hy
    · exact this.2.1
    rcases List.mem_cons.1 hy with rfl | hy
    · exact this.2.2
    · exact encN_byte (fun z hz => h z (by simp [hz])) y hy

/-! ### reading -/

def rd (r : List Int) (bad : Bool) : Int × List Int × Bool := match r with
  | a :: b :: r => (a + b * 256, r, bad)
  | _ => (0, r, true)

def pW : Nat → List Int → List Int → Bool → List Int × List Int × Bool
  | 0, w, r, bad => (w, r, bad)
  | n + 1, w, r, bad => if bad = true then (w, r, bad) else pW n (w ++ [(rd r bad).1]) (rd r bad).2.1 (rd r bad).2.2

def pWs : Nat → List (List Int) → List Int → Bool → List (List Int) × List Int × Bool
  | 0, ws, r, bad => (ws, r, bad)
  | n + 1, ws, r, bad => if bad = true then (ws, r, bad) else
    let x := rd r bad
    let y := pW x.1.toNat [] x.2.1 x.2.2
    pWs n (ws ++ [y.1]) y.2.1 y.2.2

def pSp (r : List Int) (bad : Bool) : Spot × List Int × Bool :=
  let a := rd r bad
  let b := rd a.2.1 a.2.2
  let c := rd b.2.1 b.2.2
  let d := rd c.2.1 c.2.2
  let e := pWs d.1.toNat [] d.2.1 d.2.2
  ((a.1, (b.1, (c.1, e.1))), e.2.1, e.2.2)

def pS : Nat → List Spot → List Int → Bool → List Spot × List Int × Bool
  | 0, l, r, bad => (l, r, bad)
  | n + 1, l, r, bad => if bad = true then (l, r, bad) else pS n (l ++ [(pSp r bad).1]) (pSp r bad).2.1 (pSp r bad).2.2

def parse (r : List Int) : Thk × List Int × Bool :=
  let a := rd r false
  let b := rd a.2.1 a.2.2
  let c := pS b.1.toNat [] b.2.1 b.2.2
  ((c.1, a.1), c.2.1, c.2.2)

/-! ### what is written is read -/

theorem rd_enc {x : Int} (h : OkNum x) (r : List Int) (bad : Bool) : rd (lo x :: hi x :: r) bad = (x, r, bad) := by
  simp only [rd, (enc_lo_hi h).1]

theorem pW_enc : ∀ (w acc r : List Int), (∀ x ∈ w, OkNum x) → pW w.length acc (encN w ++ r) false = (acc ++ w, r, false)
  | [], acc, r, _ => by simp [pW, encN]
  | x :: w, acc, r, h => by
    simp only [List.length_cons, pW, encN_cons, List.cons_append, rd_enc (h x (by simp)), Bool.false_eq_true, if_false]
    rw [pW_enc w _ r (fun y hy => h y (by simp [hy]))]
    simp

theorem pWs_enc : ∀ (ws acc : List (List Int)) (r : List Int), (∀ x ∈ ws.flatMap wayN, OkNum x) → pWs ws.length acc (encN (ws.flatMap wayN) ++ r) false = (acc ++ ws, r, false)
  | [], acc, r, _ => by simp [pWs, encN]
  | w :: ws, acc, r, h => by
    have h1 : OkNum (w.length : Int) := h _ (by simp [wayN])
    have h2 : ∀ x ∈ w, OkNum x := fun x hx => h x (by simp [wayN, hx])
    have h3 : ∀ x ∈ ws.flatMap wayN, OkNum x := fun x hx => h x (by rw [List.flatMap_cons, List.mem_append]; exact .inr hx)
    have e : encN ((w :: ws).flatMap wayN) ++ r = lo (w.length : Int) :: hi (w.length : Int) :: (encN w ++ (encN (ws.flatMap wayN) ++ r)) := by
      rw [List.flatMap_cons, encN_app]
      simp [wayN, encN_cons]
    simp only [List.length_cons, pWs, e, rd_enc h1, Bool.false_eq_true, if_false, Int.toNat_natCast]
    rw [pW_enc w [] _ h2]
    simp only [List.nil_append]
    rw [pWs_enc ws _ r h3]
    simp

theorem pSp_enc {s : Spot} (h : ∀ x ∈ spotN s, OkNum x) (r : List Int) : pSp (encN (spotN s) ++ r) false = (s, r, false) := by
  have e : encN (spotN s) ++ r = lo s.1 :: hi s.1 :: lo s.2.1 :: hi s.2.1 :: lo s.2.2.1 :: hi s.2.2.1 :: lo (s.2.2.2.length : Int) :: hi (s.2.2.2.length : Int) :: (encN (s.2.2.2.flatMap wayN) ++ r) := by
    simp [spotN, encN_cons]
  have h0 : OkNum s.1 := h _ (by simp [spotN])
  have h1 : OkNum s.2.1 := h _ (by simp [spotN])
  have h2 : OkNum s.2.2.1 := h _ (by simp [spotN])
  have h3 : OkNum (s.2.2.2.length : Int) := h _ (by simp [spotN])
  have h4 : ∀ x ∈ s.2.2.2.flatMap wayN, OkNum x := fun x hx => h x (by simp only [spotN, List.mem_cons]; exact .inr (.inr (.inr (.inr hx))))
  rw [e]
  simp only [pSp, rd_enc h0, rd_enc h1, rd_enc h2, rd_enc h3, Int.toNat_natCast]
  rw [pWs_enc _ [] r h4]
  simp

theorem pS_enc : ∀ (l acc : List Spot) (r : List Int), (∀ x ∈ l.flatMap spotN, OkNum x) → pS l.length acc (encN (l.flatMap spotN) ++ r) false = (acc ++ l, r, false)
  | [], acc, r, _ => by simp [pS, encN]
  | s :: l, acc, r, h => by
    have h1 : ∀ x ∈ spotN s, OkNum x := fun x hx => h x (by rw [List.flatMap_cons, List.mem_append]; exact .inl hx)
    have h3 : ∀ x ∈ l.flatMap spotN, OkNum x := fun x hx => h x (by rw [List.flatMap_cons, List.mem_append]; exact .inr hx)
    have e : encN ((s :: l).flatMap spotN) ++ r = encN (spotN s) ++ (encN (l.flatMap spotN) ++ r) := by
      rw [List.flatMap_cons, encN_app]
      simp
    rw [e]
    simp only [List.length_cons, pS, Bool.false_eq_true, if_false]
    rw [pSp_enc h1]
    simp only
    rw [pS_enc l _ r h3]
    simp

theorem parse_enc {t : Thk} (h : ∀ x ∈ nums t, OkNum x) : parse (encN (nums t)) = (t, [], false) := by
  have h0 : OkNum t.2 := h _ (by simp [nums])
  have h1 : OkNum (t.1.length : Int) := h _ (by simp [nums])
  have h2 : ∀ x ∈ t.1.flatMap spotN, OkNum x := fun x hx => h x (by simp only [nums, List.mem_cons]; exact .inr (.inr hx))
  have e : encN (nums t) = lo t.2 :: hi t.2 :: lo (t.1.length : Int) :: hi (t.1.length : Int) :: (encN (t.1.flatMap spotN) ++ []) := by
    simp [nums, encN_cons]
  rw [e]
  simp only [parse, rd_enc h0, rd_enc h1, Int.toNat_natCast]
  rw [pS_enc _ [] [] h2]
  simp

/-! ### what is read was written so -/

theorem ByteL.tail {a b : Int} {r : List Int} (h : ByteL (a :: b :: r)) : (0 ≤ a ∧ a ≤ 255) ∧ (0 ≤ b ∧ b ≤ 255) ∧ ByteL r :=
  ⟨h a (by simp), h b (by simp), fun x hx => h x (by simp [hx])⟩

theorem rd_back {r r' : List Int} {bad : Bool} {x : Int} (hr : ByteL r) (h : rd r bad = (x, r', false)) : bad = false ∧ OkNum x ∧ r = enc1 x ++ r' ∧ ByteL r' := by
  unfold rd at h
  split at h
  · rename_i a b r2
    obtain ⟨h1, h2, h3⟩ := hr.tail
    obtain ⟨k1, k2, k3⟩ := lo_hi_enc h1 h2
    simp only [Prod.mk.injEq] at h
    obtain ⟨rfl, rfl, rfl⟩ := h
    exact ⟨rfl, k1, by simp [enc1, k2, k3], h3⟩
  · simp at h

theorem rd_byte {r : List Int} {bad : Bool} (hr : ByteL r) : ByteL (rd r bad).2.1 ∧ OkNum (rd r bad).1 := by
  unfold rd
  split
  · rename_i a b r2
    obtain ⟨h1, h2, h3⟩ := hr.tail
    exact ⟨h3, (lo_hi_enc h1 h2).1⟩
  · exact ⟨hr, by unfold OkNum; simp⟩

theorem pW_back : ∀ (n : Nat) (acc r : List Int) (bad : Bool) {w r' : List Int}, ByteL r → pW n acc r bad = (w, r', false) → bad = false ∧ ByteL r' ∧ ∃ v, w = acc ++ v ∧ v.length = n ∧ r = encN v ++ r' ∧ ∀ x ∈ v, OkNum x
  | 0, acc, r, bad, w, r', hr, h => by
    simp only [pW, Prod.mk.injEq] at h
    obtain ⟨rfl, rfl, rfl⟩ := h
    exact ⟨rfl, hr, [], by simp, rfl, by simp [encN], by simp⟩
  | n + 1, acc, r, bad, w, r', hr, h => by
    simp only [pW] at h
    cases bad with
    | true => simp at h
    | false =>
      simp only [Bool.false_eq_true, if_false] at h
      have hb := rd_byte (bad := false) hr
      generalize hx : rd r false = q at h hb
      obtain ⟨x, r1, b1⟩ := q
      simp only at h hb
      obtain ⟨hb1, h2, v, h3, h4, h5, h6⟩ := pW_back n _ r1 b1 hb.1 h
      subst hb1
      obtain ⟨_, k2, k3, _⟩ := rd_back hr hx
      refine ⟨rfl, h2, x :: v, by rw [h3]; simp, by simp [h4], by rw [k3, h5]; simp [encN, enc1], fun y hy => ?_⟩
      rcases List.mem_cons.1 hy with rfl | hy
      · exact k2
      · exact h6 y hy

theorem pWs_back : ∀ (n : Nat) (acc : List (List Int)) (r : List Int) (bad : Bool) {ws : List (List Int)} {r' : List Int}, ByteL r → pWs n acc r bad = (ws, r', false) → bad = false ∧ ByteL r' ∧ ∃ v, ws = acc ++ v ∧ v.length = n ∧ r = encN (v.flatMap wayN) ++ r' ∧ ∀ x ∈ v.flatMap wayN, OkNum x
  | 0, acc, r, bad, w, r', hr, h => by
    simp only [pWs, Prod.mk.injEq] at h
    obtain ⟨rfl, rfl, rfl⟩ := h
    exact ⟨rfl, hr, [], by simp, rfl, by simp [encN], by simp⟩
  | n + 1, acc, r, bad, w, r', hr, h => by
    simp only [pWs] at h
    cases bad with
    | true => simp at h
    | false =>
      simp only [Bool.false_eq_true, if_false] at h
      have hb := rd_byte (bad := false) hr
      generalize hx : rd r false = q at h hb
      obtain ⟨x, r1, b1⟩ := q
      simp only at h hb
      generalize hy : pW x.toNat [] r1 b1 = z at h
      obtain ⟨y, r2, b2⟩ := z
      simp only at h
      have hb2 : ByteL r2 := by
        cases b2 with
        | false => exact (pW_back _ _ _ _ hb.1 hy).2.1
        | true =>
          exfalso
          cases n with
          | zero => simp [pWs] at h
          | succ n => simp [pWs] at h
      obtain ⟨hbb, h2, v, h3, h4, h5, h6⟩ := pWs_back n _ r2 b2 hb2 h
      subst hbb
      obtain ⟨hb1, _, u, k1, k2, k3, k4⟩ := pW_back _ _ _ _ hb.1 hy
      subst hb1
      obtain ⟨_, q2, q3, _⟩ := rd_back hr hx
      simp only [List.nil_append] at k1
      subst k1
      have hxl : x = (y.length : Int) := by unfold OkNum at q2; omega
      refine ⟨rfl, h2, y :: v, by rw [h3]; simp, by simp [h4], ?_, fun z hz => ?_⟩
      · rw [q3, k3, h5, List.flatMap_cons, encN_app, hxl]
        simp [wayN, encN_cons, enc1]
      · rw [List.flatMap_cons, List.mem_append] at hz
        rcases hz with hz | hz
        · rcases List.mem_cons.1 hz with rfl | hz
          · rw [← hxl]; exact q2
          · exact k4 z hz
        · exact h6 z hz

theorem pSp_back {r r' : List Int} {bad : Bool} {s : Spot} (hr : ByteL r) (h : pSp r bad = (s, r', false)) : bad = false ∧ ByteL r' ∧ r = encN (spotN s) ++ r' ∧ ∀ x ∈ spotN s, OkNum x := by
  simp only [pSp] at h
  have hb0 := rd_byte (bad := bad) hr
  generalize h0 : rd r bad = q0 at h hb0
  obtain ⟨x0, r0, b0⟩ := q0
  simp only at h hb0
  have hb1 := rd_byte (bad := b0) hb0.1
  generalize h1 : rd r0 b0 = q1 at h hb1
  obtain ⟨x1, r1, b1⟩ := q1
  simp only at h hb1
  have hb2 := rd_byte (bad := b1) hb1.1
  generalize h2 : rd r1 b1 = q2 at h hb2
  obtain ⟨x2, r2, b2⟩ := q2
  simp only at h hb2
  have hb3 := rd_byte (bad := b2) hb2.1
  generalize h3 : rd r2 b2 = q3 at h hb3
  obtain ⟨x3, r3, b3⟩ := q3
  simp only at h hb3
  generalize h4 : pWs x3.toNat [] r3 b3 = z at h
  obtain ⟨ws, r4, b4⟩ := z
  simp only [Prod.mk.injEq] at h
  obtain ⟨rfl, rfl, rfl⟩ := h
  obtain ⟨rfl, k2, v, k3, k4, k5, k6⟩ := pWs_back _ _ _ _ hb3.1 h4
  simp only [List.nil_append] at k3
  subst k3
  obtain ⟨rfl, m2, m3, _⟩ := rd_back hb2.1 h3
  obtain ⟨rfl, n2, n3, _⟩ := rd_back hb1.1 h2
  obtain ⟨rfl, o2, o3, _⟩ := rd_back hb0.1 h1
  obtain ⟨rfl, p2, p3, _⟩ := rd_back hr h0
  have hx3 : x3 = (ws.length : Int) := by unfold OkNum at m2; omega
  refine ⟨rfl, k2, ?_, fun x hx => ?_⟩
  · rw [p3, o3, n3, m3, k5]
    simp [spotN, encN_cons, enc1, hx3]
  · simp only [spotN, List.mem_cons] at hx
    rcases hx with rfl | rfl | rfl | rfl | hx
    · exact p2
    · exact o2
    · exact n2
    · rw [← hx3]; exact m2
    · exact k6 x hx

theorem pS_back : ∀ (n : Nat) (acc : List Spot) (r : List Int) (bad : Bool) {l : List Spot} {r' : List Int}, ByteL r → pS n acc r bad = (l, r', false) → bad = false ∧ ByteL r' ∧ ∃ v, l = acc ++ v ∧ v.length = n ∧ r = encN (v.flatMap spotN) ++ r' ∧ ∀ x ∈ v.flatMap spotN, OkNum x
  | 0, acc, r, bad, w, r', hr, h => by
    simp only [pS, Prod.mk.injEq] at h
    obtain ⟨rfl, rfl, rfl⟩ := h
    exact ⟨rfl, hr, [], by simp, rfl, by simp [encN], by simp⟩
  | n + 1, acc, r, bad, w, r', hr, h => by
    simp only [pS] at h
    cases bad with
    | true => simp at h
    | false =>
      simp only [Bool.false_eq_true, if_false] at h
      generalize hx : pSp r false = q at h
      obtain ⟨s, r1, b1⟩ := q
      simp only at h
      cases b1 with
      | true =>
        exfalso
        cases n with
        | zero => simp [pS] at h
        | succ n => simp [pS] at h
      | false =>
        obtain ⟨_, k2, k3, k4⟩ := pSp_back hr hx
        obtain ⟨_, h2, v, h3, h4, h5, h6⟩ := pS_back n _ r1 false k2 h
        refine ⟨rfl, h2, s :: v, by rw [h3]; simp, by simp [h4], ?_, fun z hz => ?_⟩
        · rw [k3, h5, List.flatMap_cons, encN_app]
          simp
        · rw [List.flatMap_cons, List.mem_append] at hz
          rcases hz with hz | hz
          · exact k4 z hz
          · exact h6 z hz

theorem parse_back {r : List Int} {t : Thk} (hr : ByteL r) (h : parse r = (t, [], false)) : r = encN (nums t) ∧ ∀ x ∈ nums t, OkNum x := by
  simp only [parse] at h
  have hb0 := rd_byte (bad := false) hr
  generalize h0 : rd r false = q0 at h hb0
  obtain ⟨x0, r0, b0⟩ := q0
  simp only at h hb0
  have hb1 := rd_byte (bad := b0) hb0.1
  generalize h1 : rd r0 b0 = q1 at h hb1
  obtain ⟨x1, r1, b1⟩ := q1
  simp only at h hb1
  generalize h4 : pS x1.toNat [] r1 b1 = z at h
  obtain ⟨l, r4, b4⟩ := z
  simp only [Prod.mk.injEq] at h
  obtain ⟨rfl, rfl, rfl⟩ := h
  obtain ⟨rfl, k2, v, k3, k4, k5, k6⟩ := pS_back _ _ _ _ hb1.1 h4
  simp only [List.nil_append] at k3
  subst k3
  obtain ⟨rfl, o2, o3, _⟩ := rd_back hb0.1 h1
  obtain ⟨_, p2, p3, _⟩ := rd_back hr h0
  have hx1 : x1 = (l.length : Int) := by unfold OkNum at o2; omega
  refine ⟨?_, fun x hx => ?_⟩
  · rw [p3, o3, k5]
    simp [nums, encN_cons, enc1, hx1]
  · simp only [nums, List.mem_cons] at hx
    rcases hx with rfl | rfl | hx
    · exact p2
    · rw [← hx1]; exact o2
    · exact k6 x hx

/-! ### Fletcher: one changed byte, or two beside each other -/

theorem sumF_fst : ∀ (b : List Int) (x y : Int), ∃ s : Int, ∀ x' y' : Int, 0 ≤ x' → x' < 257 → (sumF (x', y') b).1 = (x' + s) % 257
  | [], x, y => ⟨0, fun x' y' h1 h2 => by simp only [sumF, List.foldl_nil]; omega⟩
  | c :: b, x, y => by
    obtain ⟨s, hs⟩ := sumF_fst b x y
    refine ⟨c + s, fun x' y' h1 h2 => ?_⟩
    have : sumF (x', y') (c :: b) = sumF (sumS (x', y') c) b := rfl
    rw [this]
    unfold sumS
    rw [hs _ _ (by omega) (by omega)]
    simp only
    omega

theorem fletcher {A C : List Int} {a b a' b' : Int} (ha : 0 ≤ a ∧ a ≤ 255) (hb : 0 ≤ b ∧ b ≤ 255) (ha' : 0 ≤ a' ∧ a' ≤ 255) (hb' : 0 ≤ b' ∧ b' ≤ 255)
    (h : sumF (0, 0) (A ++ a :: b :: C) = sumF (0, 0) (A ++ a' :: b' :: C)) : a = a' ∧ b = b' := by
  have key : ∀ p q : Int, sumF (0, 0) (A ++ p :: q :: C) = sumF (sumS (sumS (sumF (0, 0) A) p) q) C := by
    intro p q
    simp [sumF, List.foldl_append]
  rw [key, key] at h
  obtain ⟨⟨f1, f2⟩, ⟨f3, f4⟩⟩ := sumF_fits A (0, 0) ⟨⟨by simp, by simp⟩, ⟨by simp, by simp⟩⟩
  generalize sumF (0, 0) A = s at h f1 f2 f3 f4
  obtain ⟨x, y⟩ := s
  simp only at f1 f2 f3 f4
  simp only [sumS] at h
  obtain ⟨S, hS⟩ := sumF_fst C 0 0
  have h1 := congrArg Prod.fst h
  have h2 := congrArg Prod.snd h
  rw [hS _ _ (by omega) (by omega), hS _ _ (by omega) (by omega)] at h1
  have e1 : ((x + a) % 257 + b) % 257 = ((x + a') % 257 + b') % 257 := by omega
  rw [e1] at h2
  have h3 := (sumF_diff C (((x + a') % 257 + b') % 257) (((y + (x + a) % 257) % 257 + ((x + a') % 257 + b') % 257) % 257) (((y + (x + a') % 257) % 257 + ((x + a') % 257 + b') % 257) % 257)).2.2 (by rw [h2])
  omega

end Dec
