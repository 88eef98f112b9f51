/-
  Grammars in normal form: a derivation has one step less than twice the length (Chomsky).
-/
import Derived.Test.YtfpchbpnoggogaaGenPa
import Derived.Test.YtfpchbpnoggogaaTableB
set_option linter.unusedSimpArgs false
set_option linter.unusedVariables false
namespace Dec
open Go Go.Proofs Cfg

def badR (k : Int) (r : Rl) : Bool := if r.2.length = 1 then decide (k ≤ r.2.getD 0 0) else if r.2.length = 2 then decide (r.2.getD 0 0 < k) || decide (r.2.getD 1 0 < k) else true

/-- normal form -/
def NF (g : Gr) : Prop := ∀ r ∈ g.2.2.2, (∃ s, r.2 = [s] ∧ s < g.1) ∨ ∃ a b, r.2 = [a, b] ∧ ¬ a < g.1 ∧ ¬ b < g.1

theorem nf_iff {g : Gr} : (g.2.2.2.any (badR g.1)) = false ↔ NF g := by
  rw [List.any_eq_false]
  constructor
  · intro h r hr
    have := h r hr
    unfold badR at this
    obtain ⟨A, l⟩ := r
    match l, this with
    | [], this => simp at this
    | [s], this => exact .inl ⟨s, rfl, by simpa using this⟩
    | [a, b], this => exact .inr ⟨a, b, rfl, by simp at this; omega, by simp at this; omega⟩
    | _ :: _ :: _ :: _, this => simp at this
  · intro h r hr
    rcases h r hr with ⟨s, e, hs⟩ | ⟨a, b, e, ha, hb⟩
    · simp [badR, e]; omega
    · simp [badR, e]; omega

theorem VC48_of {g : Gr} (hg : GoodG g) {K : Bool → Prop} (h : K (!(g.2.2.2.any (badR g.1)))) : VC48 g K := by
  unfold VC48
  have hf := hg.few
  refine VC77_of (badR g.1) (by omega) (fun x hx K' hK => ?_) h
  unfold VC78
  unfold badR at hK
  refine ⟨fun h1 => ?_, fun h1 => ⟨fun h2 => ?_, fun h2 => ?_⟩⟩
  · simp only [decide_eq_true_eq] at h1
    rw [if_pos (by omega)] at hK
    exact ⟨⟨by omega, by omega⟩, hK⟩
  · simp only [decide_eq_false_iff_not, decide_eq_true_eq] at h1 h2
    rw [if_neg (by omega), if_pos (by omega)] at hK
    exact ⟨⟨by omega, by omega⟩, fun _ => ⟨by omega, by omega⟩, hK⟩
  · simp only [decide_eq_false_iff_not] at h1 h2
    rw [if_neg (by omega), if_neg (by omega)] at hK
    exact hK

theorem nf_row {g : Gr} (hn : NF g) {w : List Int} {l : List Int} {i j : Nat} (h : Row g.1 g.2.2.2 w l i j) : l ≠ [] → i < j := by
  induction h with
  | nil i h => intro hh; exact absurd rfl hh
  | sym s l i j hs hi h ih => intro _; have := h.le; omega
  | name s l r i m j hs hr h1 h2 ih1 ih2 =>
    intro _
    have hrne : r ≠ [] := by
      rcases hn _ hr with ⟨s, e, _⟩ | ⟨a, b, e, _⟩
      · simp at e; simp [e]
      · simp at e; simp [e]
    have := ih1 hrne
    have := h2.le
    omega

theorem nf_der {g : Gr} (hn : NF g) {w : List Int} {A : Int} {i j : Nat} (h : Der g.1 g.2.2.2 w A i j) : i < j := by
  obtain ⟨l, hl, hr⟩ := h
  refine nf_row hn hr ?_
  rcases hn _ hl with ⟨s, e, _⟩ | ⟨a, b, e, _⟩
  · simp at e; simp [e]
  · simp at e; simp [e]

theorem row_one {K : Int} {R : Rules} {w : List Int} {s : Int} {i j : Nat} (hs : s < K) (hj : j ≤ w.length) : Row K R w [s] i j ↔ j = i + 1 ∧ w[i]? = some s := by
  constructor
  · intro h
    cases h with
    | sym s l i j hs hi h =>
      cases h with
      | nil i h => exact ⟨rfl, hi⟩
    | name s l r i m j hs' hr h1 h2 => exact absurd hs hs'
  · rintro ⟨rfl, h⟩
    exact .sym s [] i _ hs h (.nil _ hj)

theorem row_two {K : Int} {R : Rules} {w : List Int} {a b : Int} {i j : Nat} (ha : ¬ a < K) (hb : ¬ b < K) (h : Row K R w [a, b] i j) : ∃ m, Der K R w (a - K) i m ∧ Der K R w (b - K) m j := by
  cases h with
  | sym s l i j hs hi h => exact absurd hs ha
  | name s l r i m j hs hr h1 h2 =>
    cases h2 with
    | sym s l i j hs hi h => exact absurd hs hb
    | name s l r' i m' j hs' hr' h3 h4 =>
      cases h4 with
      | nil i h => exact ⟨m, ⟨_, hr, h1⟩, ⟨_, hr', h3⟩⟩

theorem derive50_of {g : Gr} {w : List Int} {sv : Tbl} (hg : GoodG g) (hw : GoodW g.1 w) (hn : NF g) (ht : TabOk w.length sv) (hs : ∀ i j (a : Nat), i ≤ j → j ≤ w.length → (bt (tb sv i j) a = true ↔ Der g.1 g.2.2.2 w (a : Int) i j)) :
    ∀ (n : Nat) (A x y : Int) (i j : Nat) (l : List Int) {K : List Int → Prop}, x = (i : Int) → y = (j : Int) → j - i < n → j ≤ w.length → Der g.1 g.2.2.2 w A i j → l.length + 2 * (j - i) ≤ 100000 → (∀ l' : List Int, l'.length + 1 = l.length + 2 * (j - i) → K l') → VCc50_it g.1 g.2.1 g.2.2.1 g.2.2.2 w sv n A x y l K
  | 0, A, x, y, i, j, l, K, _, _, hlt, _, _, _, _ => by omega
  | n + 1, A, x, y, i, j, l, K, hx, hy, hlt, hj, hd, hl, h => by
    subst hx hy
    have hij := nf_der hn hd
    have hwl := hw.1
    have hfew := hg.few
    show VCc50 g.1 g.2.1 g.2.2.1 g.2.2.2 w sv (VCc50_it g.1 g.2.1 g.2.2.1 g.2.2.2 w sv n) A (i : Int) (j : Int) l K
    unfold VCc50
    refine loop_count g.2.2.2.length (fun v => ∀ u, u < v → (g.2.2.2.getD u (0, [])).1 = A → ¬ Row g.1 g.2.2.2 w (g.2.2.2.getD u (0, [])).2 i j) (fun u hu => by omega) ?_
    intro v hv hP X hX
    unfold VCc50_l1
    simp only [Int.toNat_natCast]
    refine ⟨fun hb => ?_, fun hb => ?_⟩
    · simp only [decide_eq_true_eq] at hb
      have hvl : v < g.2.2.2.length := by omega
      obtain ⟨r, hr⟩ : ∃ r, g.2.2.2.getD v (0, []) = r := ⟨_, rfl⟩
      have hrm : r ∈ g.2.2.2 := by rw [← hr]; exact getD_mem hvl
      have next : ((r.1 = A → ¬ Row g.1 g.2.2.2 w r.2 i j)) → VCc50_k2 (v : Int) X := by
        intro hno
        unfold VCc50_k2
        refine ⟨⟨by omega, by omega⟩, hX hvl fun u hu => ?_⟩
        by_cases huv : u < v
        · exact hP u huv
        · have : u = v := by omega
          subst this
          rw [hr]; exact hno
      have hright := hg.right r hrm
      have hk := hg.k
      have hn5 := hg.n
      simp only [hr]
      refine ⟨⟨by omega, by omega⟩, fun hne => next fun he => ?_, fun heq => ⟨fun h1 => ?_, fun h1 => ?_⟩⟩
      · simp [he] at hne
      · simp only [Bool.not_eq_false', decide_eq_true_eq] at heq h1
        rcases hn r hrm with ⟨s, e, hsk⟩ | ⟨a, b, e, _⟩
        · have hs0 := hright s (by rw [e]; simp)
          simp only [e, List.length_singleton]
          have e0 : ([s] : List Int).getD ((0 : Int)).toNat 0 = s := rfl
          simp only [e0]
          refine ⟨⟨by omega, by omega⟩, VC49_of hk ht ⟨hs0.1, by omega⟩ hj hwl (by omega) fun c hc => ⟨fun hct => ?_, fun hcf => next fun _ => ?_⟩⟩
          · have := hc.1 hct
            unfold SignS at this
            rw [if_pos hsk] at this
            refine ⟨by unfold roomN; try simp only [List.length_singleton]
                       omega, h _ ?_⟩
            simp only [List.length_append, List.length_singleton]
            omega
          · rw [e, row_one hsk hj]
            intro hh
            have := hc.2 (by unfold SignS; rw [if_pos hsk]; exact hh)
            rw [this] at hcf; cases hcf
        · rw [e] at h1; simp at h1
      · simp only [Bool.not_eq_false', decide_eq_true_eq, decide_eq_false_iff_not] at heq h1
        rcases hn r hrm with ⟨s, e, _⟩ | ⟨a, b, e, hak, hbk⟩
        · rw [e] at h1; simp at h1
        · have ha0 := hright a (by rw [e]; simp)
          have hb0 := hright b (by rw [e]; simp)
          refine ⟨⟨by omega, by omega⟩, ?_⟩
          refine Loop.by (fun s => ∃ m : Nat, s = (m : Int) ∧ i < m ∧ m ≤ j ∧ ∀ p, i < p → p < m → ¬ (Der g.1 g.2.2.2 w (a - g.1) i p ∧ Der g.1 g.2.2.2 w (b - g.1) p j)) (fun s => ((j : Int) - s).toNat) ⟨i + 1, by omega, by omega, by omega, fun p h1 h2 => by omega⟩ ?_
          rintro s ⟨m, rfl, hm1, hm2, hm3⟩ X2 hX2
          unfold VCc50_l2
          have e0 : ([a, b] : List Int).getD ((0 : Int)).toNat 0 = a := rfl
          have e1 : ([a, b] : List Int).getD ((1 : Int)).toNat 0 = b := rfl
          simp only [Int.toNat_natCast, hr, e, e0, e1]
          have hda : ∀ p q, p ≤ q → q ≤ w.length → (SignS g.1 w (Sv sv) a p q ↔ Der g.1 g.2.2.2 w (a - g.1) p q) := by
            intro p q h1 h2
            unfold SignS
            rw [if_neg hak]
            have := hs p q (a - g.1).toNat h1 h2
            rw [show (((a - g.1).toNat : Nat) : Int) = a - g.1 by omega] at this
            unfold Sv
            exact ⟨fun hh => this.1 hh.2, fun hh => ⟨by omega, this.2 hh⟩⟩
          have hdb : ∀ p q, p ≤ q → q ≤ w.length → (SignS g.1 w (Sv sv) b p q ↔ Der g.1 g.2.2.2 w (b - g.1) p q) := by
            intro p q h1 h2
            unfold SignS
            rw [if_neg hbk]
            have := hs p q (b - g.1).toNat h1 h2
            rw [show (((b - g.1).toNat : Nat) : Int) = b - g.1 by omega] at this
            unfold Sv
            exact ⟨fun hh => this.1 hh.2, fun hh => ⟨by omega, this.2 hh⟩⟩
          refine ⟨fun hlt2 => ?_, fun hge => ?_⟩
          · simp only [decide_eq_true_eq] at hlt2
            have nxt : ¬ (Der g.1 g.2.2.2 w (a - g.1) i m ∧ Der g.1 g.2.2.2 w (b - g.1) m j) → InR ((m : Int) + 1) ∧ X2 ((m : Int) + 1) := by
              intro hno
              refine ⟨⟨by omega, by omega⟩, hX2 _ ⟨m + 1, by omega, by omega, by omega, fun p h1 h2 => ?_⟩ (by omega)⟩
              by_cases hpm : p < m
              · exact hm3 p h1 hpm
              · have : p = m := by omega
                subst this; exact hno
            refine ⟨⟨by omega, by simp⟩, VC49_of hk ht ⟨ha0.1, by omega⟩ (by omega) hwl (by omega) fun c hc => ⟨fun _ => ⟨by omega, by simp⟩, ?_⟩⟩
            rw [hda i m (by omega) (by omega)] at hc
            refine gcall_both (fun hct => VC49_of hk ht ⟨hb0.1, by omega⟩ (by omega) hwl (by omega) fun c2 hc2 => ?_) (fun hcf => ⟨fun hcc => ?_, fun _ => nxt fun hh => ?_⟩)
            · rw [hdb m j (by omega) (by omega)] at hc2
              refine ⟨fun hcc => ?_, fun hcc => nxt fun hh => ?_⟩
              · rw [Bool.and_eq_true] at hcc
                have d1 := hc.1 hcc.1
                have d2 := hc2.1 hcc.2
                have l1 := nf_der hn d1
                have l2 := nf_der hn d2
                refine ⟨by unfold roomN; simp only [List.length_singleton]; omega, ⟨by omega, by simp⟩, ⟨by omega, by omega⟩, ?_⟩
                refine derive50_of hg hw hn ht hs n (a - g.1) (i : Int) (m : Int) i m (l ++ [(v : Int)]) rfl rfl (by omega) (by omega) d1 (by simp only [List.length_append, List.length_singleton]; omega) fun l1' hl1 => ?_
                simp only [List.length_append, List.length_singleton] at hl1
                refine ⟨⟨by omega, by simp⟩, ⟨by omega, by omega⟩, ?_⟩
                refine derive50_of hg hw hn ht hs n (b - g.1) (m : Int) (j : Int) m j l1' rfl rfl (by omega) hj d2 (by omega) fun l2' hl2 => h l2' (by omega)
              · have := hc2.2 hh.2
                rw [hct, this] at hcc; cases hcc
            · rw [hcf] at hcc; cases hcc
            · have := hc.2 hh.1
              rw [this] at hcf; cases hcf
          · simp only [decide_eq_false_iff_not] at hge
            unfold VCc50_k3
            refine next fun _ hrow => ?_
            rw [e] at hrow
            obtain ⟨p, d1, d2⟩ := row_two hak hbk hrow
            exact hm3 p (nf_der hn d1) (by have := nf_der hn d2; omega) ⟨d1, d2⟩
    · exfalso
      simp only [decide_eq_false_iff_not] at hb
      obtain ⟨q, hq, hrow⟩ := hd
      obtain ⟨u, hu, he⟩ := List.mem_iff_getElem.1 hq
      have := hP u (by omega) (by rw [getD_lt _ hu, he])
      rw [getD_lt _ hu, he] at this
      exact this hrow

theorem VC24_of {g : Gr} {w : List Int} {K : List Int × Int → Prop} (hbad : ∀ e, e ≠ 0 → ¬ (GoodG g ∧ GoodW g.1 w) → K ([], e)) (h1 : GoodG g → GoodW g.1 w → ¬ (NF g ∧ Der g.1 g.2.2.2 w g.2.2.1 0 w.length) → ∀ e, e ≠ 0 → K ([], e))
    (h2 : GoodG g → GoodW g.1 w → NF g → Der g.1 g.2.2.2 w g.2.2.1 0 w.length → ∀ l : List Int, l.length + 1 = 2 * w.length → K (l, 0)) : VC24 g w K := by
  unfold VC24
  refine VC44_of (fun e he hn => ⟨fun _ => hbad e he hn, fun hc => absurd (by simpa using hc) he⟩) (fun hg hw => ⟨fun hc => (by simp at hc), fun _ => VC48_of hg ⟨fun hc => ?_, fun hc => ?_⟩⟩)
  · refine h1 hg hw (fun hh => ?_) _ (by decide)
    rw [nf_iff.2 hh.1] at hc
    cases hc
  · simp only [Bool.not_not] at hc
    have hn := nf_iff.1 hc
    refine VC45_of hg hw.1 fun sv ht hs => ?_
    have hst := hg.start
    have hk := hg.k
    have hn5 := hg.n
    refine ⟨⟨by omega, by omega⟩, ?_⟩
    have := VC49_of (g := g) (w := w) (sv := sv) (s := g.1 + g.2.2.1) (i := 0) (j := w.length) hk ht ⟨by omega, by omega⟩ (Nat.le_refl _) hw.1 (Nat.zero_le _) (K := fun (ret40v : Bool) => (((!ret40v) = true → K (([] : (List Int)), (5 : Int))) ∧ ((!ret40v) = false → VCcr50 g.1 g.2.1 g.2.2.1 g.2.2.2 w sv g.2.2.1 (0 : Int) (w.length : Int) ([] : List Int) (fun (ret46v : (List Int)) => K (ret46v, (0 : Int)))))) fun c hc => ?_
    · exact this
    · have hder : c = true ↔ Der g.1 g.2.2.2 w g.2.2.1 0 w.length := by
        rw [hc]
        unfold SignS
        rw [if_neg (by omega), show g.1 + g.2.2.1 - g.1 = g.2.2.1 by omega]
        have := hs 0 w.length g.2.2.1.toNat (Nat.zero_le _) (Nat.le_refl _)
        rw [show ((g.2.2.1.toNat : Nat) : Int) = g.2.2.1 by omega] at this
        unfold Sv
        exact ⟨fun hh => this.1 hh.2, fun hh => ⟨hst.1, this.2 hh⟩⟩
      refine ⟨fun hcc => ?_, fun hcc => ?_⟩
      · refine h1 hg hw (fun hh => ?_) _ (by decide)
        rw [hder.2 hh.2] at hcc; cases hcc
      · simp only [Bool.not_eq_false'] at hcc
        have hd := hder.1 hcc
        exact ⟨w.length + 1, derive50_of hg hw hn ht hs (w.length + 1) g.2.2.1 0 (w.length : Int) 0 w.length [] rfl rfl (by omega) (Nat.le_refl _) hd (by have := hw.1; simp; omega) fun l hl => h2 hg hw hn hd l (by simpa using hl)⟩

theorem VC25_of {g : Gr} {K : Bool × Int → Prop} (hbad : ∀ e, e ≠ 0 → ¬ GoodG g → K (false, e)) (h : GoodG g → K (!(g.2.2.2.any (badR g.1)), 0)) : VC25 g K := by
  unfold VC25
  exact VC51_of (fun e he hn => ⟨fun _ => hbad e he hn, fun hc => absurd (by simpa using hc) he⟩) (fun hg => ⟨fun hc => (by simp at hc), fun _ => VC48_of hg (h hg)⟩)

/-- the law PlainLong -/
theorem plainLong (g : Gr) (w : List Int) : VC6 g w (fun b => b = true) := by
  unfold VC6
  refine VC24_of (fun e he hn => ?_) (fun hg hw hno e he => ?_) (fun hg hw hn hd l hl => ?_)
  · refine VC25_of (fun e2 he2 _ => VC21_of fun b hb => ⟨fun _ => (by simpa using he), fun hc => ?_⟩) (fun hg => VC21_of fun b hb => ⟨fun _ => (by simpa using he), fun hc => ?_⟩)
    · simp only [Bool.not_eq_false'] at hc
      exact absurd (hb.1 hc) hn
    · simp only [Bool.not_eq_false'] at hc
      exact absurd (hb.1 hc) hn
  · refine VC25_of (fun e2 he2 hn2 => absurd hg hn2) (fun _ => VC21_of fun b hb => ⟨fun hc => ?_, fun _ => VC23_of hg hw fun c hc => ⟨fun hcc => ?_, fun _ => ⟨fun _ => (by simp), fun hcc => absurd (by simpa using hcc) he⟩⟩⟩)
    · rw [hb.2 ⟨hg, hw⟩] at hc; cases hc
    · exfalso
      have h1 : (!g.2.2.2.any (badR g.1) && c) = false := by
        cases hx : (!g.2.2.2.any (badR g.1) && c) with
        | false => rfl
        | true =>
          rw [Bool.and_eq_true, Bool.not_eq_true'] at hx
          exact absurd ⟨nf_iff.1 hx.1, hc.1 hx.2⟩ hno
      simp [h1, he] at hcc
  · have hn' := nf_iff.2 hn
    refine VC25_of (fun e2 he2 hn2 => absurd hg hn2) (fun _ => VC21_of fun b hb => ⟨fun hc => ?_, fun _ => VC23_of hg hw fun c hc => ⟨fun hcc => ?_, fun _ => ⟨fun hcc => (by simp at hcc), fun _ => ⟨?_, ?_, ?_⟩⟩⟩⟩)
    · rw [hb.2 ⟨hg, hw⟩] at hc; cases hc
    · rw [hc.2 hd, hn'] at hcc
      simp at hcc
    · have := hw.1; exact ⟨by omega, by omega⟩
    · have := hw.1; exact ⟨by omega, by omega⟩
    · refine decide_eq_true ?_
      show (l.length : Int) = 2 * (w.length : Int) - 1
      omega

end Dec
