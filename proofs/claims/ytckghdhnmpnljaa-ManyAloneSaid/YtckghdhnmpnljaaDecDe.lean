/-
Deep rows: frozen; nil slices told as deep rows.
-/
import Derived.Test.YtckghdhnmpnljaaDecDd
set_option linter.unusedSimpArgs false
set_option linter.unusedVariables false
namespace Dec
open Go Go.RowKit
def St.freezeD (st : St) (r : Nat) : Option (Prop × St × List (Nat × Nat)) :=
  match st.con [] r with
  | some (.deep _ _ t l []) => some (True, st.frozen r (Cl.subD (t := .sl t) r l), [])
  | _ => none
section
variable {M : Md → Prop} {P : Program} {w0 w : World} {S0 : Base} {G : Ghost} {st st' : St} {a : Act} {ops : Array Oper} {Q : XE → St → Prop} {D : List Nat} {C : List (Nat × Nat)}
theorem encl_flat {α : Type} {E : α → List Value → Prop} : ∀ {l : List α} {xss : List (List Value)}, xss.length = l.length → (∀ (i : Nat) (x : α), l[i]? = some x → ∃ cs, xss[i]? = some cs ∧ E x cs) → EncL E l xss.flatten
  | [], [], _, _ => rfl
  | [], _ :: _, h, _ => by simp at h
  | _ :: _, [], h, _ => by simp at h
  | x :: l, c :: xss, h, H => by
    obtain ⟨cs, h1, h2⟩ := H 0 x rfl
    simp at h1
    subst h1
    exact ⟨c, xss.flatten, rfl, h2, encl_flat (by simpa using h) fun i y hy => by simpa using H (i + 1) y (by simpa using hy)⟩
theorem trn_freeze {r : Nat} {ob : Prop} (h : st.freezeD r = some (ob, st', C)) (hob : ob) : Trn st st' C := by
  intro w0 S0 G a w hs
  unfold St.freezeD at h
  split at h
  · rename_i e E t l hcon
    injection h with h; injection h with e1 h; injection h with e2 e3; subst e1 e2 e3
    obtain ⟨xss, Bs, ho, hml, hcl, hrow, hfn, hBs, _⟩ := hs.con_ holds_nil hcon
    let NB : List Nat := (G.rho r).ownBlock.toList ++ Bs.flatten
    let G' : Ghost := { S := fun b => G.S b ∨ b ∈ NB, col := fun b => if b ∈ NB then none else G.col b, rho := G.rho }
    have hNB : ∀ b ∈ NB, G.col b = some r := fun b hb => by
      rcases List.mem_append.1 hb with hb | hb
      · exact hcl b (by simpa using hb)
      · exact (hBs b hb).1
    have hS : ∀ b, G.S b → G'.S b := fun b hb => .inl hb
    have hkeep : ∀ (x : Cl) (v : Value), ClRep w G x v → ClRep w G' x v := fun x v hx => ClRep.keep (w := w) (G := G) (fun b hb => ⟨hS b hb, rfl⟩) (fun _ _ => rfl) hx
    have hrowE : Enc w G'.S (.sl t) l [G.rho r] := by
      obtain ⟨ad, c, hv, hc, hm, _⟩ := owns_form ho
      refine ⟨ad, c, by rw [hv], hc, hm, ?_⟩
      rcases ho.2 with ⟨e0, h0⟩ | ⟨g, cap, cur, e0, hb0, hb, hnc, hcm, hcs, htk⟩
      · left; exact List.eq_nil_of_length_eq_zero h0
      · right
        rw [hv] at e0
        injection e0 with e4 e5 e6
        subst e4
        refine ⟨g, 0, cur, e, _, xss.flatten, rfl, .inr (List.mem_append_left _ (by rw [hv]; simp [Value.ownBlock])), hb, encl_flat hrow.len fun i x hx => ?_, fun j u hj => ?_⟩
        · obtain ⟨cs, B, k1, k2, k3⟩ := hrow.el i x hx (by simp)
          exact ⟨cs, k1, k3.enc hS fun b hb => .inr (List.mem_append_right _ (List.mem_flatten.2 ⟨B, List.mem_of_getElem? k2, hb⟩))⟩
        · rw [← htk, List.getElem?_take] at hj
          split at hj
          · rw [Nat.zero_add]; simpa using hj
          · cases hj
    have hf : ∀ (x : Cl) (v : Value), ClRep w G x v → ClRep w G' (Cl.subD (t := .sl t) r l x) v := by
      intro x v hx
      have h0 := hkeep x v hx
      cases x with
      | own q =>
        simp only [Cl.subD]
        split
        · rename_i hq
          have : q = r := by simpa using hq
          subst this
          obtain ⟨rfl, _⟩ := hx
          exact hrowE
        · exact h0
      | _ =>
        simp only [Cl.subD]
        split
        · trivial
        · exact h0
    refine ⟨G', ?_, fun b z hz => .inl ?_⟩
    · refine hs.sub_map _ hS hf ?_ ?_ rfl (fun x hx => ?_) (fun x hx hh => ?_)
      · rintro b (hb | hb)
        · exact hs.sub b hb
        · have := hs.colr b r (hNB b hb)
          exact ⟨this.2.1, .inr this.1.symm⟩
      · intro b q hq
        have hq' : (if b ∈ NB then none else G.col b) = some q := hq
        split at hq'
        · cases hq'
        · rename_i hne
          have := hs.colr b q hq'
          exact ⟨this.1, this.2.1, fun hh => hh.elim this.2.2 hne⟩
      · simp only [St.frozen, List.mem_map] at hx
        obtain ⟨x', hx', rfl⟩ := hx
        exact ⟨x'.2.2, hx', rfl⟩
      · simp only [St.frozen, List.mem_map, List.mem_filter, Bool.not_eq_true', beq_eq_false_iff_ne, ne_eq] at hx
        obtain ⟨x', ⟨hx', hne⟩, rfl⟩ := hx
        refine con_map (hs.hp x' hx' hh) hS hf rfl fun b hb => ?_
        show (if b ∈ NB then none else G.col b) = some x'.1
        rw [if_neg fun hm => by
          have := hNB b hm
          rw [hb] at this
          injection this with this
          exact hne this]
        exact hb
    · have hz' : (if b ∈ NB then none else G.col b) = some z := hz
      split at hz'
      · cases hz'
      · exact hz'
  · cases h
end
end Dec
