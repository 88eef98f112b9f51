/-
Rows whose elements have own rows and maps: what an element's cells are, opened and shut.
-/
import Derived.Test.YtckghdhnmpnljaaDecJ7
set_option linter.unusedSimpArgs false
set_option linter.unusedVariables false
namespace Dec
open Go Go.RowKit
def collD (st : St) (E : TypeId) : (t : Ty) → List Cl → Option (t.T × List Nat × List Cl)
  | .pr a b, cs => match collD st E a cs with
    | some (x, T1, r1) => (match collD st E b r1 with
      | some (y, T2, r2) => some ((x, y), T1 ++ T2, r2)
      | none => none)
    | none => none
  | .sl u, .own q :: r => (match st.con [] q with
    | some (.arr e v l) => (match Ty.same v u with
      | some h => if e == E then some (h.down ▸ l, [q], r) else none
      | none => none)
    | _ => none)
  | .sl _, .nils :: r => some ([], [], r)
  | .mp k v, .own q :: r => (match st.con [] q with
    | some (.dict k' v' l) => (match Ty.same k' k, Ty.same v' v with
      | some h1, some h2 => some (h1.down ▸ h2.down ▸ l, [q], r)
      | _, _ => none)
    | _ => none)
  | .int k, .p t x :: r => (match Ty.same t (.int k) with
    | some h => some (h.down ▸ x, [], r)
    | none => none)
  | .bool, .p t x :: r => (match Ty.same t .bool with
    | some h => some (h.down ▸ x, [], r)
    | none => none)
  | _, _ => none
def explD (E : TypeId) : (t : Ty) → t.T → List Nat → Option (List Cl × List (Nat × Con) × List Nat)
  | .pr a b, x, T => match explD E a x.1 T with
    | some (c1, h1, T1) => (match explD E b x.2 T1 with
      | some (c2, h2, T2) => some (c1 ++ c2, h1 ++ h2, T2)
      | none => none)
    | none => none
  | .sl u, l, q :: T => some ([.own q], [(q, .arr E u l)], T)
  | .mp k v, l, q :: T => some ([.own q], [(q, .dict k v l)], T)
  | .int k, x, T => some ([.p (.int k) x], [], T)
  | .bool, x, T => some ([.p .bool x], [], T)
  | _, _, _ => none
def vblk : Value → Option Nat
  | .map (some g) => some g
  | v => v.ownBlock
section
variable {P : Program} {w0 w : World} {S0 : Base} {G : Ghost} {st : St} {a : Act} {p : Path}
theorem DEnc.length {S : Nat → Prop} {E : TypeId} : ∀ {t : Ty} {x : t.T} {cs : List Value} {B : List Nat}, DEnc w S E t x cs B → cs.length = t.size
  | .int _, _, _, _, h => Enc.length h.1
  | .bool, _, _, _, h => Enc.length h.1
  | .ar _ _, _, _, _, h => Enc.length h.1
  | .tr, _, _, _, h => Enc.length h.1
  | .pr a b, _, _, _, ⟨c1, c2, B1, B2, e1, _, h1, h2⟩ => by rw [e1, List.length_append, DEnc.length h1, DEnc.length h2]; rfl
  | .sl u, _, _, _, ⟨v, xs, e1, _⟩ => by rw [e1]; rfl
  | .mp k v, _, _, _, ⟨g, es, ck, e1, _⟩ => by rw [e1]; rfl
theorem DEnc.one {S : Nat → Prop} {E : TypeId} : ∀ {t : Ty} {x : t.T} {cs : List Value} {B : List Nat}, DEnc w S E t x cs B → ∀ v ∈ cs, v.oneCell' = true
  | .int _, _, _, _, h => Enc.one h.1
  | .bool, _, _, _, h => Enc.one h.1
  | .ar _ _, _, _, _, h => Enc.one h.1
  | .tr, _, _, _, h => Enc.one h.1
  | .pr a b, _, _, _, ⟨c1, c2, B1, B2, e1, _, h1, h2⟩ => by
    intro v hv
    rw [e1, List.mem_append] at hv
    exact hv.elim (DEnc.one h1 v) (DEnc.one h2 v)
  | .sl u, _, _, _, ⟨v, xs, e1, _, ho, _⟩ => by
    obtain ⟨ad, c, e, _⟩ := owns_form ho
    rw [e1, e]; simp [Value.oneCell']
  | .mp k v, _, _, _, ⟨g, es, ck, e1, _⟩ => by rw [e1]; simp [Value.oneCell']
theorem DEnc.enc {S S' : Nat → Prop} {E : TypeId} (hS : ∀ b, S b → S' b) : ∀ {t : Ty} {x : t.T} {cs : List Value} {B : List Nat}, (∀ b ∈ B, S' b) → DEnc w S E t x cs B → Enc w S' t x cs
  | .int _, _, _, _, _, h => Enc.keep (fun b hb => ⟨hS b hb, rfl⟩) h.1
  | .bool, _, _, _, _, h => Enc.keep (fun b hb => ⟨hS b hb, rfl⟩) h.1
  | .ar _ _, _, _, _, _, h => Enc.keep (fun b hb => ⟨hS b hb, rfl⟩) h.1
  | .tr, _, _, _, _, h => Enc.keep (fun b hb => ⟨hS b hb, rfl⟩) h.1
  | .pr a b, _, _, _, hB, ⟨c1, c2, B1, B2, e1, e2, h1, h2⟩ => ⟨c1, c2, e1, DEnc.enc hS (fun b hb => hB b (by simp [e2, hb])) h1, DEnc.enc hS (fun b hb => hB b (by simp [e2, hb])) h2⟩
  | .mp k v, _, _, _, hB, ⟨g, es, ck, e1, e2, h1, h2, _⟩ => .inr ⟨g, es, ck, e1, hB g (by simp [e2]), h1, All2.imp (fun _ _ _ ⟨⟨c1, a1, a2⟩, c2, b1, b2⟩ => ⟨⟨c1, Enc.keep (fun b hb => ⟨hS b hb, rfl⟩) a1, a2⟩, c2, Enc.keep (fun b hb => ⟨hS b hb, rfl⟩) b1, b2⟩) h2⟩
  | .sl u, l, _, _, hB, ⟨v, xs, e1, h1, h2, h3, e2⟩ => by
    obtain ⟨ad, c, e, hc, hm, _⟩ := owns_form h2
    refine ⟨ad, c, by rw [e1, e], hc, hm, ?_⟩
    rcases h2.2 with ⟨e3, e4⟩ | ⟨g, cap, cur, e3, hb0, hb, hnc, hcm, hcs, htk⟩
    · left; exact List.eq_nil_of_length_eq_zero e4
    · right
      rw [e] at e3
      injection e3 with e4 e5 e6
      subst e4
      refine ⟨g, 0, cur, _, _, xs, rfl, hB g (by rw [e2, e]; simp [Value.ownBlock]), hb, EncL.imp (fun _ _ hh => Enc.keep (fun b hb => ⟨hS b hb, rfl⟩) hh) h1, fun j u hj => ?_⟩
      rw [← htk, List.getElem?_take] at hj
      split at hj
      · rw [Nat.zero_add]; simpa using hj
      · cases hj
theorem collD_rep (hs : SR w0 S0 G st a w) {E : TypeId} : ∀ {t : Ty} {cs : List Cl} {x : t.T} {T : List Nat} {r : List Cl} {vs : List Value}, collD st E t cs = some (x, T, r) → All2 (ClRep w G) cs vs →
    ∃ c rv B, vs = c ++ rv ∧ DEnc w G.S E t x c B ∧ All2 (ClRep w G) r rv ∧ (∀ b ∈ B, ∃ q ∈ T, G.col b = some q) ∧ (T.Nodup → B.Nodup)
  | .pr ta tb, cs, x, T, r, vs, h, hv => by
    simp only [collD] at h
    split at h
    · rename_i x1 T1 r1 h1
      split at h
      · rename_i x2 T2 r2 h2
        injection h with h; injection h with e1 h; injection h with e2 e3; subst e1 e2 e3
        obtain ⟨c1, rv1, B1, rfl, d1, k1, b1, n1⟩ := collD_rep hs h1 hv
        obtain ⟨c2, rv2, B2, rfl, d2, k2, b2, n2⟩ := collD_rep hs h2 k1
        refine ⟨c1 ++ c2, rv2, B1 ++ B2, by rw [List.append_assoc], ⟨c1, c2, B1, B2, rfl, rfl, d1, d2⟩, k2, fun b hb => ?_, fun hn => ?_⟩
        · rcases List.mem_append.1 hb with hb | hb
          · obtain ⟨q, hq, e⟩ := b1 b hb; exact ⟨q, List.mem_append_left _ hq, e⟩
          · obtain ⟨q, hq, e⟩ := b2 b hb; exact ⟨q, List.mem_append_right _ hq, e⟩
        · rw [List.nodup_append] at hn ⊢
          refine ⟨n1 hn.1, n2 hn.2.1, fun b hb b' hb' e => ?_⟩
          subst e
          obtain ⟨q, hq, e1⟩ := b1 b hb
          obtain ⟨q', hq', e2⟩ := b2 b hb'
          rw [e1] at e2
          injection e2 with e2
          exact hn.2.2 q hq q' hq' e2
      · cases h
    · cases h
  | .sl u, .own q :: cs, x, T, r, vs, h, hv => by
    simp only [collD] at h
    split at h
    · rename_i e v l hcon
      split at h
      · rename_i hh _
        have := hh.down
        subst this
        split at h
        · rename_i he
          have he' : e = E := by simpa using he
          subst he'
          injection h with h; injection h with e1 h; injection h with e2 e3; subst e1 e2 e3
          cases vs with
          | nil => exact hv.elim
          | cons v0 vs =>
            obtain ⟨⟨rfl, _⟩, hv2⟩ := hv
            obtain ⟨xs, hx, ho, hm, hg⟩ := hs.con_ holds_nil hcon
            refine ⟨[G.rho q], vs, (G.rho q).ownBlock.toList, rfl, ⟨_, xs, rfl, hx, ho, hm, rfl⟩, hv2, fun b hb => ?_, fun _ => ?_⟩
            · have hb' : (G.rho q).ownBlock = some b := by simpa using hb
              exact ⟨q, by simp, hg b hb'⟩
            · cases (G.rho q).ownBlock <;> simp
        · cases h
      · cases h
    · cases h
  | .sl u, .nils :: cs, x, T, r, vs, h, hv => by
    simp only [collD] at h
    injection h with h; injection h with e1 h; injection h with e2 e3; subst e1 e2 e3
    cases vs with
    | nil => exact hv.elim
    | cons v0 vs =>
      obtain ⟨h0, hv2⟩ := hv
      have h0' : v0 = .slice none 0 0 := h0
      subst h0'
      exact ⟨[.slice none 0 0], vs, [], rfl, ⟨_, [], rfl, rfl, World.ownsRow_nil _ _ _ _, by simp, rfl⟩, hv2, fun b hb => by simp at hb, fun _ => List.nodup_nil⟩
  | .mp k v, .own q :: cs, x, T, r, vs, h, hv => by
    simp only [collD] at h
    split at h
    · rename_i k' v' l hcon
      split at h
      · rename_i h1 h2 _ _
        have e1 := h1.down
        have e2 := h2.down
        subst e1 e2
        injection h with h; injection h with e1 h; injection h with e2 e3; subst e1 e2 e3
        cases vs with
        | nil => exact hv.elim
        | cons v0 vs =>
          obtain ⟨⟨rfl, _⟩, hv2⟩ := hv
          obtain ⟨g, es, ck, hr, hcol, hb, h2, h3⟩ := hs.con_ holds_nil hcon
          exact ⟨[G.rho q], vs, [g], rfl, ⟨g, es, ck, by rw [hr], rfl, hb, h2, h3⟩, hv2, fun b hb => ⟨q, by simp, by rw [List.mem_singleton.1 hb]; exact hcol⟩, fun _ => by simp⟩
      · cases h
    · cases h
  | .int k, .p t y :: cs, x, T, r, vs, h, hv => by
    simp only [collD] at h
    split at h
    · rename_i hh _
      have := hh.down
      subst this
      injection h with h; injection h with e1 h; injection h with e2 e3; subst e1 e2 e3
      cases vs with
      | nil => exact hv.elim
      | cons v0 vs => exact ⟨[v0], vs, [], rfl, ⟨hv.1, rfl⟩, hv.2, fun b hb => by simp at hb, fun _ => List.nodup_nil⟩
    · cases h
  | .bool, .p t y :: cs, x, T, r, vs, h, hv => by
    simp only [collD] at h
    split at h
    · rename_i hh _
      have := hh.down
      subst this
      injection h with h; injection h with e1 h; injection h with e2 e3; subst e1 e2 e3
      cases vs with
      | nil => exact hv.elim
      | cons v0 vs => exact ⟨[v0], vs, [], rfl, ⟨hv.1, rfl⟩, hv.2, fun b hb => by simp at hb, fun _ => List.nodup_nil⟩
    · cases h
  | .int _, [], _, _, _, _, h, _ => by simp [collD] at h
  | .bool, [], _, _, _, _, h, _ => by simp [collD] at h
  | .sl _, [], _, _, _, _, h, _ => by simp [collD] at h
  | .mp _ _, [], _, _, _, _, h, _ => by simp [collD] at h
  | .ar _ _, _, _, _, _, _, h, _ => by simp [collD] at h
  | .tr, _, _, _, _, _, h, _ => by simp [collD] at h
  | .int _, .own _ :: _, _, _, _, _, h, _ => by simp [collD] at h
  | .int _, .vw _ _ _ _ :: _, _, _, _, _, h, _ => by simp [collD] at h
  | .int _, .ptr _ _ :: _, _, _, _, _, h, _ => by simp [collD] at h
  | .int _, .el _ _ _ :: _, _, _, _, _, h, _ => by simp [collD] at h
  | .int _, .elf _ _ _ _ :: _, _, _, _, _, h, _ => by simp [collD] at h
  | .int _, .elv _ _ _ _ _ :: _, _, _, _, _, h, _ => by simp [collD] at h
  | .int _, .ep _ _ _ :: _, _, _, _, _, h, _ => by simp [collD] at h
  | .int _, .yv _ :: _, _, _, _, _, h, _ => by simp [collD] at h
  | .int _, .ad _ _ :: _, _, _, _, _, h, _ => by simp [collD] at h
  | .int _, .nils :: _, _, _, _, _, h, _ => by simp [collD] at h
  | .int _, .nilm :: _, _, _, _, _, h, _ => by simp [collD] at h
  | .int _, .fn _ _ :: _, _, _, _, _, h, _ => by simp [collD] at h
  | .int _, .cl _ _ :: _, _, _, _, _, h, _ => by simp [collD] at h
  | .int _, .any :: _, _, _, _, _, h, _ => by simp [collD] at h
  | .bool, .own _ :: _, _, _, _, _, h, _ => by simp [collD] at h
  | .bool, .vw _ _ _ _ :: _, _, _, _, _, h, _ => by simp [collD] at h
  | .bool, .ptr _ _ :: _, _, _, _, _, h, _ => by simp [collD] at h
  | .bool, .el _ _ _ :: _, _, _, _, _, h, _ => by simp [collD] at h
  | .bool, .elf _ _ _ _ :: _, _, _, _, _, h, _ => by simp [collD] at h
  | .bool, .elv _ _ _ _ _ :: _, _, _, _, _, h, _ => by simp [collD] at h
  | .bool, .ep _ _ _ :: _, _, _, _, _, h, _ => by simp [collD] at h
  | .bool, .yv _ :: _, _, _, _, _, h, _ => by simp [collD] at h
  | .bool, .ad _ _ :: _, _, _, _, _, h, _ => by simp [collD] at h
  | .bool, .nils :: _, _, _, _, _, h, _ => by simp [collD] at h
  | .bool, .nilm :: _, _, _, _, _, h, _ => by simp [collD] at h
  | .bool, .fn _ _ :: _, _, _, _, _, h, _ => by simp [collD] at h
  | .bool, .cl _ _ :: _, _, _, _, _, h, _ => by simp [collD] at h
  | .bool, .any :: _, _, _, _, _, h, _ => by simp [collD] at h
  | .sl _, .p _ _ :: _, _, _, _, _, h, _ => by simp [collD] at h
  | .sl _, .vw _ _ _ _ :: _, _, _, _, _, h, _ => by simp [collD] at h
  | .sl _, .ptr _ _ :: _, _, _, _, _, h, _ => by simp [collD] at h
  | .sl _, .el _ _ _ :: _, _, _, _, _, h, _ => by simp [collD] at h
  | .sl _, .elf _ _ _ _ :: _, _, _, _, _, h, _ => by simp [collD] at h
  | .sl _, .elv _ _ _ _ _ :: _, _, _, _, _, h, _ => by simp [collD] at h
  | .sl _, .ep _ _ _ :: _, _, _, _, _, h, _ => by simp [collD] at h
  | .sl _, .yv _ :: _, _, _, _, _, h, _ => by simp [collD] at h
  | .sl _, .ad _ _ :: _, _, _, _, _, h, _ => by simp [collD] at h
  | .sl _, .nilm :: _, _, _, _, _, h, _ => by simp [collD] at h
  | .sl _, .fn _ _ :: _, _, _, _, _, h, _ => by simp [collD] at h
  | .sl _, .cl _ _ :: _, _, _, _, _, h, _ => by simp [collD] at h
  | .sl _, .any :: _, _, _, _, _, h, _ => by simp [collD] at h
  | .mp _ _, .p _ _ :: _, _, _, _, _, h, _ => by simp [collD] at h
  | .mp _ _, .vw _ _ _ _ :: _, _, _, _, _, h, _ => by simp [collD] at h
  | .mp _ _, .ptr _ _ :: _, _, _, _, _, h, _ => by simp [collD] at h
  | .mp _ _, .el _ _ _ :: _, _, _, _, _, h, _ => by simp [collD] at h
  | .mp _ _, .elf _ _ _ _ :: _, _, _, _, _, h, _ => by simp [collD] at h
  | .mp _ _, .elv _ _ _ _ _ :: _, _, _, _, _, h, _ => by simp [collD] at h
  | .mp _ _, .ep _ _ _ :: _, _, _, _, _, h, _ => by simp [collD] at h
  | .mp _ _, .yv _ :: _, _, _, _, _, h, _ => by simp [collD] at h
  | .mp _ _, .ad _ _ :: _, _, _, _, _, h, _ => by simp [collD] at h
  | .mp _ _, .nils :: _, _, _, _, _, h, _ => by simp [collD] at h
  | .mp _ _, .nilm :: _, _, _, _, _, h, _ => by simp [collD] at h
  | .mp _ _, .fn _ _ :: _, _, _, _, _, h, _ => by simp [collD] at h
  | .mp _ _, .cl _ _ :: _, _, _, _, _, h, _ => by simp [collD] at h
  | .mp _ _, .any :: _, _, _, _, _, h, _ => by simp [collD] at h
def blksOf (us : List (Nat × Value)) : List Nat := us.flatMap fun u => (vblk u.2).toList
theorem explD_rep {E : TypeId} {S : Nat → Prop} : ∀ {t : Ty} {x : t.T} {c : List Value} {B T : List Nat} {cs : List Cl} {hp : List (Nat × Con)} {T' : List Nat}, DEnc w S E t x c B → explD E t x T = some (cs, hp, T') →
    ∃ us : List (Nat × Value), T = us.map Prod.fst ++ T' ∧ hp.map Prod.fst = us.map Prod.fst ∧ blksOf us = B ∧ ∀ G' : Ghost, (∀ b, S b → G'.S b) → (∀ u ∈ us, G'.rho u.1 = u.2 ∧ ∀ b, vblk u.2 = some b → G'.col b = some u.1) →
      All2 (ClRep w G') cs c ∧ ∀ e ∈ hp, ConRep w G' e.1 e.2
  | .pr ta tb, x, c, B, T, cs, hp, T', ⟨c1, c2, B1, B2, e1, e2, d1, d2⟩, h => by
    simp only [explD] at h
    split at h
    · rename_i cs1 hp1 T1 h1
      split at h
      · rename_i cs2 hp2 T2 h2
        injection h with h; injection h with e3 h; injection h with e4 e5; subst e1 e2 e3 e4 e5
        obtain ⟨us1, k1, k2, k3, k4⟩ := explD_rep d1 h1
        obtain ⟨us2, j1, j2, j3, j4⟩ := explD_rep d2 h2
        refine ⟨us1 ++ us2, by rw [k1, j1]; simp, by simp [k2, j2], by unfold blksOf at *; rw [List.flatMap_append, k3, j3], fun G' hS hu => ?_⟩
        obtain ⟨a1, a2⟩ := k4 G' hS fun u hu' => hu u (List.mem_append_left _ hu')
        obtain ⟨b1, b2⟩ := j4 G' hS fun u hu' => hu u (List.mem_append_right _ hu')
        exact ⟨a1.append b1, fun e he => (List.mem_append.1 he).elim (a2 e) (b2 e)⟩
      · cases h
    · cases h
  | .sl u, l, c, B, q :: T, cs, hp, T', ⟨v, xs, e1, h1, h2, h3, e2⟩, h => by
    simp only [explD] at h
    injection h with h; injection h with e3 h; injection h with e4 e5; subst e1 e2 e3 e4 e5
    obtain ⟨ad, cc, ev, _⟩ := owns_form h2
    have hbk : vblk v = v.ownBlock := by rw [ev]; rfl
    refine ⟨[(q, v)], rfl, rfl, by unfold blksOf; simp [hbk], fun G' hS hu => ?_⟩
    obtain ⟨g1, g2⟩ := hu (q, v) (by simp)
    dsimp only at g1 g2
    refine ⟨⟨⟨g1.symm, .inl ⟨ad, _, cc, ev⟩⟩, trivial⟩, fun e he => ?_⟩
    rw [List.mem_singleton.1 he]
    refine ⟨xs, EncL.imp (fun _ _ hh => Enc.keep (fun b hb => ⟨hS b hb, rfl⟩) hh) h1, ?_, h3, fun g hg => ?_⟩
    · show w.ownsRow 0 E u.size (G'.rho q) l.length xs
      rw [g1]; exact h2
    · rw [g1, ← hbk] at hg
      exact g2 g hg
  | .mp k v, l, c, B, q :: T, cs, hp, T', ⟨g, es, ck, e1, e2, h1, h2, h3⟩, h => by
    simp only [explD] at h
    injection h with h; injection h with e3 h; injection h with e4 e5; subst e1 e2 e3 e4 e5
    refine ⟨[(q, .map (some g))], rfl, rfl, rfl, fun G' hS hu => ?_⟩
    obtain ⟨g1, g2⟩ := hu (q, .map (some g)) (by simp)
    dsimp only at g1 g2
    refine ⟨⟨⟨g1.symm, .inr ⟨g, rfl⟩⟩, trivial⟩, fun e he => ?_⟩
    rw [List.mem_singleton.1 he]
    exact ⟨g, es, ck, g1, g2 g rfl, h1, All2.imp (fun _ _ _ ⟨⟨c1, a1, a2⟩, c2, b1, b2⟩ => ⟨⟨c1, Enc.keep (fun b hb => ⟨hS b hb, rfl⟩) a1, a2⟩, c2, Enc.keep (fun b hb => ⟨hS b hb, rfl⟩) b1, b2⟩) h2, h3⟩
  | .int k, x, c, B, T, cs, hp, T', ⟨h0, e2⟩, h => by
    simp only [explD] at h
    injection h with h; injection h with e3 h; injection h with e4 e5; subst e2 e3 e4 e5
    have e1 := h0.1
    subst e1
    exact ⟨[], rfl, rfl, rfl, fun G' hS _ => ⟨⟨Enc.keep (fun b hb => ⟨hS b hb, rfl⟩) h0, trivial⟩, fun e he => by simp at he⟩⟩
  | .bool, x, c, B, T, cs, hp, T', ⟨h0, e2⟩, h => by
    simp only [explD] at h
    injection h with h; injection h with e3 h; injection h with e4 e5; subst e2 e3 e4 e5
    have e1 : c = [.bool x] := h0
    subst e1
    exact ⟨[], rfl, rfl, rfl, fun G' hS _ => ⟨⟨rfl, trivial⟩, fun e he => by simp at he⟩⟩
  | .sl _, _, _, _, [], _, _, _, _, h => by simp [explD] at h
  | .mp _ _, _, _, _, [], _, _, _, _, h => by simp [explD] at h
  | .ar _ _, _, _, _, _, _, _, _, _, h => by simp [explD] at h
  | .tr, _, _, _, _, _, _, _, _, h => by simp [explD] at h
theorem flatten_set_perm {α : Type} : ∀ {Bs : List (List α)} {i : Nat} {B : List α}, Bs[i]? = some [] → (Bs.set i B).flatten.Perm (B ++ Bs.flatten)
  | [], i, B, h => by simp at h
  | X :: Bs, 0, B, h => by
    simp at h
    subst h
    simp
  | X :: Bs, i + 1, B, h => by
    have ih := flatten_set_perm (Bs := Bs) (i := i) (B := B) (by simpa using h)
    simp only [List.set_cons_succ, List.flatten_cons]
    refine (ih.append_left X).trans ?_
    rw [← List.append_assoc, ← List.append_assoc]
    exact List.perm_append_comm.append_right _
theorem flatten_cut_perm {α : Type} {Bs : List (List α)} {i : Nat} {B : List α} (h : Bs[i]? = some B) : Bs.flatten.Perm (B ++ (Bs.set i []).flatten) := by
  have h2 : (Bs.set i [])[i]? = some [] := by
    have := (List.getElem?_eq_some_iff.1 h).1
    simp [this]
  have := flatten_set_perm (B := B) h2
  rw [List.set_set] at this
  have e : Bs.set i B = Bs := by
    apply List.ext_getElem?
    intro j
    rw [List.getElem?_set]
    by_cases hj : i = j
    · subst hj
      rw [if_pos rfl, if_pos (List.getElem?_eq_some_iff.1 h).1, h]
    · rw [if_neg hj]
  rw [e] at this
  exact this
theorem dflat_get {n : Nat} : ∀ {xss : List (List Value)} {i : Nat} {cs : List Value}, (∀ c ∈ xss, c.length = n) → xss[i]? = some cs → ∀ j u, cs[j]? = some u → xss.flatten[i * n + j]? = some u
  | [], i, cs, _, h, _, _, _ => by simp at h
  | c :: xss, 0, cs, hw, h, j, u, hj => by
    simp at h
    subst h
    rw [Nat.zero_mul, Nat.zero_add, List.flatten_cons, List.getElem?_append_left (List.getElem?_eq_some_iff.1 hj).1]
    exact hj
  | c :: xss, i + 1, cs, hw, h, j, u, hj => by
    have h1 := hw c (by simp)
    have ih := dflat_get (fun c hc => hw c (by simp [hc])) (show xss[i]? = some cs by simpa using h) j u hj
    rw [List.flatten_cons, List.getElem?_append_right (by rw [h1, Nat.succ_mul]; omega), h1, show (i + 1) * n + j - n = i * n + j from by rw [Nat.succ_mul]; omega]
    exact ih
theorem dflat_length {n : Nat} : ∀ {xss : List (List Value)}, (∀ c ∈ xss, c.length = n) → xss.flatten.length = xss.length * n
  | [], _ => by simp
  | c :: xss, h => by rw [List.flatten_cons, List.length_append, h c (by simp), dflat_length fun c hc => h c (by simp [hc]), List.length_cons, Nat.succ_mul]; omega
theorem dflat_set {n : Nat} : ∀ {xss : List (List Value)} {i : Nat} {c : List Value}, (∀ c ∈ xss, c.length = n) → c.length = n → i < xss.length → (xss.set i c).flatten = xss.flatten.take (i * n) ++ c ++ xss.flatten.drop (i * n + n)
  | [], i, c, _, _, hi => by simp at hi
  | x :: xss, 0, c, hw, hc, _ => by
    have h1 := hw x (by simp)
    simp [← h1]
  | x :: xss, i + 1, c, hw, hc, hi => by
    have h1 := hw x (by simp)
    have ih := dflat_set (i := i) (c := c) (fun c' hc' => hw c' (List.mem_cons_of_mem _ hc')) hc (by simpa using hi)
    have e1 : (i + 1) * n = x.length + i * n := by rw [h1, Nat.succ_mul]; omega
    rw [List.set_cons_succ, List.flatten_cons, ih, List.flatten_cons, e1, Nat.add_assoc x.length, List.take_length_add_append, List.drop_length_add_append]
    simp only [List.append_assoc]
end
end Dec
