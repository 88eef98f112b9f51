/-
How a plain state is carried from world to world: what a new block, a store, a value put into a slot leave as it was.
-/
import Derived.Test.YtljlpmfmfcljaaaDecB
set_option linter.unusedSimpArgs false
set_option linter.unusedVariables false
namespace Dec
open Go Go.RowKit
def Cap.has (d : Nat) : Cap → Bool
  | .pt r _ => r == d
  | _ => false
def Cl.has (d : Nat) : Cl → Bool
  | .own r => r == d
  | .vw r _ _ _ => r == d
  | .ptr r _ => r == d
  | .el r _ _ => r == d
  | .elf r _ _ _ => r == d
  | .elv r _ _ _ _ => r == d
  | .ep r q _ => r == d || q == d
  | .yv r => r == d
  | .cl _ caps => caps.any (·.has d)
  | _ => false
def V1.has (d : Nat) : V1 → Bool
  | .c x => x.has d
  | .agg cs => cs.any (·.has d)
def AV.has (d : Nat) : AV → Bool
  | .v x => x.has d
  | .tup xs => xs.any (·.has d)
def Cl.blur (d : Nat) (x : Cl) : Cl := if x.has d then .any else x
def Con.blur (d : Nat) : Con → Con
  | .box cs => .box (cs.map (·.blur d))
  | .deep e E t l fs => if fs.any (fun f => f.1 == d) then .lost else .deep e E t l (fs.map fun f => (f.1, f.2.1, f.2.2.map (·.blur d)))
  | .lp x0 k sl => if sl.any (fun e => e.2.has d) then .lost else .lp x0 k sl
  | .mit x n seen => .mit (x.blur d) n seen
  | c => c
def Con.has (d : Nat) : Con → Bool
  | .box cs => cs.any (·.has d)
  | .deep _ _ _ _ fs => fs.any fun f => f.1 == d || f.2.2.any (·.has d)
  | .lp _ _ sl => sl.any fun e => e.2.has d
  | .mit x _ _ => x.has d
  | _ => false
def onPath (i : Nat) (p : Path) : Bool := p.any (·.1 == i)
def St.purge (d : Nat) (st : St) : St :=
  { st with sl := st.sl.filter (fun e => !e.2.2.has d), hp := (st.hp.filter (fun e => !(e.1 == d))).map (fun e => (e.1, e.2.1, e.2.2.blur d)) }
def St.put (st : St) (i : Nat) (p : Path) (x : AV) : St :=
  { st with sl := (i, p, x) :: st.sl.filter (fun e => !(e.1 == i) && !onPath i e.2.1), hp := st.hp.filter (fun e => !onPath i e.2.1) }
def St.forget (st : St) (i : Nat) : St :=
  { st with sl := st.sl.filter (fun e => !(e.1 == i) && !onPath i e.2.1), hp := st.hp.filter (fun e => !onPath i e.2.1) }
section
variable {w w' : World} {G G' : Ghost}
theorem AdRep.keep {S S' : Nat → Prop} {t : Ty} {x : t.T} {v : Value} (HS : ∀ b, S b → S' b ∧ w'.heap[b]? = w.heap[b]?) (h : AdRep w S t x v) : AdRep w' S' t x v := by
  obtain ⟨b, off, cells, e, fz, cs, ev, hS, hb, hx, hj⟩ := h
  exact ⟨b, off, cells, e, fz, cs, ev, (HS b hS).1, (HS b hS).2.trans hb, Enc.keep HS hx, hj⟩
theorem ClRep.keep {x : Cl} {v : Value} (HS : ∀ b, G.S b → G'.S b ∧ w'.heap[b]? = w.heap[b]?) (Hr : ∀ r, x.has r = true → G'.rho r = G.rho r) (h : ClRep w G x v) : ClRep w' G' x v := by
  cases x with
  | p t x => exact Enc.keep HS h
  | own r => obtain ⟨e, h2⟩ := h; exact ⟨by rw [Hr r (by simp [Cl.has])]; exact e, h2⟩
  | vw r lo n sz => obtain ⟨a, len, cap, c, a', e, h2⟩ := h; exact ⟨a, len, cap, c, a', by rw [Hr r (by simp [Cl.has])]; exact e, h2⟩
  | ptr r off => obtain ⟨b, e, h2⟩ := h; exact ⟨b, by rw [Hr r (by simp [Cl.has])]; exact e, h2⟩
  | el r i sz => obtain ⟨g, n, c, e, h2⟩ := h; exact ⟨g, n, c, by rw [Hr r (by simp [Cl.has])]; exact e, h2⟩
  | elf r i sz off => obtain ⟨g, n, c, e, h2⟩ := h; exact ⟨g, n, c, by rw [Hr r (by simp [Cl.has])]; exact e, h2⟩
  | elv r i sz off n => obtain ⟨g, e, h2⟩ := h; exact ⟨g, by rw [Hr r (by simp [Cl.has])]; exact e, h2⟩
  | ep r q off => obtain ⟨g, o, e, h2⟩ := h; exact ⟨g, o, by rw [Hr q (by simp [Cl.has])]; exact e, h2⟩
  | yv r => exact ⟨by rw [Hr r (by simp [Cl.has])]; exact h.1, h.2⟩
  | ad t x => exact AdRep.keep HS h
  | nils => exact h
  | nilm => exact h
  | fn f caps => obtain ⟨vs, e, h2⟩ := h; exact ⟨vs, e, All2.imp (fun _ _ _ hh => AdRep.keep HS hh) h2⟩
  | cl f caps =>
    obtain ⟨vs, e, h2⟩ := h
    refine ⟨vs, e, All2.imp (fun c hc u hu => ?_) h2⟩
    cases c with
    | pt r off =>
      obtain ⟨b, h3, h4⟩ := hu
      exact ⟨b, by rw [Hr r (by simp only [Cl.has, List.any_eq_true]; exact ⟨_, hc, by simp [Cap.has]⟩)]; exact h3, h4⟩
    | ad d => exact AdRep.keep HS hu
    | no => exact hu
  | any => trivial
theorem V1Rep.keep {x : V1} {v : Value} (HS : ∀ b, G.S b → G'.S b ∧ w'.heap[b]? = w.heap[b]?) (Hr : ∀ r, x.has r = true → G'.rho r = G.rho r) (h : V1Rep w G x v) : V1Rep w' G' x v := by
  cases x with
  | c x => exact ClRep.keep HS Hr h
  | agg cs =>
    obtain ⟨vs, e, h2⟩ := h
    exact ⟨vs, e, All2.imp (fun a ha b hb => ClRep.keep HS (fun r hr => Hr r (by simp only [V1.has, List.any_eq_true]; exact ⟨a, ha, hr⟩)) hb) h2⟩
theorem AVRep.keep {x : AV} {v : Value} (HS : ∀ b, G.S b → G'.S b ∧ w'.heap[b]? = w.heap[b]?) (Hr : ∀ r, x.has r = true → G'.rho r = G.rho r) (h : AVRep w G x v) : AVRep w' G' x v := by
  cases x with
  | v x => exact V1Rep.keep HS Hr h
  | tup xs =>
    obtain ⟨vs, e, h2⟩ := h
    exact ⟨vs, e, All2.imp (fun a ha b hb => V1Rep.keep HS (fun r hr => Hr r (by simp only [AV.has, List.any_eq_true]; exact ⟨a, ha, hr⟩)) hb) h2⟩
theorem ownsRow_keep {base : Nat} {e : TypeId} {size : Nat} {v : Value} {n : Nat} {xs : List Value} (h : w.ownsRow base e size v n xs) (H : ∀ g, v.ownBlock = some g → w'.heap[g]? = w.heap[g]?) : w'.ownsRow base e size v n xs := by
  refine ⟨h.1, ?_⟩
  rcases h.2 with hn | ⟨g, cap, cur, rfl, hb, hgg, rest⟩
  · exact .inl hn
  · exact .inr ⟨g, cap, cur, rfl, hb, (H g rfl).trans hgg, rest⟩
theorem DEnc.keep {S S' : Nat → Prop} {E : TypeId} (HS : ∀ b, S b → S' b ∧ w'.heap[b]? = w.heap[b]?) : ∀ {t : Ty} {x : t.T} {cs : List Value} {B : List Nat}, (∀ b ∈ B, w'.heap[b]? = w.heap[b]?) → DEnc w S E t x cs B → DEnc w' S' E t x cs B
  | .int _, _, _, _, _, h => ⟨Enc.keep HS h.1, h.2⟩
  | .bool, _, _, _, _, h => ⟨Enc.keep HS h.1, h.2⟩
  | .ar _ _, _, _, _, _, h => ⟨Enc.keep HS h.1, h.2⟩
  | .tr, _, _, _, _, h => ⟨Enc.keep HS h.1, h.2⟩
  | .pr a b, _, _, _, HB, ⟨c1, c2, B1, B2, e1, e2, h1, h2⟩ => ⟨c1, c2, B1, B2, e1, e2, DEnc.keep HS (fun b hb => HB b (by simp [e2, hb])) h1, DEnc.keep HS (fun b hb => HB b (by simp [e2, hb])) h2⟩
  | .sl u, _, _, _, HB, ⟨v, xs, e1, h1, h2, h3, e2⟩ => ⟨v, xs, e1, EncL.imp (fun _ _ hh => Enc.keep HS hh) h1, ownsRow_keep h2 (fun g hg => HB g (by simp [e2, hg])), h3, e2⟩
  | .mp k v, _, _, _, HB, ⟨g, es, ck, e1, e2, h1, h2, h3⟩ => ⟨g, es, ck, e1, e2, (HB g (by simp [e2])).trans h1, All2.imp (fun _ _ _ ⟨⟨c1, a1, a2⟩, c2, b1, b2⟩ => ⟨⟨c1, Enc.keep HS a1, a2⟩, c2, Enc.keep HS b1, b2⟩) h2, h3⟩
theorem DRow.keep {S S' : Nat → Prop} {E : TypeId} {t : Ty} {l : List t.T} {F : List Nat} {xss : List (List Value)} {Bs : List (List Nat)} (HS : ∀ b, S b → S' b ∧ w'.heap[b]? = w.heap[b]?) (HB : ∀ b ∈ Bs.flatten, w'.heap[b]? = w.heap[b]?) (h : DRow w S E t l F xss Bs) : DRow w' S' E t l F xss Bs :=
  ⟨h.len, h.blen, h.width, fun i x hx hF => by
    obtain ⟨cs, B, h1, h2, h3⟩ := h.el i x hx hF
    exact ⟨cs, B, h1, h2, h3.keep HS fun b hb => HB b (List.mem_flatten.2 ⟨B, List.mem_of_getElem? h2, hb⟩)⟩, h.foc, h.nodup⟩
theorem ConRep.keep {r : Nat} {c : Con} (HS : ∀ b, G.S b → G'.S b ∧ w'.heap[b]? = w.heap[b]?) (H0 : G'.rho r = G.rho r) (Hr : ∀ q, c.has q = true → G'.rho q = G.rho q)
    (Hc : ∀ b, G.col b = some r → G'.col b = some r ∧ w'.heap[b]? = w.heap[b]?) (h : ConRep w G r c) : ConRep w' G' r c := by
  cases c with
  | box cs =>
    obtain ⟨b, vs, e, hr, hcol, hb, h2⟩ := h
    exact ⟨b, vs, e, by rw [H0]; exact hr, (Hc b hcol).1, (Hc b hcol).2.trans hb,
      All2.imp (fun a ha v hv => ClRep.keep HS (fun q hq => Hr q (by simp only [Con.has, List.any_eq_true]; exact ⟨a, ha, hq⟩)) hv) h2⟩
  | arr e t l =>
    obtain ⟨xs, hx, ho, hm, hg⟩ := h
    refine ⟨xs, EncL.imp (fun _ _ hh => Enc.keep HS hh) hx, ?_, hm, ?_⟩
    · rw [H0]
      exact ownsRow_keep ho fun g hgg => (Hc g (hg g hgg)).2
    · rw [H0]
      exact fun g hgg => (Hc g (hg g hgg)).1
  | vec n t l =>
    obtain ⟨b, vs, e, hr, hcol, hb, h2, hn⟩ := h
    exact ⟨b, vs, e, by rw [H0]; exact hr, (Hc b hcol).1, (Hc b hcol).2.trans hb, EncL.imp (fun _ _ hh => Enc.keep HS hh) h2, hn⟩
  | dict k v l =>
    obtain ⟨b, es, ck, hr, hcol, hb, h2, h3⟩ := h
    exact ⟨b, es, ck, by rw [H0]; exact hr, (Hc b hcol).1, (Hc b hcol).2.trans hb,
      All2.imp (fun _ _ _ ⟨⟨c1, a1, a2⟩, c2, b1, b2⟩ => ⟨⟨c1, Enc.keep HS a1, a2⟩, c2, Enc.keep HS b1, b2⟩) h2, h3⟩
  | mit x n seen =>
    obtain ⟨b, g, hr, hcol, hb, hx⟩ := h
    exact ⟨b, g, by rw [H0]; exact hr, (Hc b hcol).1, (Hc b hcol).2.trans hb, ClRep.keep HS (fun q hq => Hr q hq) hx⟩
  | lost => trivial
  | lp x0 k sl =>
    obtain ⟨l, h1, h2, h3, h4⟩ := h
    exact ⟨l, by rw [H0]; exact h1, (Hc l h2).1, (Hc l h2).2.trans h3, fun e he => AVRep.keep HS (fun q hq => Hr q (by simp only [Con.has, List.any_eq_true]; exact ⟨e, he, hq⟩)) (h4 e he)⟩
  | deep e E t l fs =>
    obtain ⟨xss, Bs, h1, h2, h3, h4, h5, h6, h7⟩ := h
    refine ⟨xss, Bs, ?_, h2, ?_, h4.keep HS (fun b hb => (Hc b (h6 b hb).1).2), h5, fun b hb => ?_, fun f hf => ?_⟩
    · rw [H0]; exact ownsRow_keep h1 fun g hgg => (Hc g (h3 g hgg)).2
    · rw [H0]; exact fun g hgg => (Hc g (h3 g hgg)).1
    · have h8 := h6 b hb
      have h9 := Hc b h8.1
      refine ⟨h9.1, by rw [H0]; exact h8.2.1, ?_⟩
      have : w'.heap[b]? ≠ none := by rw [h9.2, Array.getElem?_eq_getElem h8.2.2]; simp
      exact Nat.lt_of_not_le fun hh => this (Array.getElem?_eq_none hh)
    · obtain ⟨g, cs, k1, k2, k3, k4⟩ := h7 f hf
      refine ⟨g, cs, by rw [H0]; exact k1, ?_, k3, All2.imp (fun a ha v hv => ClRep.keep HS (fun q hq => Hr q ?_) hv) k4⟩
      · rw [Hr f.1 (by simp only [Con.has, List.any_eq_true]; exact ⟨f, hf, by simp⟩)]; exact k2
      · simp only [Con.has, List.any_eq_true, Bool.or_eq_true]
        exact ⟨f, hf, .inr ⟨a, ha, hq⟩⟩
end
theorem Cl.has_of_blur {d r : Nat} {x : Cl} (h : (x.blur d).has r = true) : x.has r = true ∧ r ≠ d := by
  unfold Cl.blur at h
  split at h
  · simp [Cl.has] at h
  · rename_i hd
    refine ⟨h, ?_⟩
    rintro rfl
    exact hd h
theorem Con.has_of_blur {d r : Nat} {c : Con} (h : (c.blur d).has r = true) : c.has r = true ∧ r ≠ d := by
  cases c with
  | box cs =>
    simp only [Con.blur, Con.has, List.any_eq_true, List.mem_map] at h ⊢
    obtain ⟨_, ⟨x, hx, rfl⟩, hr⟩ := h
    exact ⟨⟨x, hx, (Cl.has_of_blur hr).1⟩, (Cl.has_of_blur hr).2⟩
  | arr e t l => simp [Con.blur, Con.has] at h
  | vec n t l => simp [Con.blur, Con.has] at h
  | dict k v l => simp [Con.blur, Con.has] at h
  | mit x n seen => exact Cl.has_of_blur h
  | lost => simp [Con.blur, Con.has] at h
  | lp x0 k sl =>
    simp only [Con.blur] at h
    split at h
    · simp [Con.has] at h
    · rename_i hd
      refine ⟨h, fun e => hd ?_⟩
      subst e
      exact h
  | deep e E t l fs =>
    simp only [Con.blur] at h
    split at h
    · simp [Con.has] at h
    · rename_i hd
      simp only [Con.has, List.any_eq_true, List.mem_map, Bool.or_eq_true, beq_iff_eq] at h hd ⊢
      obtain ⟨_, ⟨f, hf, rfl⟩, hr⟩ := h
      rcases hr with hr | ⟨y, hy, hr⟩
      · simp only at hr
        exact ⟨⟨f, hf, .inl hr⟩, fun e => hd ⟨f, hf, by rw [hr, e]⟩⟩
      · obtain ⟨x, hx, rfl⟩ := List.mem_map.1 hy
        exact ⟨⟨f, hf, .inr ⟨x, hx, (Cl.has_of_blur hr).1⟩⟩, (Cl.has_of_blur hr).2⟩
theorem ClRep.blur {d : Nat} {w : World} {G : Ghost} {x : Cl} {v : Value} (h : ClRep w G x v) : ClRep w G (x.blur d) v := by
  unfold Cl.blur
  split
  · trivial
  · exact h
theorem all2_mapL {α β : Type} {R R' : α → β → Prop} {f : α → α} (hf : ∀ x v, R x v → R' (f x) v) : ∀ {l : List α} {m : List β}, All2 R l m → All2 R' (l.map f) m
  | [], [], _ => trivial
  | [], _ :: _, h => h
  | _ :: _, [], h => h
  | x :: l, v :: m, h => ⟨hf x v h.1, all2_mapL hf h.2⟩
theorem ConRep.blur {r d : Nat} {w : World} {G : Ghost} {c : Con} (h : ConRep w G r c) : ConRep w G r (c.blur d) := by
  cases c with
  | arr e t l => exact h
  | vec n t l => exact h
  | dict k v l => exact h
  | mit x n seen =>
    obtain ⟨b, g, hr, hcol, hb, hx⟩ := h
    exact ⟨b, g, hr, hcol, hb, hx.blur⟩
  | lost => trivial
  | lp x0 k sl =>
    simp only [Con.blur]
    split
    · trivial
    · exact h
  | deep e E t l fs =>
    simp only [Con.blur]
    split
    · trivial
    · obtain ⟨xss, Bs, h1, h2, h3, h4, h5, h6, h7⟩ := h
      have hm : ((fs.map fun f => (f.1, f.2.1, f.2.2.map (·.blur d))).map fun f => f.2.1) = fs.map fun f => f.2.1 := by rw [List.map_map]; rfl
      refine ⟨xss, Bs, h1, h2, h3, by rw [hm]; exact h4, by rw [hm]; exact h5, h6, fun f hf => ?_⟩
      obtain ⟨f0, hf0, rfl⟩ := List.mem_map.1 hf
      obtain ⟨g, cs, k1, k2, k3, k4⟩ := h7 f0 hf0
      exact ⟨g, cs, k1, k2, k3, all2_mapL (fun _ _ hh => hh.blur) k4⟩
  | box cs =>
    obtain ⟨b, vs, e, hr, hcol, hb, h2⟩ := h
    refine ⟨b, vs, e, hr, hcol, hb, ?_⟩
    clear hb
    revert h2
    generalize vs.toList = m
    induction cs generalizing m with
    | nil => intro h2; cases m <;> exact h2
    | cons x cs ih =>
      intro h2
      cases m with
      | nil => exact h2
      | cons v m =>
        refine ⟨?_, ih m h2.2⟩
        show ClRep w G (x.blur d) v
        unfold Cl.blur
        split
        · trivial
        · exact h2.1
section
variable {w0 w : World} {S0 : Base} {G : Ghost} {st : St} {a : Act}
theorem SR.move {w' : World} {G' : Ghost} {st' : St} (h : SR w0 S0 G st a w) (D : Nat → Prop)
    (HS : ∀ b, G.S b → G'.S b ∧ w'.heap[b]? = w.heap[b]?)
    (Hr : ∀ r, ¬ D r → G'.rho r = G.rho r)
    (Hc : ∀ b r, ¬ D r → G.col b = some r → G'.col b = some r ∧ w'.heap[b]? = w.heap[b]?)
    (below : Fr S0.F w0.heap.size w0 w') (sub : ∀ b, G'.S b → b < w'.heap.size ∧ (S0.S b ∨ w0.heap.size ≤ b ∨ S0.F b)) (colr : ∀ b r, G'.col b = some r → (S0.F b ∨ w0.heap.size ≤ b) ∧ b < w'.heap.size ∧ ¬ G'.S b)
    (hn : st'.n = st.n)
    (hsl : ∀ e ∈ st'.sl, e ∈ st.sl ∧ ∀ r, e.2.2.has r = true → ¬ D r)
    (hhp : ∀ e ∈ st'.hp, e ∈ st.hp ∧ ¬ D e.1 ∧ ∀ r, e.2.2.has r = true → ¬ D r) : SR w0 S0 G' st' a w' where
  below := below
  sub := sub
  colr := colr
  df := h.df.keep HS rfl
  size := h.size.trans hn.symm
  sl := fun e he => by
    obtain ⟨h1, h2⟩ := hsl e he
    obtain ⟨g1, g2, g3⟩ := h.sl e h1
    exact ⟨hn ▸ g1, fun hh => (g2 hh).keep HS (fun r hr => Hr r (h2 r hr)), g3⟩
  hp := fun e he hh => by
    obtain ⟨h1, h2, h3⟩ := hhp e he
    exact (h.hp e h1 hh).keep HS (Hr _ h2) (fun r hr => Hr r (h3 r hr)) (fun b hb => Hc b e.1 h2 hb)
theorem SR.purge (h : SR w0 S0 G st a w) (d : Nat) : SR w0 S0 G (st.purge d) a w where
  below := h.below
  sub := h.sub
  colr := h.colr
  df := h.df
  size := h.size
  sl := fun e he => h.sl e (by simp only [St.purge, List.mem_filter] at he; exact he.1)
  hp := fun e he hh => by
    simp only [St.purge, List.mem_map, List.mem_filter] at he
    obtain ⟨e', ⟨h1, _⟩, rfl⟩ := he
    exact (h.hp e' h1 hh).blur
theorem purge_sl {d : Nat} {e} (he : e ∈ (st.purge d).sl) : ∀ r, e.2.2.has r = true → ¬ r = d := by
  simp only [St.purge, List.mem_filter, Bool.not_eq_true'] at he
  rintro r hr rfl
  rw [he.2] at hr
  cases hr
theorem purge_hp {d : Nat} {e} (he : e ∈ (st.purge d).hp) : ¬ e.1 = d ∧ ∀ r, e.2.2.has r = true → ¬ r = d := by
  simp only [St.purge, List.mem_map, List.mem_filter] at he
  obtain ⟨e', ⟨_, h2⟩, rfl⟩ := he
  exact ⟨by simpa using h2, fun r hr => (Con.has_of_blur hr).2⟩
def Ghost.new (G : Ghost) (d b : Nat) (v : Value) : Ghost :=
  { S := G.S, col := fun c => if c = b then some d else G.col c, rho := fun r => if r = d then v else G.rho r }
theorem Fr.alloc {X : Nat → Prop} {B : Nat} {a b : World} (h : Fr X B a b) (hB : B ≤ b.heap.size) (o : Obj) : Fr X B a (b.alloc o) :=
  h.trans ⟨Nat.le_refl _, rfl, rfl, rfl, by rw [World.size_alloc]; omega, fun k hk _ => Below.heap_alloc b o k (Nat.lt_of_lt_of_le hk hB)⟩
theorem Fr.drew {X : Nat → Prop} {B : Nat} {a b : World} (h : Fr X B a b) : Fr X B a b.drew :=
  h.trans (Fr.of_below ⟨(Below.refl B b).drew, Nat.le_succ _⟩)
theorem SR.below_size (h : SR w0 S0 G st a w) : w0.heap.size ≤ w.heap.size := h.below.size
theorem heap_push_old (w : World) (o : Obj) {b : Nat} (h : b < w.heap.size) : (w.alloc o).heap[b]? = w.heap[b]? := Below.heap_alloc w o b h
theorem heap_push_new (w : World) (o : Obj) : (w.alloc o).heap[w.heap.size]? = some o := heap_alloc_new w o
theorem SR.alloc (h : SR w0 S0 G st a w) (d : Nat) (o : Obj) (v : Value) : SR w0 S0 (G.new d w.heap.size v) (st.purge d) a (w.alloc o) := by
  refine (h.purge d).move (fun r => r = d) ?_ ?_ ?_ (h.below.alloc h.below_size o) ?_ ?_ rfl (fun e he => ⟨he, purge_sl he⟩) (fun e he => ⟨he, purge_hp he⟩)
  · exact fun b hb => ⟨hb, heap_push_old w o (h.sub b hb).1⟩
  · intro r hr
    simp [Ghost.new, hr]
  · intro b r hr hb
    have := (h.colr b r hb).2.1
    refine ⟨?_, heap_push_old w o this⟩
    simp only [Ghost.new]
    rw [if_neg (by omega)]
    exact hb
  · intro b hb
    have := h.sub b hb
    rw [World.size_alloc]
    exact ⟨by omega, this.2⟩
  · intro b r hb
    simp only [Ghost.new] at hb ⊢
    split at hb
    · rename_i e
      subst e
      refine ⟨.inr h.below_size, by rw [World.size_alloc]; omega, fun hS => ?_⟩
      have := (h.sub _ hS).1
      omega
    · have := h.colr b r hb
      simp
      refine ⟨this.1, by omega, this.2.2⟩
theorem SR.drew (h : SR w0 S0 G st a w) : SR w0 S0 G st a w.drew where
  below := h.below.drew
  sub := h.sub
  colr := h.colr
  df := h.df.keep (fun b hb => ⟨hb, rfl⟩) rfl
  size := h.size
  sl := fun e he => by
    obtain ⟨h1, h2, h3⟩ := h.sl e he
    exact ⟨h1, fun hh => AVRep.keep (w := w) (G := G) (fun b hb => ⟨hb, rfl⟩) (fun _ _ => rfl) (h2 hh), h3⟩
  hp := fun e he hh => ConRep.keep (w := w) (G := G) (fun b hb => ⟨hb, rfl⟩) rfl (fun _ _ => rfl) (fun b hb => ⟨hb, rfl⟩) (h.hp e he hh)
def St.own (st : St) (r : Nat) (p : Path) (c : Con) : St := { st with hp := (r, p, c) :: st.hp }
theorem SR.own (h : SR w0 S0 G st a w) {r : Nat} {p : Path} {c : Con} (hc : Holds a p → ConRep w G r c) : SR w0 S0 G (st.own r p c) a w where
  below := h.below
  sub := h.sub
  colr := h.colr
  df := h.df
  size := h.size
  sl := h.sl
  hp := fun e he hh => by
    simp only [St.own, List.mem_cons] at he
    rcases he with rfl | he
    · exact hc hh
    · exact h.hp e he hh
theorem holds_put {a : Act} {i : Nat} {v : Value} {p : Path} (hp : onPath i p = false) : Holds (a.put (some i) v) p ↔ Holds a p := by
  have : ∀ x ∈ p, (a.put (some i) v).tmps.getD x.1 undef = a.tmps.getD x.1 undef := by
    intro x hx
    have hne : ¬ x.1 = i := by
      intro e
      have : onPath i p = true := by simp only [onPath, List.any_eq_true]; exact ⟨x, hx, by simp [e]⟩
      rw [hp] at this
      cases this
    simp only [Act.put, Array.getD_eq_getD_getElem?, Array.getElem?_setIfInBounds]
    rw [if_neg (fun e => hne e.symm)]
  unfold Holds
  constructor
  · intro h x hx; rw [← this x hx]; exact h x hx
  · intro h x hx; rw [this x hx]; exact h x hx
theorem getD_put_ne {a : Act} {i j : Nat} {v : Value} (h : ¬ j = i) : (a.put (some i) v).tmps.getD j undef = a.tmps.getD j undef := by
  simp only [Act.put, Array.getD_eq_getD_getElem?, Array.getElem?_setIfInBounds]
  rw [if_neg (fun e => h e.symm)]
theorem getD_put_same {a : Act} {i : Nat} {v : Value} (h : i < a.tmps.size) : (a.put (some i) v).tmps.getD i undef = v := by
  simp only [Act.put, Array.getD_eq_getD_getElem?, Array.getElem?_setIfInBounds]
  simp [h]
theorem slotV_put_ne {a : Act} {i j : Nat} {v : Value} (h : ¬ j = i) : slotV S0 (a.put (some i) v) j = slotV S0 a j := by
  have hs : (a.put (some i) v).tmps.size = a.tmps.size := by simp [Act.put]
  unfold slotV
  rw [hs, getD_put_ne h]
theorem slotV_put_same {a : Act} {i : Nat} {v : Value} (h : i < a.tmps.size) : slotV S0 (a.put (some i) v) i = v := by
  have hs : (a.put (some i) v).tmps.size = a.tmps.size := by simp [Act.put]
  unfold slotV
  rw [hs, if_pos h, getD_put_same h]
theorem SR.forget (h : SR w0 S0 G st a w) (i : Nat) (v : Value) : SR w0 S0 G (st.forget i) (a.put (some i) v) w where
  below := h.below
  sub := h.sub
  colr := h.colr
  df := h.df
  size := by simpa [Act.put, St.forget] using h.size
  sl := fun e he => by
    simp only [St.forget, List.mem_filter, Bool.and_eq_true, Bool.not_eq_true'] at he
    obtain ⟨he, hi, hp⟩ := he
    obtain ⟨h1, h2, h3⟩ := h.sl e he
    have hne : ¬ e.1 = i := by simpa using hi
    refine ⟨h1, ?_, ?_⟩
    · rw [holds_put hp, slotV_put_ne hne]; exact h2
    · rw [holds_put hp, slotV_put_ne hne]; exact h3
  hp := fun e he hh => by
    simp only [St.forget, List.mem_filter, Bool.not_eq_true'] at he
    rw [holds_put he.2] at hh
    exact h.hp e he.1 hh
theorem SR.put (h : SR w0 S0 G st a w) {i : Nat} {p : Path} {x : AV} {v : Value} (hi : i < st.n) (hp : onPath i p = false) (hv : Holds a p → AVRep w G x v) (hu : ¬ Holds a p → v = undef) :
    SR w0 S0 G (st.put i p x) (a.put (some i) v) w := by
  have h0 := h.forget i v
  refine ⟨h0.below, h0.sub, h0.colr, h0.df, h0.size, fun e he => ?_, h0.hp⟩
  simp only [St.put, List.mem_cons] at he
  rcases he with rfl | he
  · refine ⟨trivial, ?_, ?_⟩
    · rw [holds_put hp, slotV_put_same (by rw [h.size]; exact hi)]; exact hv
    · rw [holds_put hp, slotV_put_same (by rw [h.size]; exact hi)]; exact hu
  · exact h0.sl e he
end
end Dec
