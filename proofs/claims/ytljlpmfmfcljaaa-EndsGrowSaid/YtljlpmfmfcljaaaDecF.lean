/-
The evaluator of the operations that only compute or read is sound.
-/
import Derived.Test.YtljlpmfmfcljaaaDecE
set_option linter.unusedSimpArgs false
set_option linter.unusedVariables false
namespace Dec
open Go Go.RowKit
def Agree (X : Nat → Prop) (w w' : World) : Prop := ∀ b, b < w.heap.size → ¬ X b → w'.heap[b]? = w.heap[b]?
theorem Agree.refl (X : Nat → Prop) (w : World) : Agree X w w := fun _ _ _ => rfl
theorem Agree.heap {X : Nat → Prop} {w w' : World} (h : Agree X w w') {b : Nat} {o : Obj} (hx : ¬ X b) (hb : w.heap[b]? = some o) : w'.heap[b]? = some o := by
  rw [h b (Array.getElem?_eq_some_iff.1 hb).1 hx]; exact hb
def Shut (D : List Nat) (G : Ghost) (X : Nat → Prop) : Prop := ∀ b, X b → ∃ q, q ∈ D ∧ G.col b = some q
def tagOk (D : List Nat) : AV → Bool
  | .v (.c (.ptr r _)) => !D.contains r
  | .v (.c (.el r _ _)) => !D.contains r
  | .v (.c (.elf r _ _ _)) => !D.contains r
  | .v (.c (.elv r _ _ _ _)) => !D.contains r
  | .v (.c (.ep r _ _)) => !D.contains r
  | .v (.c (.own r)) => !D.contains r
  | _ => true
theorem Shut.no {D : List Nat} {G : Ghost} {X : Nat → Prop} (h : Shut D G X) {b r : Nat} (hc : G.col b = some r) (hr : (!D.contains r) = true) : ¬ X b := by
  intro hx
  obtain ⟨q, hq, e⟩ := h b hx
  rw [hc] at e
  injection e with e
  subst e
  simp at hr
  exact hr hq
section
variable {P : Program} {w0 w : World} {S0 : Base} {G : Ghost} {st : St} {a : Act} {p : Path}
theorem holds_snoc {i : Nat} {b : Bool} (h : Holds a p) (hb : a.tmps.getD i undef = .bool b) : Holds a (p ++ [(i, b)]) := by
  intro x hx
  rcases List.mem_append.1 hx with hx | hx
  · exact h x hx
  · simp at hx; subst hx; exact hb
theorem cstB_eval {x : Operand} {b : Bool} (h : cstB x = some b) : a.eval x = .bool b := by
  unfold cstB at h
  split at h
  · injection h with h; subst h; rfl
  · cases h
theorem pick_sound {c x y : Operand} {i : Nat} {ob : Prop} {r : AV} (hi : tmpOf c = some i) (h : evalPick st p i c x y = some (ob, r))
    (hs : SR w0 S0 G st a w) (hp : Holds a p) : ∃ v, (∀ w' : World, (do pure (if ← asBool (a.eval c) then a.eval x else a.eval y) : Sem Value).run P w' = .ok v w') ∧ AVRep w G r v := by
  have hc' : c = .tmp i := by
    unfold tmpOf at hi
    split at hi
    · injection hi with hi; subst hi; rfl
    · cases hi
  subst hc'
  unfold evalPick at h
  split at h
  · rename_i b hb
    have e1 := rep_pB (hs.val_ hp hb)
    rw [e1]
    simp only [asBool, Sem.run_bind, Sem.run_pure, Result.andThen_ok]
    split at h
    · rename_i hx hxt
      split at h
      · rename_i z hz
        injection h with h; injection h with _ h; subst h
        cases b with
        | true => exact ⟨.bool true, fun w' => by simp [cstB_eval hxt], mk_pB⟩
        | false =>
          have := rep_pB (hs.val_ (holds_snoc hp e1) hz)
          exact ⟨.bool z, fun w' => by simp [this], mk_pB⟩
      · cases h
    · rename_i hyf hnx
      split at h
      · rename_i u hu
        injection h with h; injection h with _ h; subst h
        cases b with
        | true =>
          have := rep_pB (hs.val_ (holds_snoc hp e1) hu)
          exact ⟨.bool u, fun w' => by simp [this], mk_pB⟩
        | false => exact ⟨.bool false, fun w' => by simp [cstB_eval hyf], mk_pB⟩
      · cases h
    · split at h
      · rename_i u z hu hz
        injection h with h; injection h with _ h; subst h
        cases b with
        | true =>
          have := rep_pB (hs.val_ (holds_snoc hp e1) hu)
          exact ⟨.bool u, fun w' => by simp [this], mk_pB⟩
        | false =>
          have := rep_pB (hs.val_ (holds_snoc hp e1) hz)
          exact ⟨.bool z, fun w' => by simp [this], mk_pB⟩
      · cases h
  · cases h
theorem fits_ok {k k' : IntKind} (h : fits k k' = true) : k'.min ≤ k.min ∧ k.max ≤ k'.max := by
  cases k <;> cases k' <;> simp [fits] at h <;> decide
theorem conv_sound {s d : TypeId} {x z : AV} {vx : Value} {ob : Prop} (h : evalConv P d x = some (ob, z)) (hs : ∃ u, P.underlying s = some u) (hx : AVRep w G x vx) : ∃ v, (∀ w' : World, (convert s d vx).run P w' = .ok v w') ∧ AVRep w G z v := by
  unfold evalConv at h
  split at h
  · rename_i k' k n hd
    injection h with h; injection h with _ h; subst h
    obtain ⟨rfl, m1, m2⟩ := rep_pI (k := k) (n := n) hx
    obtain ⟨u, hu⟩ := hs
    have hr : ∀ w' : World, (convert s d (.int k n)).run P w' = .ok (.int k' (k'.wrap n)) w' := by
      intro w'
      unfold convert
      simp only [Sem.run_bind, run_underlying hu, run_underlying hd, Result.andThen_ok]
      cases u <;> simp [Conv.intToInt]
    refine ⟨_, hr, ?_⟩
    split
    · rename_i hf
      have := fits_ok hf
      rw [wrap_in (k := k') (n := n) (by omega) (by omega)]
      exact mk_pI (by omega) (by omega)
    · exact mk_pI (wrap_lo _ _) (wrap_hi _ _)
  · cases h
theorem bnd_rep {lo : Option Operand} {l : Option Int} (h : bnd (lo.map (st.val p)) = some l) (hs : SR w0 S0 G st a w) (hp : Holds a p) : ∃ k, lo.map a.eval = l.map (Value.int k) := by
  cases lo with
  | none =>
    simp only [Option.map_none, bnd] at h
    injection h with h; subst h
    exact ⟨.i64, rfl⟩
  | some x =>
    simp only [Option.map_some] at h
    unfold bnd at h
    split at h
    · rename_i e; cases e
    · rename_i k n e
      injection e with e
      injection h with h; subst h
      have := rep_pI (k := k) (n := n) (hs.val_ hp e)
      exact ⟨k, by simp [this.1]⟩
    · cases h
theorem add_add_ (a : Addr) (i j : Nat) : (a.add i).add j = a.add (i + j) := by
  unfold Addr.add
  by_cases hi : i = 0 <;> by_cases hj : j = 0 <;> simp [hi, hj, Nat.add_assoc]
theorem slOb_nat {len : Nat} {lo hi : Option Int} (h : slOb len lo hi) : lo0 lo ≤ hi0 len hi ∧ hi0 len hi ≤ len := by
  cases lo <;> cases hi <;> simp only [slOb, lo0, hi0] at * <;> omega
theorem run_sliceBounds_ob {len cap : Nat} {lo hi : Option Int} {k k' : IntKind} (h : slOb len lo hi) (hc : len ≤ cap) :
    (Instr.sliceBounds true len cap (lo.map (Value.int k)) (hi.map (Value.int k')) none).run P w = .ok (lo0 lo, hi0 len hi, cap) w := by
  cases lo <;> cases hi <;> simp only [slOb] at h <;> simp [Instr.sliceBounds, Instr.sliceBound, asIntOf, lo0, hi0]
  · rename_i b
    intro h'
    have := h' h.1
    omega
  · rename_i b
    intro h'
    have := h' h.1
    omega
  · rename_i b c
    rw [if_pos (by omega)]
    simp
    intro h'
    have := h' h.1
    omega
theorem run_sliceAt_ob {t e : TypeId} {u : Ty} {n : Nat} (ht : P.underlying t = some (.slice e)) (he : tyOf P n e = some u) {ad : Option Addr} {len cap : Nat} {lo hi : Option Int} {k k' : IntKind} (h : slOb len lo hi) (hc : len ≤ cap) :
    (Instr.sliceAt t (.slice ad len cap) (lo.map (Value.int k)) (hi.map (Value.int k')) none).run P w =
      .ok (.slice (if cap = lo0 lo then ad else ad.map (·.add (lo0 lo * u.size))) (hi0 len hi - lo0 lo) (cap - lo0 lo)) w := by
  unfold Instr.sliceAt Instr.slice
  simp only [Sem.run_bind, run_underlying ht, Result.andThen_ok, run_sliceBounds_ob h hc, tyOf_size he, Sem.run_pure]
theorem slRes_eq {α : Type} (l : List α) {lo hi : Option Int} : slRes l lo hi = (l.take (hi0 l.length hi)).drop (lo0 lo) := by
  cases lo <;> cases hi <;> simp [slRes, lo0, hi0]
theorem slice_rep {u : Ty} {l : List u.T} {ad : Option Addr} {c : Nat} (h : Enc w G.S (.sl u) l [.slice ad l.length c]) {L H : Nat} (hL : L ≤ H) (hH : H ≤ l.length) :
    Enc w G.S (.sl u) ((l.take H).drop L) [.slice (if c = L then ad else ad.map (·.add (L * u.size))) (H - L) (c - L)] := by
  obtain ⟨a', c', e, hc, hm, hr⟩ := h
  injection e with e _
  injection e with e1 _ e3
  subst e1 e3
  have hlen : ((l.take H).drop L).length = H - L := by simp; omega
  refine ⟨_, c - L, by rw [hlen], by rw [hlen]; omega, by simp only [maxLen] at *; omega, ?_⟩
  by_cases hz : H - L = 0
  · left
    exact List.eq_nil_of_length_eq_zero (by rw [hlen]; exact hz)
  · rcases hr with rfl | ⟨b, off, cells, ty, fz, xs, ea, hS, hb, hx, hj⟩
    · simp at hH; omega
    · right
      subst ea
      refine ⟨b, off + L * u.size, cells, ty, fz, (xs.take (H * u.size)).drop (L * u.size), ?_, hS, hb, ?_, ?_⟩
      · rw [if_neg (by omega)]
        simp [addr_add]
      · exact EncL.drop (fun _ _ hh => Enc.length hh) L (EncL.take (fun _ _ hh => Enc.length hh) H hx)
      · intro j v hv
        rw [List.getElem?_drop, List.getElem?_take] at hv
        split at hv
        · rw [Nat.add_assoc]; exact hj _ _ hv
        · cases hv
theorem encSl_form {u : Ty} {l : List u.T} {v : Value} (h : Enc w G.S (.sl u) l [v]) : ∃ ad c, v = .slice ad l.length c ∧ l.length ≤ c ∧ c ≤ maxLen := by
  obtain ⟨ad, c, e, hc, hm, _⟩ := h
  injection e with e _
  exact ⟨ad, c, e, hc, hm⟩
theorem owns_form {base : Nat} {e : TypeId} {size : Nat} {v : Value} {n : Nat} {xs : List Value} (h : w.ownsRow base e size v n xs) : ∃ ad c, v = .slice ad n c ∧ n ≤ c ∧ c ≤ maxLen ∧ (c = 0 ∨ ∃ g, ad = some ⟨g, 0, none⟩) := by
  rcases h.2 with ⟨rfl, rfl⟩ | ⟨g, cap, cur, rfl, _, _, hnc, hm, _⟩
  · exact ⟨none, 0, rfl, Nat.le_refl _, Nat.zero_le _, .inl rfl⟩
  · exact ⟨_, cap, rfl, hnc, hm, .inr ⟨g, rfl⟩⟩
theorem slice_sound {t : TypeId} {x z : AV} {vx : Value} {lo hi : Option Int} {k k' : IntKind} {ob : Prop} (h : evalSlice P st p t x lo hi = some (ob, z)) (hob : ob) (hs : SR w0 S0 G st a w) (hp : Holds a p) (hx : AVRep w G x vx) :
    ∃ v, (∀ w' : World, (Instr.sliceAt t vx (lo.map (Value.int k)) (hi.map (Value.int k')) none).run P w' = .ok v w') ∧ AVRep w G z v := by
  unfold evalSlice at h
  split at h
  · cases h
  · rename_i e he
    have hu := elemOf_under he
    split at h
    · cases h
    · rename_i u ht
      split at h
      · rename_i v l
        split at h
        · rename_i hsz
          injection h with h; injection h with h1 h2; subst h1 h2
          have hx' : Enc w G.S (.sl v) l [vx] := hx
          obtain ⟨ad, c, rfl, hc, hm⟩ := encSl_form hx'
          have hsz' : v.size = u.size := by simpa using hsz
          refine ⟨_, fun w' => run_sliceAt_ob hu ht hob hc, ?_⟩
          have hn := slOb_nat hob
          have := slice_rep hx' hn.1 hn.2
          rw [hsz'] at this
          rw [slRes_eq]
          exact this
        · cases h
      · rename_i r
        split at h
        · rename_i e' v l hcon
          split at h
          · rename_i hsz
            injection h with h; injection h with h1 h2; subst h1 h2
            obtain ⟨xs, hxl, ho, hml, _⟩ := hs.con_ hp hcon
            obtain ⟨ad, c, hv, hc, hm, hg⟩ := owns_form ho
            obtain ⟨rfl, _⟩ := hx
            rw [hv]
            refine ⟨_, fun w' => run_sliceAt_ob hu ht hob hc, ?_⟩
            have hn := slOb_nat hob
            refine ⟨ad, l.length, c, c - lo0 lo, _, hv, by omega, by omega, by omega, rfl, ?_, hg⟩
            by_cases hcl : c = lo0 lo
            · by_cases hL : lo0 lo = 0
              · right
                rw [if_pos hcl, hL]
                cases ad <;> simp [Addr.add]
              · left; omega
            · right; rw [if_neg hcl]
          · cases h
        · cases h
      · rename_i r q n sz
        split at h
        · rename_i hsz
          injection h with h; injection h with h1 h2; subst h1 h2
          obtain ⟨ad, len, cap, c, a', hv, hl, hc, hcap, rfl, ha', hg⟩ := hx
          have hsz' : sz = u.size := by simpa using hsz
          subst hsz'
          have hn := slOb_nat hob
          refine ⟨_, fun w' => run_sliceAt_ob hu ht hob hc, ?_⟩
          refine ⟨ad, len, cap, c - lo0 lo, _, hv, by omega, by omega, by omega, rfl, ?_, hg⟩
          by_cases hcl : c = lo0 lo
          · by_cases hL : lo0 lo = 0
            · rw [if_pos hcl, hL, Nat.add_zero]
              rcases ha' with h0 | rfl
              · left; omega
              · right; rfl
            · left; omega
          · right
            rw [if_neg hcl]
            rcases ha' with h0 | rfl
            · omega
            · cases ad with
              | none => rfl
              | some ad => simp [add_add_, Nat.add_mul]
        · cases h
      · cases h
theorem run_indexAt_in {t e : TypeId} {u : Ty} {n : Nat} (ht : P.underlying t = some (.slice e)) (he : tyOf P n e = some u) {ad : Addr} {len cap : Nat} {k : IntKind} {i : Int} (h0 : 0 ≤ i) (h1 : i < (len : Int)) :
    (Instr.indexAt t (.slice (some ad) len cap) (.int k i)).run P w = .ok (.pointer (some (ad.add (i.toNat * u.size)))) w := by
  unfold Instr.indexAt
  simp only [Sem.run_bind, run_underlying ht, Result.andThen_ok, asIntOf, Sem.run_pure, Sem.run_ite, tyOf_size he]
  rw [if_pos ⟨h0, h1⟩]
theorem getD_some {α : Type} {l : List α} {i : Nat} {d : α} (h : i < l.length) : l[i]? = some (l.getD i d) := by
  simp [List.getD, h]
theorem indexAddr_sound {t : TypeId} {x i z : AV} {vx vi : Value} {ob : Prop} (h : evalIndexAddr P st p t x i = some (ob, z)) (hob : ob) (hs : SR w0 S0 G st a w) (hp : Holds a p) (hx : AVRep w G x vx) (hi : AVRep w G i vi) :
    ∃ v, (∀ w' : World, (Instr.indexAt t vx vi).run P w' = .ok v w') ∧ AVRep w G z v := by
  unfold evalIndexAddr at h
  split at h
  · rename_i k i
    change Int at i
    obtain ⟨rfl, _, _⟩ := rep_pI (k := k) (n := i) hi
    split at h
    · cases h
    · rename_i e he
      have hu := elemOf_under he
      split at h
      · cases h
      · rename_i u ht
        split at h
        · rename_i v l
          split at h
          · rename_i hsz
            injection h with h; injection h with h1 h2; subst h1 h2
            obtain ⟨i0, i1⟩ : (0 : Int) ≤ i ∧ i < _ := hob
            have hsz' : v.size = u.size := by simpa using hsz
            have hx' : Enc w G.S (.sl v) l [vx] := hx
            obtain ⟨ad, c, e', hc, hm, hr⟩ := hx'
            injection e' with e' _
            subst e'
            rcases hr with rfl | ⟨b, off, cells, ty, fz, xs, rfl, hS, hb, hxs, hj⟩
            · have h1 := i0
              have h2 := i1
              simp only [List.length_nil] at h2
              omega
            · have hil : i.toNat < l.length := by omega
              obtain ⟨cs, hcs, hcj⟩ := EncL.get (fun _ _ hh => Enc.length hh) i.toNat _ hxs (getD_some (d := v.d) hil)
              refine ⟨_, fun w' => run_indexAt_in hu ht i0 i1, b, off + i.toNat * u.size, cells, ty, fz, cs, by rw [addr_add], hS, hb, hcs, ?_⟩
              intro j y hy
              rw [← hsz', Nat.add_assoc]
              exact hj _ _ (hcj j y hy)
          · cases h
        · rename_i r
          split at h
          · rename_i e' v l hcon
            split at h
            · rename_i hsz
              injection h with h; injection h with h1 h2; subst h1 h2
              obtain ⟨i0, i1⟩ : (0 : Int) ≤ i ∧ i < _ := hob
              obtain ⟨xs, hxl, ho, hml, _⟩ := hs.con_ hp hcon
              obtain ⟨ad, c, hv, hc, hm, hg⟩ := owns_form ho
              obtain ⟨rfl, _⟩ := hx
              rcases hg with rfl | ⟨g, rfl⟩
              · omega
              · rw [hv]
                refine ⟨_, fun w' => run_indexAt_in hu ht i0 i1, g, l.length, c, hv, by omega, by rw [addr_add, Nat.zero_add]⟩
            · cases h
          · cases h
        · rename_i r q n sz
          split at h
          · rename_i hsz
            injection h with h; injection h with h1 h2; subst h1 h2
            obtain ⟨i0, i1⟩ : (0 : Int) ≤ i ∧ i < _ := hob
            have hsz' : sz = u.size := by simpa using hsz
            subst hsz'
            obtain ⟨ad, len, cap, c, a', hv, hl, hc, hcap, rfl, ha', hg⟩ := hx
            rcases hg with rfl | ⟨g, rfl⟩
            · omega
            · rcases ha' with h0 | rfl
              · omega
              · refine ⟨_, fun w' => run_indexAt_in hu ht i0 i1, g, len, cap, hv, by omega, ?_⟩
                rw [add_add_, addr_add, Nat.zero_add, Nat.add_mul]
          · cases h
        · cases h
  · cases h
theorem fieldTy_enc : ∀ {t : Ty} {x : t.T} {n f o : Nat} {z : (u : Ty) × u.T} {cs : List Value}, fieldTy t x n f = some (o, z) → Enc w G.S t x cs → ∃ c, Enc w G.S z.1 z.2 c ∧ ∀ j v, c[j]? = some v → cs[o + j]? = some v
  | .pr a b, x, n + 2, 0, o, z, cs, h, ⟨c1, c2, e, h1, h2⟩ => by
    simp only [fieldTy] at h
    injection h with h; injection h with e1 e2; subst e1 e2 e
    refine ⟨c1, h1, fun j v hj => ?_⟩
    rw [Nat.zero_add, List.getElem?_append_left (List.getElem?_eq_some_iff.1 hj).1]
    exact hj
  | .pr a b, x, n + 2, f + 1, o, z, cs, h, ⟨c1, c2, e, h1, h2⟩ => by
    simp only [fieldTy] at h
    split at h
    · rename_i o' y hy
      injection h with h; injection h with e1 e2; subst e1 e2 e
      obtain ⟨c, hc, hj⟩ := fieldTy_enc hy h2
      refine ⟨c, hc, fun j v hv => ?_⟩
      have := hj j v hv
      rw [← Enc.length h1, List.getElem?_append_right (by omega), Nat.add_assoc, Nat.add_sub_cancel_left]
      exact this
    · cases h
  | .int k, x, 1, 0, o, z, cs, h, hx => by
    simp only [fieldTy] at h
    injection h with h; injection h with e1 e2; subst e1 e2
    exact ⟨cs, hx, fun j v hj => by rw [Nat.zero_add]; exact hj⟩
  | .bool, x, 1, 0, o, z, cs, h, hx => by
    simp only [fieldTy] at h
    injection h with h; injection h with e1 e2; subst e1 e2
    exact ⟨cs, hx, fun j v hj => by rw [Nat.zero_add]; exact hj⟩
  | .sl t, x, 1, 0, o, z, cs, h, hx => by
    simp only [fieldTy] at h
    injection h with h; injection h with e1 e2; subst e1 e2
    exact ⟨cs, hx, fun j v hj => by rw [Nat.zero_add]; exact hj⟩
  | .ar n t, x, 1, 0, o, z, cs, h, hx => by
    simp only [fieldTy] at h
    injection h with h; injection h with e1 e2; subst e1 e2
    exact ⟨cs, hx, fun j v hj => by rw [Nat.zero_add]; exact hj⟩
  | .mp a b, x, 1, 0, o, z, cs, h, hx => by
    simp only [fieldTy] at h
    injection h with h; injection h with e1 e2; subst e1 e2
    exact ⟨cs, hx, fun j v hj => by rw [Nat.zero_add]; exact hj⟩
  | .tr, x, 1, 0, o, z, cs, h, hx => by
    simp only [fieldTy] at h
    injection h with h; injection h with e1 e2; subst e1 e2
    exact ⟨cs, hx, fun j v hj => by rw [Nat.zero_add]; exact hj⟩
  | .tr, _, 0, _, _, _, _, h, _ => by simp [fieldTy] at h
  | .tr, _, 1, _ + 1, _, _, _, h, _ => by simp [fieldTy] at h
  | .tr, _, _ + 2, _, _, _, _, h, _ => by simp [fieldTy] at h
  | .pr a b, x, 1, 0, o, z, cs, h, hx => by
    simp only [fieldTy] at h
    injection h with h; injection h with e1 e2; subst e1 e2
    exact ⟨cs, hx, fun j v hj => by rw [Nat.zero_add]; exact hj⟩
  | .int _, _, 0, _, _, _, _, h, _ => by simp [fieldTy] at h
  | .int _, _, 1, _ + 1, _, _, _, h, _ => by simp [fieldTy] at h
  | .int _, _, _ + 2, _, _, _, _, h, _ => by simp [fieldTy] at h
  | .bool, _, 0, _, _, _, _, h, _ => by simp [fieldTy] at h
  | .bool, _, 1, _ + 1, _, _, _, h, _ => by simp [fieldTy] at h
  | .bool, _, _ + 2, _, _, _, _, h, _ => by simp [fieldTy] at h
  | .sl _, _, 0, _, _, _, _, h, _ => by simp [fieldTy] at h
  | .sl _, _, 1, _ + 1, _, _, _, h, _ => by simp [fieldTy] at h
  | .sl _, _, _ + 2, _, _, _, _, h, _ => by simp [fieldTy] at h
  | .ar _ _, _, 0, _, _, _, _, h, _ => by simp [fieldTy] at h
  | .ar _ _, _, 1, _ + 1, _, _, _, h, _ => by simp [fieldTy] at h
  | .ar _ _, _, _ + 2, _, _, _, _, h, _ => by simp [fieldTy] at h
  | .mp _ _, _, 0, _, _, _, _, h, _ => by simp [fieldTy] at h
  | .mp _ _, _, 1, _ + 1, _, _, _, h, _ => by simp [fieldTy] at h
  | .mp _ _, _, _ + 2, _, _, _, _, h, _ => by simp [fieldTy] at h
  | .pr _ _, _, 0, _, _, _, _, h, _ => by simp [fieldTy] at h
  | .pr _ _, _, 1, _ + 1, _, _, _, h, _ => by simp [fieldTy] at h
theorem fieldsOf_under {s : TypeId} {fs : Array Field} (h : fieldsOf P s = some fs) : P.underlying s = some (.struct fs) := by
  unfold fieldsOf at h
  split at h
  · rename_i hu; injection h with h; subst h; exact hu
  · cases h
theorem run_fieldAt_ {s : TypeId} {fs : Array Field} {f : Nat} {fd : Field} {i : TypeInfo} (hu : P.underlying s = some (.struct fs)) (hf : fs[f]? = some fd) (hi : P.info? fd.type = some i) (h0 : ¬ i.size = 0) (ad : Addr) :
    (Instr.fieldAt s (.pointer (some ad)) f).run P w = .ok (.pointer (some (ad.add fd.offset))) w := by
  unfold Instr.fieldAt fieldPlace
  simp only [Sem.run_bind, run_underlying hu, Result.andThen_ok, hf, Instr.sureAddr, Sem.run_pure, Go.sizeOf, typeInfo, run_program, hi]
  rw [if_neg h0]
  rfl
theorem fieldAddr_sound {s : TypeId} {x z : AV} {vx : Value} {f : Nat} {ob : Prop} (h : evalFieldAddr P s x f = some (ob, z)) (hx : AVRep w G x vx) :
    ∃ v, (∀ w' : World, (Instr.fieldAt s vx f).run P w' = .ok v w') ∧ AVRep w G z v := by
  unfold evalFieldAddr at h
  split at h
  · cases h
  · rename_i fs hfs
    have hu := fieldsOf_under hfs
    split at h
    · cases h
    · rename_i fd hfd
      split at h
      · cases h
      · rename_i i hi
        split at h
        · cases h
        · rename_i h0
          have h0' : ¬ i.size = 0 := by simpa using h0
          split at h
          · rename_i r off
            injection h with h; injection h with h1 h2; subst h1 h2
            obtain ⟨b, hr, rfl⟩ := hx
            exact ⟨_, fun w' => run_fieldAt_ hu hfd hi h0' _, b, hr, by rw [addr_add]⟩
          · rename_i t y
            split at h
            · rename_i o z' hz
              split at h
              · rename_i ho
                have ho' : o = fd.offset := by simpa using ho
                injection h with h; injection h with h1 h2; subst h1 h2
                obtain ⟨b, off, cells, e, fz, cs, rfl, hS, hb, hxx, hj⟩ := hx
                obtain ⟨c, hc, hcj⟩ := fieldTy_enc hz hxx
                refine ⟨_, fun w' => run_fieldAt_ hu hfd hi h0' _, b, off + fd.offset, cells, e, fz, c, by rw [addr_add], hS, hb, hc, fun j v hv => ?_⟩
                rw [← ho', Nat.add_assoc]
                exact hj _ _ (hcj j v hv)
              · cases h
            · cases h
          · cases h
theorem aggSize_spec {t : TypeId} {b : Bool} {n : Nat} (h : aggSize P t = some (b, n)) (w : World) : (isAgg t).run P w = .ok b w ∧ (Go.sizeOf t).run P w = .ok n w := by
  unfold aggSize at h
  split at h
  · rename_i hu hi; injection h with h; injection h with e1 e2; subst e1 e2
    exact ⟨by simp [isAgg, run_underlying hu], by simp [Go.sizeOf, typeInfo, hi]⟩
  · rename_i hu hi; injection h with h; injection h with e1 e2; subst e1 e2
    exact ⟨by simp [isAgg, run_underlying hu], by simp [Go.sizeOf, typeInfo, hi]⟩
  · rename_i d i hn1 hn2 hu hi
    injection h with h; injection h with e1 e2; subst e1 e2
    refine ⟨?_, by simp [Go.sizeOf, typeInfo, hi]⟩
    unfold isAgg
    simp only [Sem.run_bind, run_underlying hu, Result.andThen_ok]
    cases d <;> first | rfl | (exact absurd rfl (hn1 _)) | (exact absurd rfl (hn2 _ _))
  · cases h
theorem load_sound {t : TypeId} {x z : AV} {vx : Value} {ob : Prop} {D : List Nat} {X : Nat → Prop} (h : evalLoad P st p t x = some (ob, z)) (hs : SR w0 S0 G st a w) (hp : Holds a p) (hX : Shut D G X) (htag : tagOk D x = true) (hx : AVRep w G x vx) :
    ∃ v, (∀ w' : World, Agree X w w' → (Instr.loadAt t vx).run P w' = .ok v w') ∧ AVRep w G z v := by
  have hSX : ∀ b, G.S b → ¬ X b := fun b hb hx => by
    obtain ⟨q, _, e⟩ := hX b hx
    exact (hs.colr b q e).2.2 hb
  unfold evalLoad at h
  split at h
  · rename_i r off
    obtain ⟨b, hr, rfl⟩ := hx
    split at h
    · rename_i cs n hcon hag
      split at h
      · rename_i hle
        injection h with h; injection h with h1 h2; subst h1 h2
        have hle' : off + n ≤ cs.length := by simpa using hle
        obtain ⟨b', vs, e, hr', hcol, hb, h2⟩ := hs.con_ hp hcon
        rw [hr] at hr'
        injection hr' with hr'; injection hr' with hr'; injection hr' with hr' _; subst hr'
        have hlen := h2.length
        have hr : ∀ w', Agree X w w' → _ := fun w' hw' => run_loadCells_list (P := P) w' ⟨b, off, none⟩ ((vs.toList.drop off).take n) (fun j v hj => by
          rw [addr_add, cells_cell (hw'.heap (hX.no hcol htag) hb)]
          rw [List.getElem?_take] at hj
          split at hj
          · rw [List.getElem?_drop] at hj; simpa using hj
          · cases hj)
        have hl : ((vs.toList.drop off).take n).length = n := by simp; simp at hlen; omega
        rw [hl] at hr
        refine ⟨.agg ((vs.toList.drop off).take n).toArray, fun w' hw' => ?_, _, rfl, (h2.drop off).take n⟩
        simp [Instr.loadAt, Instr.sureAddr, loadVar, (aggSize_spec hag w').1, (aggSize_spec hag w').2, hr w' hw']
      · cases h
    · rename_i cs n hcon hag
      split at h
      · rename_i c hc
        injection h with h; injection h with h1 h2; subst h1 h2
        obtain ⟨b', vs, e, hr', hcol, hb, h2⟩ := hs.con_ hp hcon
        rw [hr] at hr'
        injection hr' with hr'; injection hr' with hr'; injection hr' with hr' _; subst hr'
        obtain ⟨v, hv, hcv⟩ := h2.get off c hc
        refine ⟨v, fun w' hw' => ?_, hcv⟩
        have : w'.cell? ⟨b, off, none⟩ = some v := by rw [cells_cell (hw'.heap (hX.no hcol htag) hb)]; simpa using hv
        simp [Instr.loadAt, Instr.sureAddr, loadVar, (aggSize_spec hag w').1, this]
      · cases h
    · cases h
  · rename_i u y
    split at h
    · rename_i v ht
      split at h
      · rename_i pl hsame
        have huv := pl.down
        subst huv
        injection h with h; injection h with h1 h2; subst h1 h2
        obtain ⟨b, off, cells, e, fz, cs, rfl, hS, hb, hxx, hj⟩ := hx
        refine ⟨_, fun w' hw' => ?_, toV1_rep hxx⟩
        have := run_loadVar_ty (w := w') ht (b := b) (off := off) (Enc.length hxx) (fun j v hv => by rw [cells_cell (hw'.heap (hSX b hS) hb)]; exact hj j v hv)
        simpa [Instr.loadAt, Instr.sureAddr] using this
      · cases h
    · cases h
  · rename_i r i sz
    split at h
    · rename_i e' u l v hcon ht
      split at h
      · rename_i pl hsame
        have huv := pl.down
        subst huv
        split at h
        · rename_i hsz
          have hsz' : sz = v.size := by simpa using hsz
          subst hsz'
          injection h with h; injection h with h1 h2; subst h1 h2
          obtain ⟨xs, hxl, ho, hml, hcl⟩ := hs.con_ hp hcon
          obtain ⟨g, n, c, hr, hin, rfl⟩ := hx
          rw [hr] at ho hcl
          rcases ho.2 with ⟨e0, _⟩ | ⟨g', cap, cur, e0, hb0, hb, hnc, hcm, hcs, htk⟩
          · cases e0
          · injection e0 with e0 e1 e2
            injection e0 with e0; injection e0 with e0 _
            subst e0 e1 e2
            obtain ⟨cs, hcs', hcj⟩ := EncL.get (fun _ _ hh => Enc.length hh) i _ hxl (getD_some (d := v.d) hin)
            refine ⟨_, fun w' hw' => ?_, toV1_rep hcs'⟩
            have := run_loadVar_ty (w := w') ht (b := g) (off := i * v.size) (Enc.length hcs') (fun j y hy => by
              rw [cells_cell (hw'.heap (hX.no (hcl g rfl) htag) hb)]
              have h3 := hcj j y hy
              rw [← htk, List.getElem?_take] at h3
              split at h3
              · simpa using h3
              · cases h3)
            simpa [Instr.loadAt, Instr.sureAddr] using this
        · cases h
      · cases h
    · cases h
  · cases h
theorem field_sound {s : TypeId} {x z : AV} {vx : Value} {f : Nat} {ob : Prop} (h : evalField P s x f = some (ob, z)) (hx : AVRep w G x vx) :
    ∃ v, (∀ w' : World, (Instr.field s vx f).run P w' = .ok v w') ∧ AVRep w G z v := by
  unfold evalField at h
  split at h
  · rename_i fs cs hfs
    have hu := fieldsOf_under hfs
    obtain ⟨vs, rfl, h2⟩ := hx
    split at h
    · cases h
    · rename_i fd hfd
      split at h
      · rename_i n hag
        split at h
        · rename_i hle
          injection h with h; injection h with h1 h2'; subst h1 h2'
          refine ⟨.agg ((vs.drop fd.offset).take n).toArray, fun w' => ?_, _, rfl, (h2.drop fd.offset).take n⟩
          have hex : vs.toArray.extract fd.offset (fd.offset + n) = ((vs.drop fd.offset).take n).toArray := by
            apply Array.ext'
            simp [List.extract_eq_take_drop]
          simp [Instr.field, run_underlying hu, hfd, part, asAgg, (aggSize_spec hag w').1, (aggSize_spec hag w').2, hex]
        · cases h
      · rename_i n hag
        split at h
        · rename_i c hc
          injection h with h; injection h with h1 h2'; subst h1 h2'
          obtain ⟨v, hv, hcv⟩ := h2.get fd.offset c hc
          refine ⟨v, fun w' => ?_, hcv⟩
          simp [Instr.field, run_underlying hu, hfd, part, asAgg, (aggSize_spec hag w').1, hv]
        · cases h
      · cases h
  · cases h
theorem extract_sound {x z : AV} {vx : Value} {i : Nat} {ob : Prop} (h : evalExtract x i = some (ob, z)) (hx : AVRep w G x vx) :
    ∃ v, (∀ w' : World, (Instr.extract vx i).run P w' = .ok v w') ∧ AVRep w G z v := by
  unfold evalExtract at h
  split at h
  · split at h
    · rename_i y hy
      injection h with h; injection h with h1 h2; subst h1 h2
      obtain ⟨vs, rfl, h2⟩ := hx
      obtain ⟨v, hv, hyv⟩ := h2.get i _ hy
      exact ⟨v, fun w' => by simp [Instr.extract, hv], hyv⟩
    · cases h
  · cases h
theorem kmin64 : IntKind.i64.min = -9223372036854775808 := by decide
theorem kmax64 : IntKind.i64.max = 9223372036854775807 := by decide
theorem len_sound {t ty : TypeId} {x z : AV} {vx : Value} {ob : Prop} (h : evalLen P st p t x = some (ob, z)) (hob : ob) (hs : SR w0 S0 G st a w) (hp : Holds a p) (hx : AVRep w G x vx) :
    ∃ v, (∀ w' : World, (Builtin.len_ #[t] ty #[vx]).run P w' = .ok v w') ∧ AVRep w G z v := by
  unfold evalLen at h
  split at h
  · rename_i hsl
    obtain ⟨e, hu⟩ : ∃ e, P.underlying t = some (.slice e) := by
      unfold isSlT at hsl
      split at hsl
      · rename_i hu; exact ⟨_, hu⟩
      · cases hsl
    have hrun : ∀ ad (n c : Nat) (w' : World), (Builtin.len_ #[t] ty #[.slice ad n c]).run P w' = .ok (.int .i64 (n : Int)) w' := by
      intro ad n c w'
      simp [Builtin.len_, run_underlying hu, goInt]
    have hmk : ∀ n : Nat, n ≤ 9223372036854775807 → AVRep w G (pI .i64 (n : Int)) (.int .i64 (n : Int)) := fun n hn => mk_pI (by rw [kmin64]; omega) (by rw [kmax64]; omega)
    split at h
    · injection h with h; injection h with h1 h2; subst h1 h2
      obtain ⟨ad, c, rfl, hc, hm⟩ := encSl_form hx
      exact ⟨_, hrun _ _ _, hmk _ (by simp only [maxLen] at hm; omega)⟩
    · split at h
      · rename_i hcon
        injection h with h; injection h with h1 h2; subst h1 h2
        obtain ⟨xs, hxl, ho, hml, _⟩ := hs.con_ hp hcon
        obtain ⟨ad, c, hv, hc, hm, hg⟩ := owns_form ho
        obtain ⟨rfl, _⟩ := hx
        rw [hv]
        exact ⟨_, hrun _ _ _, hmk _ (by simp only [maxLen] at hm; omega)⟩
      · cases h
    · injection h with h; injection h with h1 h2; subst h1 h2
      obtain ⟨ad, len, cap, c, a', hv, hl, hc, hcap, rfl, ha', hg⟩ := hx
      exact ⟨_, hrun _ _ _, hmk _ (by omega)⟩
    · injection h with h; injection h with h1 h2; subst h1 h2
      have hx' : vx = .slice none 0 0 := hx
      subst hx'
      exact ⟨_, hrun _ _ _, hmk 0 (by omega)⟩
    · cases h
  · cases h
theorem min_sound {ts : Array TypeId} {ty : TypeId} {x y z : AV} {vx vy : Value} {ob : Prop} (h : evalMin x y = some (ob, z)) (hx : AVRep w G x vx) (hy : AVRep w G y vy) :
    ∃ v, (∀ w' : World, (Builtin.min_ ts ty #[vx, vy]).run P w' = .ok v w') ∧ AVRep w G z v := by
  unfold evalMin at h
  split at h
  · rename_i k m k' n
    change Int at m n
    split at h
    · rename_i hk
      subst hk
      injection h with h; injection h with h1 h2; subst h1 h2
      obtain ⟨rfl, m1, m2⟩ := rep_pI (k := k) (n := m) hx
      obtain ⟨rfl, n1, n2⟩ := rep_pI (k := k) (n := n) hy
      refine ⟨.int k (imin m n), fun w' => ?_, mk_pI (by unfold imin; omega) (by unfold imin; omega)⟩
      simp [Builtin.min_, Builtin.min2, imin]
      by_cases hlt : n < m
      · rw [if_pos hlt]; omega
      · rw [if_neg hlt]; omega
    · cases h
  · cases h
def isLoad : Op → Bool
  | .load _ _ => true
  | .lookup _ _ _ _ => true
  | .call _ => true
  | _ => false
def ldOk (D : List Nat) (st : St) (p : Path) (op : Op) : Bool :=
  match op with
  | .load _ x | .lookup _ x _ _ => match st.val p x with
    | some y => tagOk D y
    | none => true
  | .call c => match c.args.toList with
    | [x] => match st.val p x with
      | some y => tagOk D y
      | none => true
    | _ => true
  | _ => true
theorem evalP_sound {o : Oper} {ob : Prop} {z : AV} {D : List Nat} {X : Nat → Prop} (hcv : ∀ s d x, o.op = .convert s d x → ∃ u, P.underlying s = some u) (h : evalP P st p o.op = some (ob, z)) (hob : ob) (hs : SR w0 S0 G st a w) (hp : Holds a p)
    (hX : Shut D G X) (hld : ldOk D st p o.op = true) :
    ∃ v, (∀ w' : World, (isLoad o.op = true → Agree X w w') → (execOp a.eval o).run P w' = .ok (.value v) w') ∧ AVRep w G z v := by
  have lift : ∀ {s : Sem Value} {q : World → Prop}, (∃ v, (∀ w' : World, s.run P w' = .ok v w') ∧ AVRep w G z v) → ∃ v, (∀ w' : World, q w' → (do pure (Next.value (← s)) : Sem Next).run P w' = .ok (.value v) w') ∧ AVRep w G z v := by
    rintro s q ⟨v, h1, h2⟩
    exact ⟨v, fun w' _ => by simp [h1], h2⟩
  have liftL : ∀ {s : Sem Value}, (∃ v, (∀ w' : World, Agree X w w' → s.run P w' = .ok v w') ∧ AVRep w G z v) → ∃ v, (∀ w' : World, (true = true → Agree X w w') → (do pure (Next.value (← s)) : Sem Next).run P w' = .ok (.value v) w') ∧ AVRep w G z v := by
    rintro s ⟨v, h1, h2⟩
    exact ⟨v, fun w' hw' => by simp [h1 w' (hw' rfl)], h2⟩
  obtain ⟨dst, op, ty, pos, after, guard⟩ := o
  unfold evalP at h
  simp only at h hcv
  split at h
  · split at h
    · rename_i y hy
      injection h with h; injection h with h1 h2; subst h1 h2
      exact ⟨_, fun _ _ => rfl, hs.val_ hp hy⟩
    · cases h
  · split at h
    · rename_i y hy
      injection h with h; injection h with h1 h2; subst h1 h2
      exact ⟨_, fun _ _ => rfl, hs.val_ hp hy⟩
    · cases h
  · split at h
    · rename_i i hi
      obtain ⟨v, h1, h2⟩ := pick_sound (P := P) hi h hs hp
      refine ⟨v, fun w' _ => ?_, h2⟩
      replace h1 := h1 w'
      simp only [execOp]
      simp only [Sem.run_bind] at h1 ⊢
      generalize (asBool (a.eval _)).run P w' = r at h1
      cases r with
      | ok b w' =>
        simp only [Result.andThen_ok, Sem.run_pure] at h1 ⊢
        injection h1 with h1 h3
        rw [h1, h3]
      | halt => simp at h1
    · cases h
  · split at h
    · rename_i hx hy
      exact lift (evalBin_sound h hob (hs.val_ hp hx) (hs.val_ hp hy))
    · cases h
  · split at h
    · rename_i b hb
      injection h with h; injection h with h1 h2; subst h1 h2
      have := rep_pB (hs.val_ hp hb)
      refine lift ⟨.bool (!b), fun w' => ?_, mk_pB⟩
      rw [this]
      rfl
    · cases h
  · split at h
    · rename_i hx
      exact lift (conv_sound h (hcv _ _ _ rfl) (hs.val_ hp hx))
    · cases h
  · split at h
    · rename_i hx hlo hhi
      obtain ⟨k, hk⟩ := bnd_rep hlo hs hp
      obtain ⟨k', hk'⟩ := bnd_rep hhi hs hp
      refine lift ?_
      rw [hk, hk']
      exact slice_sound h hob hs hp (hs.val_ hp hx)
    · cases h
  · split at h
    · rename_i hx hi
      exact lift (indexAddr_sound h hob hs hp (hs.val_ hp hx) (hs.val_ hp hi))
    · cases h
  · split at h
    · rename_i hx
      exact lift (fieldAddr_sound h (hs.val_ hp hx))
    · cases h
  · split at h
    · rename_i hx
      exact liftL (load_sound h hs hp hX (by simpa [ldOk, hx] using hld) (hs.val_ hp hx))
    · cases h
  · split at h
    · rename_i hx
      exact lift (field_sound h (hs.val_ hp hx))
    · cases h
  · split at h
    · rename_i hx
      exact lift (extract_sound h (hs.val_ hp hx))
    · cases h
  · split at h
    · rename_i r off hx
      injection h with h; injection h with h1 h2; subst h1 h2
      have hr := hs.val_ hp hx
      obtain ⟨b, h1, h2⟩ := id hr
      refine ⟨_, fun w' _ => ?_, hr⟩
      simp only [execOp]
      rw [h2]
      rfl
    · rename_i t y hx
      injection h with h; injection h with h1 h2; subst h1 h2
      have hr := hs.val_ hp hx
      obtain ⟨b, off, cells, e, fz, cs, h2, _⟩ := id hr
      refine ⟨_, fun w' _ => ?_, hr⟩
      simp only [execOp]
      rw [h2]
      rfl
    · rename_i r i sz hx
      injection h with h; injection h with h1 h2; subst h1 h2
      have hr := hs.val_ hp hx
      obtain ⟨g, n, c, h1, h3, h2⟩ := id hr
      refine ⟨_, fun w' _ => ?_, hr⟩
      simp only [execOp]
      rw [h2]
      rfl
    · cases h
  · rename_i c
    split at h
    · rename_i hcal
      split at h
      · rename_i x t ha ht
        split at h
        · rename_i y hx
          have ha' : c.args = #[x] := by rw [← Array.toList_inj]; simpa using ha
          have ht' : c.argTypes = #[t] := by rw [← Array.toList_inj]; simpa using ht
          obtain ⟨v, h1, h2⟩ := len_sound (ty := ty) h hob hs hp (hs.val_ hp hx)
          refine ⟨v, fun w' _ => ?_, h2⟩
          simp [execOp, resolve, invoke, builtin, hcal, ha', ht', h1]
        · cases h
      · cases h
    · rename_i hcal
      split at h
      · rename_i x y ha
        split at h
        · rename_i hx hy
          have ha' : c.args = #[x, y] := by rw [← Array.toList_inj]; simpa using ha
          obtain ⟨v, h1, h2⟩ := min_sound (P := P) (ts := c.argTypes) (ty := ty) h (hs.val_ hp hx) (hs.val_ hp hy)
          refine ⟨v, fun w' _ => ?_, h2⟩
          simp [execOp, resolve, invoke, builtin, hcal, ha', h1]
        · cases h
      · cases h
    · cases h
  · cases h
end
end Dec
