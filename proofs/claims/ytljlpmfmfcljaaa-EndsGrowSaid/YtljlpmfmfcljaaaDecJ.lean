/-
append onto a slice of the function's own.
-/
import Derived.Test.YtljlpmfmfcljaaaDecI
set_option linter.unusedSimpArgs false
set_option linter.unusedVariables false
namespace Dec
open Go Go.RowKit
def srcOf (st : St) (p : Path) (u : Ty) (x : AV) : Option (List u.T) :=
  match x with
  | .v (.c (.p (.sl v) l)) => match Ty.same v u with | some h => some (h.down ▸ l) | none => none
  | .v (.c (.own r)) => match st.con p r with
    | some (.arr _ v l) => match Ty.same v u with | some h => some (h.down ▸ l) | none => none
    | _ => none
  | .v (.c (.vw r lo n sz)) => match st.con p r with
    | some (.arr _ v l) => match Ty.same v u with | some h => if sz == u.size then some (h.down ▸ ((l.drop lo).take n)) else none | none => none
    | _ => none
  | .v (.c .nils) => some []
  | _ => none
def baseOf (st : St) (e : TypeId) (u : Ty) (x : AV) : Option (Option Nat × List u.T) :=
  match x with
  | .v (.c .nils) => some (none, [])
  | .v (.c (.own r)) => match st.con [] r with
    | some (.arr e' v l) => match Ty.same v u with | some h => if e' == e then some (some r, h.down ▸ l) else none | none => none
    | _ => none
  | .v (.c (.vw r 0 n sz)) => match st.con [] r with
    | some (.arr e' v l) => match Ty.same v u with | some h => if e' == e && sz == u.size then some (some r, h.down ▸ (l.take n)) else none | none => none
    | _ => none
  | _ => none
def evalA (P : Program) (st : St) (op : Op) : Option (Prop × Option Nat × Con) :=
  match op with
  | .call c => match c.callee with
    | .builtin .append => match c.args.toList, c.argTypes.toList with
      | [x, y], [t, t'] => if t == t' then (match elemOf P t with
        | none => none
        | some e => match tyOf P 8 e, st.val [] x, st.val [] y with
          | some u, some x, some y => if elemOk P e u then (match baseOf st e u x, srcOf st [] u y with
            | some (k, l), some m => some (roomW (wid u) (l.length + m.length), k, .arr e u (l ++ m))
            | _, _ => none) else none
          | _, _, _ => none) else none
      | _, _ => none
    | _ => none
  | _ => none
def St.purgeO (st : St) : Option Nat → St
  | none => st
  | some r => st.purge r
def St.appended (st : St) (d : Nat) (k : Option Nat) (c : Con) : St := (((st.purgeO k).purge d).own d [] c).put d [] (.v (.c (.own d)))
section
variable {P : Program} {w0 w : World} {S0 : Base} {G : Ghost} {st : St} {a : Act} {p : Path}
theorem ConRep.arr_cells {r : Nat} {e : TypeId} {t : Ty} {l : List t.T} (h : ConRep w G r (.arr e t l)) : ∃ xs ad c, G.rho r = .slice ad l.length c ∧ l.length ≤ c ∧ EncL (Enc w G.S t) l xs ∧
    (c = 0 ∨ ∃ g, ad = some ⟨g, 0, none⟩ ∧ ∀ j u, xs[j]? = some u → w.cell? ⟨g, j, none⟩ = some u) := by
  obtain ⟨xs, hx, ho, hm, hg⟩ := h
  obtain ⟨ad, c, hv, hc, hm', hgg⟩ := owns_form ho
  refine ⟨xs, ad, c, hv, hc, hx, hgg.imp id ?_⟩
  rintro ⟨g, rfl⟩
  refine ⟨g, rfl, fun j u hj => ?_⟩
  have := ho.cells (g := g) (by rw [hv]; rfl) j u hj
  rwa [addr_add, Nat.zero_add] at this
theorem src_rep {u : Ty} {x : AV} {v : Value} {m : List u.T} (h : srcOf st p u x = some m) (hs : SR w0 S0 G st a w) (hp : Holds a p) (hx : AVRep w G x v) :
    ∃ ad c, v = .slice ad m.length c ∧ (m.length = 0 ∨ ∃ a1 xs, ad = some a1 ∧ EncL (Enc w G.S u) m xs ∧ ∀ j u, xs[j]? = some u → w.cell? (a1.add j) = some u) := by
  unfold srcOf at h
  split at h
  · split at h
    · rename_i hh _
      have := hh.down
      subst this
      injection h with h; subst h
      obtain ⟨ad, c, e, hc, hm, hr⟩ := hx
      injection e with e _
      refine ⟨ad, c, e, ?_⟩
      rcases hr with rfl | ⟨b, off, cells, ty, fz, xs, rfl, hS, hb, hxs, hj⟩
      · left; rfl
      · right
        exact ⟨_, xs, rfl, hxs, fun j u hu => by rw [addr_add, cells_cell hb]; exact hj j u hu⟩
    · cases h
  · split at h
    · rename_i e' v' l hcon
      split at h
      · rename_i hh _
        have := hh.down
        subst this
        injection h with h; subst h
        obtain ⟨xs, ad, c, hv, hc, hxl, hg⟩ := (hs.con_ hp hcon).arr_cells
        obtain ⟨rfl, _⟩ := hx
        refine ⟨ad, c, hv, ?_⟩
        rcases hg with rfl | ⟨g, rfl, hj⟩
        · left; show l.length = 0; omega
        · right
          exact ⟨_, xs, rfl, hxl, fun j u hu => by rw [addr_add, Nat.zero_add]; exact hj j u hu⟩
      · cases h
    · cases h
  · rename_i r lo n sz
    split at h
    · rename_i e' v' l hcon
      split at h
      · rename_i hh _
        have := hh.down
        subst this
        split at h
        · rename_i hsz
          have hsz' : sz = v'.size := by simpa using hsz
          subst hsz'
          injection h with h; subst h
          obtain ⟨xs, ad, c, hv, hc, hxl, hg⟩ := (hs.con_ hp hcon).arr_cells
          obtain ⟨ad', len, cap, c', a', hv', hl, hn, hcap, rfl, ha', _⟩ := hx
          rw [hv] at hv'
          injection hv' with e1 e2 e3
          subst e1 e2 e3
          have hlen : ((l.drop lo).take n).length = n := by simp; omega
          refine ⟨a', c', by show _ = Value.slice _ ((l.drop lo).take n).length _; rw [hlen], ?_⟩
          show ((l.drop lo).take n).length = 0 ∨ _
          rw [hlen]
          by_cases hn0 : n = 0
          · left; exact hn0
          · right
            rcases hg with h0 | ⟨g, rfl, hj⟩
            · omega
            · rcases ha' with h0 | rfl
              · omega
              · refine ⟨_, (xs.drop (lo * v'.size)).take (n * v'.size), rfl, EncL.take (fun _ _ hh => Enc.length hh) n (EncL.drop (fun _ _ hh => Enc.length hh) lo hxl), fun j u hu => ?_⟩
                rw [List.getElem?_take] at hu
                split at hu
                · rw [List.getElem?_drop] at hu
                  show w.cell? (((⟨g, 0, none⟩ : Addr).add (lo * v'.size)).add j) = some u
                  rw [addr_add, addr_add, Nat.zero_add]
                  exact hj _ _ hu
                · cases hu
        · cases h
      · cases h
    · cases h
  · injection h with h; subst h
    have hx' : v = .slice none 0 0 := hx
    exact ⟨none, 0, hx', .inl rfl⟩
  · cases h
theorem base_rep {e : TypeId} {u : Ty} {x : AV} {v : Value} {k : Option Nat} {l : List u.T} (h : baseOf st e u x = some (k, l)) (hs : SR w0 S0 G st a w) (hx : AVRep w G x v) :
    ∃ xs, EncL (Enc w G.S u) l xs ∧ w.ownsRow 0 e u.size v l.length xs ∧ ∀ g, v.ownBlock = some g → ∃ r, k = some r ∧ G.col g = some r := by
  unfold baseOf at h
  split at h
  · injection h with h; injection h with e1 e2; subst e1 e2
    have hx' : v = .slice none 0 0 := hx
    subst hx'
    exact ⟨[], rfl, World.ownsRow_nil _ _ _ _, fun g hg => by simp [Value.ownBlock] at hg⟩
  · split at h
    · rename_i r e' v' l' hcon
      split at h
      · rename_i hh _
        have := hh.down
        subst this
        split at h
        · rename_i he
          have he' : e' = e := by simpa using he
          subst he'
          injection h with h; injection h with e1 e2; subst e1 e2
          obtain ⟨xs, hxl, ho, hm, hg⟩ := hs.con_ holds_nil hcon
          obtain ⟨rfl, _⟩ := hx
          exact ⟨xs, hxl, ho, fun g hgg => ⟨_, rfl, hg g hgg⟩⟩
        · cases h
      · cases h
    · cases h
  · rename_i r n sz
    split at h
    · rename_i e' v' l' hcon
      split at h
      · rename_i hh _
        have := hh.down
        subst this
        split at h
        · rename_i he
          simp only [Bool.and_eq_true, beq_iff_eq] at he
          obtain ⟨he', hsz⟩ := he
          subst he' hsz
          injection h with h; injection h with e1 e2; subst e1 e2
          obtain ⟨xs, hxl, ho, hm, hg⟩ := hs.con_ holds_nil hcon
          obtain ⟨ad, len, cap, c, a', hv, hl, hn, hcap, rfl, ha', _⟩ := hx
          have hc : c = cap := by omega
          subst hc
          have ha : a' = ad := by
            rcases ha' with ⟨_, h0⟩ | h1
            · exact absurd rfl h0
            · rw [h1]; cases ad <;> simp [Addr.add]
          subst ha
          rw [hv] at ho hg
          have hlen : len = l'.length := by
            obtain ⟨ad2, c2, e2, _⟩ := owns_form ho
            injection e2
          subst hlen
          have htl : (l'.take n).length = n := by simp; omega
          refine ⟨xs.take (n * v'.size), EncL.take (fun _ _ hh => Enc.length hh) n hxl, ?_, fun g hgg => ⟨_, rfl, hg g (by cases a' <;> exact hgg)⟩⟩
          show w.ownsRow _ _ _ (.slice a' n c) (l'.take n).length _
          rw [htl]
          have hxs := ho.1
          have hnn : n * v'.size ≤ l'.length * v'.size := Nat.mul_le_mul_right _ (by omega)
          refine ⟨by simp; omega, ?_⟩
          rcases ho.2 with ⟨e0, e1⟩ | ⟨g', cap', cur, e0, hb0, hb, hnc, hcm, hcs, htk⟩
          · injection e0 with e2 e3 e4
            subst e2
            left
            exact ⟨by rw [e4]; congr 1; omega, by omega⟩
          · injection e0 with e2 e3 e4
            subst e2 e4
            right
            refine ⟨g', c, cur, rfl, hb0, hb, by omega, hcm, hcs, ?_⟩
            rw [← htk, List.take_take, Nat.min_eq_left hnn]
        · cases h
      · cases h
    · cases h
  · cases h
theorem run_append_at (base : Nat) (t ty e : TypeId) (i : TypeInfo) (z : Value) (size bytes : Nat) (ht : P.underlying t = some (.slice e)) (hi : P.info? e = some i) (hz : i.zero = some z)
    (hsize : i.size = size) (hby : i.bytes = bytes) (hzs : z.cells.size = size) (hsz : 0 < size)
    (v : Value) (n : Nat) (xs : List Value) (hown : w.ownsRow base e size v n xs)
    (ad : Option Addr) (m c : Nat) (news : List Value) (hl : news.length = m * size) (hsrc : m = 0 ∨ ∃ a1, ad = some a1 ∧ ∀ j u, news[j]? = some u → w.cell? (a1.add j) = some u) (h1 : ∀ u ∈ news, u.oneCell' = true)
    (hbytes : (n + m) * bytes ≤ 140737488355328) (h63 : n + m ≤ 140737488355328) (hbase : base ≤ w.heap.size) :
    ∃ v' w', (Builtin.append_ #[t, t] ty #[v, .slice ad m c]).run P w = .ok v' w' ∧ w'.ownsRow base e size v' (n + m) (xs ++ news) ∧ w.grownBy w' v.ownBlock ∧ w.drawn ≤ w'.drawn ∧
      ∀ g, v'.ownBlock = some g → v.ownBlock = some g ∨ (g = w.heap.size ∧ w.heap.size < w'.heap.size) := by
  have hml : n + m ≤ maxLen := by simp only [maxLen]; omega
  by_cases hm0 : m = 0
  · subst hm0
    have hn : news = [] := List.eq_nil_of_length_eq_zero (by simpa using hl)
    subst hn
    refine ⟨v, w, ?_, by simpa using hown, ⟨rfl, rfl, rfl, Nat.le_refl _, fun _ _ _ => rfl⟩, Nat.le_refl _, fun g hg => .inl hg⟩
    obtain ⟨b, cc, rfl, hnc, _, _⟩ := owns_form hown
    cases ad <;> cases b <;> simp [Builtin.append_, run_underlying ht, Go.sizeOf, typeInfo, hi, Builtin.lenOf, Builtin.firstCells, hnc, loadCells, loadCellsFrom, storeCells]
  · obtain ⟨a1, rfl, hnews⟩ := hsrc.resolve_left hm0
    obtain ⟨v', w', hr, h2, h3, _⟩ := run_append_own (P := P) w base t ty e i z size bytes ht hi hz hsize hby hzs hsz v n xs hown a1 m c news hl hnews h1 hml hbytes hbase
    have hdr : w.drawn ≤ w'.drawn := by
      subst hsize hby
      rcases hown.2 with ⟨rfl, rfl⟩ | ⟨g0, cap, cur, rfl, hbg, hgg, hnc, hcm, hcs, htake⟩
      · have hr2 := run_append_nil (P := P) w t ty e i z ht hi hz a1 m c news hl hnews (by omega) (by omega) (by simp only [Nat.zero_add] at hbytes; omega)
        rw [hr] at hr2
        injection hr2 with e1 e2
        subst e1 e2
        exact Nat.le_succ _
      · by_cases hroom : n + m ≤ cap
        · have hfit : n * i.size + news.length ≤ cur.size := by rw [hl, hcs, ← Nat.add_mul]; exact Nat.mul_le_mul_right _ hroom
          have hr2 := run_append_room (P := P) w t ty e i ht hi g0 n cap cur hgg a1 m c news hl hnews h1 hroom hfit
          rw [hr] at hr2
          injection hr2 with e1 e2
          subst e1 e2
          exact Nat.le_refl _
        · have holds : ∀ j u, xs[j]? = some u → w.cell? ((⟨g0, 0, none⟩ : Addr).add j) = some u := hown.cells (g := g0) rfl
          have hr2 := run_append_grow (P := P) w t ty e i z ht hi hz ⟨g0, 0, none⟩ n cap xs hown.1 holds a1 m c news hl hnews (by omega) (by omega) (growslice_fits (by omega) hbytes)
          rw [hr] at hr2
          injection hr2 with e1 e2
          subst e1 e2
          exact Nat.le_succ _
    refine ⟨v', w', hr, h2, h3, hdr, fun g hg => ?_⟩
    subst hsize hby
    rcases hown.2 with ⟨rfl, rfl⟩ | ⟨g0, cap, cur, rfl, hbg, hgg, hnc, hcm, hcs, htake⟩
    · have hr2 := run_append_nil (P := P) w t ty e i z ht hi hz a1 m c news hl hnews (by omega) (by omega) (by simp only [Nat.zero_add] at hbytes; omega)
      rw [hr] at hr2
      injection hr2 with e1 e2
      subst e1 e2
      simp only [Value.ownBlock, Option.some.injEq] at hg
      exact .inr ⟨hg.symm, by simp⟩
    · by_cases hroom : n + m ≤ cap
      · have hfit : n * i.size + news.length ≤ cur.size := by rw [hl, hcs, ← Nat.add_mul]; exact Nat.mul_le_mul_right _ hroom
        have hr2 := run_append_room (P := P) w t ty e i ht hi g0 n cap cur hgg a1 m c news hl hnews h1 hroom hfit
        rw [hr] at hr2
        injection hr2 with e1 e2
        subst e1 e2
        exact .inl hg
      · have holds : ∀ j u, xs[j]? = some u → w.cell? ((⟨g0, 0, none⟩ : Addr).add j) = some u := hown.cells (g := g0) rfl
        have hr2 := run_append_grow (P := P) w t ty e i z ht hi hz ⟨g0, 0, none⟩ n cap xs hown.1 holds a1 m c news hl hnews (by omega) (by omega) (growslice_fits (by omega) hbytes)
        rw [hr] at hr2
        injection hr2 with e1 e2
        subst e1 e2
        simp only [Value.ownBlock, Option.some.injEq] at hg
        exact .inr ⟨hg.symm, by simp⟩
def Ghost.grown (G : Ghost) (d : Nat) (v : Value) : Ghost :=
  { S := G.S, col := fun b => if v.ownBlock = some b then some d else G.col b, rho := fun r => if r = d then v else G.rho r }
theorem Fr.grown {X : Nat → Prop} {B : Nat} {a w w' : World} {row : Option Nat} (h : Fr X B a w) (hg : w.grownBy w' row) (hB : B ≤ w.heap.size) (hr : ∀ k, row = some k → X k ∨ B ≤ k) (hdr : w.drawn ≤ w'.drawn) : Fr X B a w' :=
  h.trans ⟨hdr, hg.os, hg.tape, hg.output, hg.size, fun k hk hx => hg.block k (by omega) (fun e => by rcases hr k e.symm with h1 | h1; exact hx h1; omega)⟩
theorem SR.appended (h : SR w0 S0 G st a w) {d : Nat} {k : Option Nat} {e : TypeId} {t : Ty} {l : List t.T} {xs : List Value} {v v' : Value} {w' : World} (hd : d < st.n)
    (hx : EncL (Enc w G.S t) l xs) (ho : w'.ownsRow 0 e t.size v' l.length xs) (hm : l.length ≤ maxLen) (hg : w.grownBy w' v.ownBlock) (hdr : w.drawn ≤ w'.drawn)
    (hk : ∀ g, v.ownBlock = some g → ∃ r, k = some r ∧ G.col g = some r) (hv : ∀ g, v'.ownBlock = some g → v.ownBlock = some g ∨ (g = w.heap.size ∧ w.heap.size < w'.heap.size)) :
    ∃ G', Mv k.toList G w G' w' ∧ SR w0 S0 G' (st.appended d k (.arr e t l)) (a.put (some d) v') w' := by
  have hne : ∀ b, G.S b → some b ≠ v.ownBlock := fun b hb e => by
    obtain ⟨r, _, hc⟩ := hk b e.symm
    exact (h.colr _ _ hc).2.2 hb
  have hS : ∀ b, G.S b → G.S b ∧ w'.heap[b]? = w.heap[b]? := fun b hb => ⟨hb, hg.block b (h.sub b hb).1 (hne b hb)⟩
  have hvlt : ∀ g, v.ownBlock = some g → (S0.F g ∨ w0.heap.size ≤ g) ∧ g < w.heap.size := fun g e => by
    obtain ⟨r, _, hc⟩ := hk g e
    exact ⟨(h.colr _ _ hc).1, (h.colr _ _ hc).2.1⟩
  have h1 : SR w0 S0 G (st.purgeO k) a w := by
    cases k with
    | none => exact h
    | some r => exact h.purge r
  have hpk : ∀ r, k = some r → (∀ x ∈ ((st.purgeO k).purge d).sl, x.2.2.has r = false) ∧ (∀ x ∈ ((st.purgeO k).purge d).hp, ¬ x.1 = r ∧ x.2.2.has r = false) := by
    intro r hr
    subst hr
    constructor
    · intro x hx
      simp only [St.purge, St.purgeO, List.mem_filter, Bool.not_eq_true'] at hx
      exact hx.1.2
    · intro x hx
      simp only [St.purge, St.purgeO, List.mem_map, List.mem_filter] at hx
      obtain ⟨x1, ⟨⟨x2, ⟨hx2, hn2⟩, rfl⟩, _⟩, rfl⟩ := hx
      refine ⟨by simpa using hn2, ?_⟩
      cases hh : Con.has r ((x2.2.2.blur r).blur d) with
      | false => rfl
      | true => exact absurd rfl (Con.has_of_blur (Con.has_of_blur hh).1).2
  have hcolv : ∀ b q, ¬ (q = d ∨ k = some q) → G.col b = some q → v'.ownBlock ≠ some b ∧ w'.heap[b]? = w.heap[b]? := by
    intro b q hq hb
    have hlt := (h.colr b q hb).2.1
    have hnv : v.ownBlock ≠ some b := fun e => by
      obtain ⟨r, hr, hc⟩ := hk b e
      rw [hb] at hc
      injection hc with hc
      exact hq (.inr (by rw [hr, hc]))
    refine ⟨fun e => ?_, hg.block b hlt (fun e => hnv e.symm)⟩
    rcases hv b e with h2 | ⟨h2, _⟩
    · exact hnv h2
    · omega
  have h2 : SR w0 S0 (G.grown d v') ((st.purgeO k).purge d) a w' := by
    refine (h1.purge d).move (fun q => q = d ∨ k = some q) hS ?_ ?_ (h.below.grown hg h.below_size (fun g e => (hvlt g e).1) hdr) ?_ ?_ rfl (fun x hx => ⟨hx, fun r hr hD => ?_⟩) (fun x hx => ⟨hx, fun hD => ?_, fun r hr hD => ?_⟩)
    · intro r hr
      simp only [Ghost.grown]
      rw [if_neg (fun e => hr (.inl e))]
    · intro b q hq hb
      obtain ⟨h3, h4⟩ := hcolv b q hq hb
      refine ⟨?_, h4⟩
      simp only [Ghost.grown]
      rw [if_neg h3]
      exact hb
    · intro b hb
      have := h.sub b hb
      have := hg.size
      exact ⟨by omega, (h.sub b hb).2⟩
    · intro b q hb
      simp only [Ghost.grown] at hb ⊢
      have hsz := hg.size
      split at hb
      · rename_i e
        rcases hv b e with h3 | ⟨h3, h4⟩
        · obtain ⟨r, _, hc⟩ := hk b h3
          have := h.colr _ _ hc
          exact ⟨this.1, by omega, this.2.2⟩
        · subst h3
          exact ⟨.inr h.below_size, h4, fun hS => by have := (h.sub _ hS).1; omega⟩
      · have := h.colr b q hb
        exact ⟨this.1, by omega, this.2.2⟩
    · rcases hD with rfl | hD
      · exact purge_sl hx r hr rfl
      · have := (hpk r hD).1 x hx
        rw [hr] at this
        cases this
    · rcases hD with hD | hD
      · exact (purge_hp hx).1 hD
      · exact ((hpk _ hD).2 x hx).1 rfl
    · rcases hD with rfl | hD
      · exact (purge_hp hx).2 r hr rfl
      · have := ((hpk r hD).2 x hx).2
        rw [hr] at this
        cases this
  have hn : ((st.purgeO k).purge d).n = st.n := by cases k <;> rfl
  have hmv : Mv k.toList G w (G.grown d v') w' := by
    refine ⟨hg.size, fun b hb hx => hg.block b hb (fun e => hx ?_), fun b q hq => ?_⟩
    · obtain ⟨r, hr, hc⟩ := hk b e.symm
      exact ⟨r, by rw [hr]; simp, hc⟩
    · simp only [Ghost.grown] at hq
      split at hq
      · rename_i e
        rcases hv b e with h3 | ⟨h3, h4⟩
        · obtain ⟨r, hr, hc⟩ := hk b h3
          exact .inr (.inr ⟨r, by rw [hr]; simp, hc⟩)
        · exact .inl (by omega)
      · exact .inr (.inl hq)
  refine ⟨_, hmv, (h2.own (r := d) (p := []) (c := .arr e t l) fun _ => ?_).put (by show d < ((st.purgeO k).purge d).n; rw [hn]; exact hd) rfl (fun _ => ?_) (fun hn => absurd holds_nil hn)⟩
  · refine ⟨xs, EncL.imp (fun _ _ hh => Enc.keep hS hh) hx, by simpa [Ghost.grown] using ho, hm, fun g hgg => ?_⟩
    simp only [Ghost.grown, ↓reduceIte] at hgg ⊢
    rw [if_pos hgg]
  · refine ⟨by simp [Ghost.grown], ?_⟩
    obtain ⟨ad, c, e1, _⟩ := owns_form ho
    exact .inl ⟨ad, _, c, e1⟩
theorem evalA_sound {o : Oper} {d : Nat} {ob : Prop} {k : Option Nat} {c : Con} (h : evalA P st o.op = some (ob, k, c)) (hob : ob) (hs : SR w0 S0 G st a w) (hd : d < st.n) :
    ∃ v w' G', (execOp a.eval o).run P w = .ok (.value v) w' ∧ Mv k.toList G w G' w' ∧ SR w0 S0 G' (st.appended d k c) (a.put (some d) v) w' := by
  obtain ⟨dst, op, ty, pos, after, guard⟩ := o
  unfold evalA at h
  simp only at h
  split at h
  · rename_i cl
    split at h
    · rename_i hcal
      split at h
      · rename_i x y t t' hargs hats
        split at h
        · rename_i htt
          have htt' : t = t' := by simpa using htt
          subst htt'
          split at h
          · cases h
          · rename_i e he
            have hu := elemOf_under he
            split at h
            · rename_i u x' y' ht hx hy
              split at h
              · rename_i hok
                split at h
                · rename_i k' l m hbase hsrc
                  injection h with h; injection h with e1 h; injection h with e2 e3; subst e1 e2 e3
                  obtain ⟨i, z, hi, his, hib, hz, hzs, hzd⟩ := elemOk_spec hok
                  have hxr := hs.val_ holds_nil hx
                  have hyr := hs.val_ holds_nil hy
                  obtain ⟨xs, hxl, ho, hcol⟩ := base_rep hbase hs hxr
                  obtain ⟨ad, c', hv2, hsr⟩ := src_rep hsrc hs holds_nil hyr
                  obtain ⟨ys, hyl, hcells⟩ : ∃ ys, EncL (Enc w G.S u) m ys ∧ (m.length = 0 ∨ ∃ a1, ad = some a1 ∧ ∀ j u, ys[j]? = some u → w.cell? (a1.add j) = some u) := by
                    rcases hsr with h0 | ⟨a1, ys, h1, h2, h3⟩
                    · have : m = [] := List.eq_nil_of_length_eq_zero h0
                      subst this
                      exact ⟨[], rfl, .inl rfl⟩
                    · exact ⟨ys, h2, .inr ⟨a1, h1, h3⟩⟩
                  have hob' : (l.length + m.length) * wid u ≤ 140737488355328 := hob
                  have hroom : l.length + m.length ≤ 140737488355328 := Nat.le_trans (Nat.le_mul_of_pos_right _ (wid_pos u)) hob'
                  have hrb : (l.length + m.length) * i.bytes ≤ 140737488355328 := Nat.le_trans (Nat.mul_le_mul_left _ (elemOk_wid hok hi)) hob'
                  obtain ⟨v', w', hrun, h2, h3, hdr, h4⟩ := run_append_at (P := P) 0 t ty e i z u.size i.bytes hu hi hz his rfl hzs u.size_pos _ _ _ ho ad m.length c' ys
                    (EncL.length (fun _ _ hh => Enc.length hh) hyl) hcells (EncL.one (fun _ _ hh => Enc.one hh) hyl) hrb hroom (Nat.zero_le _)
                  obtain ⟨G', hmv, hG⟩ := hs.appended (e := e) hd (hxl.append hyl) (by rw [List.length_append]; exact h2) (by simp only [List.length_append, maxLen]; omega) h3 hdr hcol h4
                  refine ⟨v', w', G', ?_, hmv, hG⟩
                  have ha' : cl.args = #[x, y] := by rw [← Array.toList_inj]; simpa using hargs
                  have ht' : cl.argTypes = #[t, t] := by rw [← Array.toList_inj]; simpa using hats
                  simp only [execOp, resolve, hcal, ha', ht', invoke, builtin, Sem.run_bind, Sem.run_pure, Result.andThen_ok, List.map_toArray, List.map_cons, List.map_nil]
                  rw [hv2, hrun]
                  rfl
                · cases h
              · cases h
            · cases h
        · cases h
      · cases h
    · cases h
  · cases h
end
end Dec
