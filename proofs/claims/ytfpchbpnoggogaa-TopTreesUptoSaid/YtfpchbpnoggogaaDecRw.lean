/-
  How much a datum weighs, and that an argument's datum weighs no more than its reading.
-/
import Derived.Test.YtfpchbpnoggogaaDecRc
import Derived.Test.YtfpchbpnoggogaaDecT
import Derived.Test.YtfpchbpnoggogaaDecV
import Derived.Deep.Slices
import Derived.Carry
set_option linter.unusedSimpArgs false
set_option linter.unusedVariables false
namespace Dec
open Go Go.RowKit Go.Deep Go.ChangeShapes Go.WideShapes
def wgt : (t : Ty) → t.T → Nat
 | .sl t, l => (l.map (fun x => wgt t x)).sum + 1
 | .pr a b, x => wgt a x.1 + wgt b x.2
 | .int _, _ => 1
 | .bool, _ => 1
 | .ar _ _, _ => 1
 | .mp _ _, _ => 1
 | .tr, _ => 1
mutual
def blk {H : Type} : DataW H → Nat
 | .slice elems _ => blkAll elems + 1
 | .agg parts => blkAll parts + 1
 | .lit _ => 1
 | .nil => 1
 | .ptr _ => 1
 | .iface _ _ => 1
 | .map _ => 1
 | .held _ => 1
def blkAll {H : Type} : List (DataW H) → Nat
 | [] => 0
 | d :: r => blk d + blkAll r
end
theorem blkAll_map {H : Type} : ∀ l : List (DataW H), blkAll l = (l.map blk).sum
 | [] => rfl
 | d :: r => by simp [blkAll, blkAll_map r]
section
variable {H : Type} {enc : TypeId × Value → H} {P : Program} {w : World}
theorem encl_of_index_w {α : Type} {E : α → List Value → Prop} {sz len : Nat} (f : Nat → Option Value) (wt : α → Nat) (g : Nat → Nat) (hE : ∀ i, i < len → ∃ y cs, E y cs ∧ cs.length = sz ∧ wt y ≤ g i ∧ ∀ j, j < sz → f (i * sz + j) = cs[j]?) :
  ∃ l xs, l.length = len ∧ EncL E l xs ∧ xs.length = len * sz ∧ (l.map wt).sum ≤ ((List.range len).map g).sum ∧ ∀ j u, xs[j]? = some u → f j = some u := by
 induction len with
 | zero => exact ⟨[], [], rfl, rfl, by simp, by simp, by simp⟩
 | succ n ih =>
  obtain ⟨l, xs, h1, h2, h3, hw, h4⟩ := ih fun i hi => hE i (Nat.lt_succ_of_lt hi)
  obtain ⟨y, cs, h5, h6, hy, h7⟩ := hE n (Nat.lt_succ_self n)
  refine ⟨l ++ [y], xs ++ cs, by simp [h1], EncL.append h2 (EncL.single h5), by simp [h3, h6, Nat.add_mul], ?_, fun j u hj => ?_⟩
  ·rw [List.range_succ, List.map_append, List.map_append, List.sum_append, List.sum_append]
   simp only [List.map_cons, List.map_nil, List.sum_cons, List.sum_nil]
   omega
  ·by_cases hjx : j < xs.length
   ·rw [List.getElem?_append_left hjx] at hj
    exact h4 j u hj
   ·rw [List.getElem?_append_right (by omega)] at hj
    have hjl : j - xs.length < cs.length := (List.getElem?_eq_some_iff.1 hj).1
    have := h7 (j - xs.length) (by omega)
    rw [show n * sz + (j - xs.length) = j by omega] at this
    rw [this, hj]
theorem enc_fields_w {n : Nat} {cs : List Value} :
  ∀ {fs : List Field} {gs : List Nat} {off : Nat} {l : List Ty} {u : Ty}, gs.length = fs.length → fieldTys (tyOf0 P n) fs off = some l → nest l = some u → cs.length = off + u.size →
   (∀ (i : Nat) (f : Field), fs[i]? = some f → ∀ t, tyOf0 P n f.type = some t → ∃ y, Enc w (Old w) t y ((cs.drop f.offset).take t.size) ∧ wgt t y ≤ gs.getD i 0) → ∃ y, Enc w (Old w) u y (cs.drop off) ∧ wgt u y ≤ gs.sum
 | [], gs, off, l, u, _, h, hn, _, _ => by
  simp only [fieldTys] at h
  injection h with h; subst h
  simp [nest] at hn
 | x :: xs, [], off, l, u, hg, _, _, _, _ => by simp at hg
 | x :: xs, g :: gs, off, l, u, hg, h, hn, hl, hf => by
  simp only [fieldTys] at h
  split at h
  ·rename_i t ht
   split at h
   ·rename_i ho
    simp only [beq_iff_eq] at ho
    split at h
    ·rename_i l' hl'
     injection h with h; subst h
     obtain ⟨y, hy, hyw⟩ := hf 0 x rfl t ht
     simp only [List.getD_cons_zero] at hyw
     rw [ho] at hy
     cases l' with
     | nil =>
      simp only [nest] at hn
      injection hn with hn; subst hn
      refine ⟨y, ?_, by simp only [List.sum_cons]; omega⟩
      rw [List.take_of_length_le (by simp; omega)] at hy
      exact hy
     | cons t2 l2 =>
      simp only [nest] at hn
      split at hn
      ·rename_i u' hu'
       injection hn with hn; subst hn
       simp only [Ty.size] at hl
       obtain ⟨z, hz, hzw⟩ := enc_fields_w (cs := cs) (fs := xs) (gs := gs) (by simpa using hg) hl' hu' (by omega) (fun i f hi => by simpa using hf (i + 1) f (by simpa using hi))
       refine ⟨(y, z), ⟨_, _, ?_, hy, hz⟩, by simp only [wgt, List.sum_cons]; omega⟩
       rw [← List.drop_drop]
       exact (List.take_append_drop _ _).symm
      ·cases hn
    ·cases h
   ·cases h
  ·cases h
theorem enc_of_trod_w : ∀ (n : Nat) {t : TypeId} {u : Ty} {fuel : Nat} {cs : List Value} {x : DataW H × List MemPlace}, tyOf0 P n t = some u → DataW.trod enc P w 0 (fun _ => true) true fuel t cs = some x → ∃ y : u.T, Enc w (Old w) u y cs ∧ wgt u y ≤ blk x.1
 | 0, t, u, _, _, _, h, _ => by simp [tyOf0] at h
 | n + 1, t, u, fuel, cs, x, h, hx => by
  have h0 := h
  have one : ∀ d : DataW H, 1 ≤ blk d := fun d => by cases d <;> simp [blk]
  simp only [tyOf0] at h
  split at h
  ·cases h
  ·rename_i inf hinf
   split at h
   ·rename_i k hu
    split at h
    ·injection h with h; subst h
     obtain ⟨m, rfl, _, hw⟩ := DataW.trod_int hu hx
     exact ⟨m, ⟨rfl, wf_range hw⟩, one _⟩
    ·cases h
   ·rename_i hu
    split at h
    ·injection h with h; subst h
     obtain ⟨b, rfl, _⟩ := DataW.trod_bool hu hx
     exact ⟨b, rfl, one _⟩
    ·cases h
   ·rename_i e hu
    split at h
    ·split at h
     ·rename_i v hv
      injection h with h; subst h
      rcases open_slice hu hx with ⟨rfl, _⟩ | ⟨a, len, cap, m, n', D, Pl, rfl, _, hl, hm, hmm, hxe, hel⟩
      ·exact ⟨[], ⟨none, 0, rfl, Nat.le_refl _, Nat.zero_le _, .inl rfl⟩, by simp [wgt]; exact one _⟩
      ·simp only [if_true] at hmm
       subst hmm
       have hsz := tyOf_cells (tyOf_of0 _ hv)
       cases len with
       | zero => exact ⟨[], ⟨some a, m, rfl, Nat.zero_le _, hm, .inl rfl⟩, by simp [wgt]; exact one _⟩
       | succ len =>
        have hpos := v.size_pos
        have hfirst : ∃ c e' fz, w.heap[a.block]? = some (.cells c e' fz) ∧ a.spot = none := by
         obtain ⟨cs', h1, _⟩ := hel 0 (by omega)
         obtain ⟨_, h2, h3⟩ := World.cells?_some h1
         have h4 := h3 0 (by omega)
         simp only [Nat.zero_mul] at h4
         rw [show (a.add 0).add 0 = a from by simp [Addr.add], List.getElem?_eq_getElem (by omega)] at h4
         unfold World.cell? at h4
         split at h4
         ·rename_i c e' fz hb
          refine ⟨c, e', fz, hb, ?_⟩
          cases hs : a.spot with
          | none => rfl
          | some _ => simp [hs] at h4
         ·cases h4
        obtain ⟨c, e', fz, hb, hspot⟩ := hfirst
        have hcell : ∀ j, w.cell? (a.add j) = c[a.off + j]? := by
         intro j
         by_cases hj : j = 0
         ·subst hj; simp [Addr.add, World.cell?, hb, hspot]
         ·simp [Addr.add, hj, World.cell?, hb]
        obtain ⟨l, xs, h1, h2, _, hww, h4⟩ := encl_of_index_w (E := fun y cs => Enc w (Old w) v y cs) (sz := v.size) (len := len + 1) (fun j => c[a.off + j]?) (fun y => wgt v y) (fun i => blk (D i)) (fun i hi => by
         obtain ⟨cs', h5, h6⟩ := hel i (by omega)
         obtain ⟨y, hy, hyw⟩ := enc_of_trod_w n hv h6
         obtain ⟨_, h7, h8⟩ := World.cells?_some h5
         refine ⟨y, cs', hy, by rw [h7, hsz], hyw, fun j hj => ?_⟩
         have := h8 j (by omega)
         rw [add_add, hsz, hcell] at this
         exact this)
        refine ⟨l, ⟨some a, m, by rw [h1], by rw [h1]; exact hl, hm, .inr ⟨a.block, a.off, c, e', fz, xs, ?_, ?_, hb, h2, h4⟩⟩, ?_⟩
        ·cases a; simp_all
        ·exact (Array.getElem?_eq_some_iff.1 hb).1
        ·rw [hxe]
         simp only [wgt, blk, blkAll_map, List.map_map]
         have e1 : ((List.range (len + 1)).map (blk ∘ D)).sum = ((List.range (len + 1)).map fun i => blk (D i)).sum := rfl
         rw [e1]
         omega
     ·cases h
    ·cases h
   ·rename_i fs hu
    split at h
    ·cases h
    split at h
    ·rename_i l hl
     split at h
     ·rename_i u' hu'
      split at h
      ·rename_i hck
       injection h with h; subst h
       simp only [Bool.and_eq_true, beq_iff_eq] at hck
       obtain ⟨xs, n', _, hxe, hlen, hxl, hxs⟩ := DataW.trod_struct hu hx
       have hcs : cs.length = u'.size := by rw [hlen]; simp [Program.cellsOf, hinf, hck.2]
       obtain ⟨y, hy, hyw⟩ := enc_fields_w (w := w) (n := n) (cs := cs) (gs := xs.map fun q => blk q.1) (by simpa using hxl) hl hu' (by omega) (fun i f hi t ht => by
        have hi' : fs[i]? = some f := by simpa using hi
        have h5 := hxs i f hi'
        rw [tyOf_cells (tyOf_of0 _ ht)] at h5
        have hi2 : i < xs.length := by rw [hxl]; exact (Array.getElem?_eq_some_iff.1 hi').1
        rw [List.getElem?_eq_getElem hi2] at h5
        obtain ⟨y, k1, k2⟩ := enc_of_trod_w n ht h5
        refine ⟨y, k1, ?_⟩
        simp only [List.getD_eq_getElem?_getD, List.getElem?_map, List.getElem?_eq_getElem hi2, Option.map_some, Option.getD_some]
        exact k2)
       refine ⟨y, by simpa using hy, ?_⟩
       rw [hxe]
       simp only [blk, blkAll_map, List.map_map]
       have e1 : (xs.map (blk ∘ fun q => q.1)).sum = (xs.map fun q => blk q.1).sum := rfl
       have e2 : (xs.map (blk ∘ Prod.fst)).sum = (xs.map fun q => blk q.1).sum := rfl
       omega
      ·cases h
     ·cases h
    ·cases h
   ·cases h
theorem prep_ok_w {n : Nat} {t : TypeId} {u : Ty} (h : tyOf0 P n t = some u) {r : Reach} {b0 : Nat} {v : Value} {d : DataW H} {ps : List MemPlace} (hval : Value.okWide P w r b0 t v) (hd : DataW.Trod enc P w 0 (fun _ => true) true t v d ps) :
  ∃ y : u.T, PRep w (Old w) (toV1 u y) v ∧ Ok u y ∧ wgt u y ≤ blk d := by
 obtain ⟨fuel, hf⟩ := hd
 obtain ⟨y, hy, hyw⟩ := enc_of_trod_w n h hf
 refine ⟨y, ⟨u, y, _, rfl, hy, ?_⟩, Enc.ok hy, hyw⟩
 have h0 := h
 cases n with
 | zero => simp [tyOf0] at h
 | succ n =>
  simp only [tyOf0] at h
  split at h
  ·cases h
  ·split at h
   ·rename_i hu
    split at h
    ·injection h with h; subst h
     obtain ⟨m, rfl⟩ := okWide_int hu hval
     rfl
    ·cases h
   ·rename_i hu
    split at h
    ·injection h with h; subst h
     obtain ⟨m, rfl⟩ := okWide_bool hu hval
     rfl
    ·cases h
   ·rename_i hu
    split at h
    ·split at h
     ·injection h with h; subst h
      obtain ⟨a, len, cap, rfl⟩ := okWide_slice hu hval
      rfl
     ·cases h
    ·cases h
   ·rename_i hu
    split at h
    ·cases h
    split at h
    ·split at h
     ·split at h
      ·rename_i hs
       injection h with h; subst h
       simp only [Bool.and_eq_true] at hs
       unfold Value.okWide at hval
       rw [hu] at hval
       obtain ⟨cs, rfl, _⟩ := hval
       simp [mkVal, hs.1, Value.cells]
      ·cases h
     ·cases h
    ·cases h
   ·cases h
end
end Dec
