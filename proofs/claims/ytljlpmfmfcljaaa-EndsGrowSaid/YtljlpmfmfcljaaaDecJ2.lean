/-
More operations that only compute: a struct is made of its parts.
-/
import Derived.Test.YtljlpmfmfcljaaaDecJ
import Derived.Laws.Tables
set_option linter.unusedSimpArgs false
set_option linter.unusedVariables false
namespace Dec
open Go Go.RowKit
def fillC (st : St) (p : Path) (places : Nat → Option (Nat × Nat)) : List Cl → List (Nat × Operand) → Option (List Cl)
  | cs, [] => some cs
  | cs, (i, x) :: r => match places i, st.val p x with
    | some (off, size), some (.v y) => match y.cls with
      | some ds => if ds.length == size && decide (off + size ≤ cs.length) then fillC st p places (cs.take off ++ ds ++ cs.drop (off + size)) r else none
      | none => none
    | _, _ => none
def zeroC (st : St) (z : Value) : Option (List Cl) :=
  match st.val [] (.const z) with
  | some (.v y) => y.cls
  | _ => none
def evalBuild (P : Program) (st : St) (p : Path) (t : TypeId) (parts : List (Nat × Operand)) : Option (Prop × AV) :=
  match P.info? t, P.underlying t with
  | some it, some (.struct fs) => match it.zero with
    | some z => match zeroC st z, fs.toList.mapM (fun f => (P.info? f.type).map fun i => (f.offset, i.size)) with
      | some cs, some places => match fillC st p (fun i => places[i]?) cs parts with
        | some ds => some (True, .v (.agg ds))
        | none => none
      | _, _ => none
    | none => none
  | some it, some (.array _ e) => match it.zero, P.info? e with
    | some z, some ie => match zeroC st z with
      | some cs => match fillC st p (fun i => some (i * ie.size, ie.size)) cs parts with
        | some ds => some (True, .v (.agg ds))
        | none => none
      | none => none
    | _, _ => none
  | _, _ => none
def evalX (P : Program) (st : St) (p : Path) (op : Op) : Option (Prop × AV) :=
  match evalP P st p op with
  | some r => some r
  | none => match op with
    | .build t parts => evalBuild P st p t parts.toList
    | _ => none
section
variable {P : Program} {w0 w : World} {S0 : Base} {G : Ghost} {st : St} {a : Act} {p : Path}
theorem fillC_rep (hs : SR w0 S0 G st a w) (hp : Holds a p) {places : Nat → Option (Nat × Nat)} : ∀ {parts : List (Nat × Operand)} {cs ds : List Cl} {cells : Array Value}, All2 (ClRep w G) cs cells.toList → fillC st p places cs parts = some ds →
    ∃ cells', Instr.fill places cells (parts.map fun x => (x.1, a.eval x.2)) = some cells' ∧ All2 (ClRep w G) ds cells'.toList
  | [], cs, ds, cells, h, hf => by
    simp only [fillC] at hf
    injection hf with hf; subst hf
    exact ⟨cells, rfl, h⟩
  | (i, x) :: r, cs, ds, cells, h, hf => by
    simp only [fillC] at hf
    split at hf
    · rename_i off size y hpl hy
      split at hf
      · rename_i es he
        split at hf
        · rename_i hck
          simp only [Bool.and_eq_true, beq_iff_eq, decide_eq_true_eq] at hck
          have hv : V1Rep w G y (a.eval x) := hs.val_ hp hy
          have hc := hv.cells he
          have hl := hc.length
          have hcl := h.length
          simp only [Array.length_toList] at hl hcl
          have h2 : All2 (ClRep w G) (cs.take off ++ es ++ cs.drop (off + size)) (cells.toList.take off ++ (a.eval x).cells.toList ++ cells.toList.drop (off + size)) := (((h.take off).append hc).append (h.drop (off + size)))
          have hf1 := fill_one off (a.eval x) cells (by omega)
          obtain ⟨cells', h3, h4⟩ := fillC_rep hs hp (parts := r) (cells := (cells.toList.take off ++ (a.eval x).cells.toList ++ cells.toList.drop (off + size)).toArray) (by simpa using h2) hf
          refine ⟨cells', ?_, h4⟩
          simp only [List.map_cons]
          unfold Instr.fill
          simp only [hpl]
          have hn : ¬ ((decide ((a.eval x).cells.size ≠ size) || decide (off + (a.eval x).cells.size > cells.size)) = true) := by
            simp; omega
          rw [if_neg hn]
          rw [hf1, show (a.eval x).cells.size = size by omega]
          exact h3
        · cases hf
      · cases hf
    · cases hf
theorem build_sound {t : TypeId} {parts : Array (Nat × Operand)} {ob : Prop} {z : AV} (h : evalBuild P st p t parts.toList = some (ob, z)) (hs : SR w0 S0 G st a w) (hp : Holds a p) :
    ∃ v, (∀ w' : World, (Instr.build t (parts.map fun (i, x) => (i, a.eval x))).run P w' = .ok v w') ∧ AVRep w G z v := by
  unfold evalBuild at h
  split at h
  · rename_i it fs hit hu
    split at h
    · rename_i zv hz
      split at h
      · rename_i cs places hc hpl
        split at h
        · rename_i ds hds
          injection h with h; injection h with h1 h2; subst h1 h2
          have hzc : All2 (ClRep w G) cs zv.cells.toList := by
            unfold zeroC at hc
            split at hc
            · rename_i y hy
              have : V1Rep w G y (a.eval (.const zv)) := hs.val_ holds_nil hy
              exact this.cells hc
            · cases hc
          obtain ⟨cells', h3, h4⟩ := fillC_rep hs hp hzc hds
          refine ⟨.agg cells', fun w' => ?_, cells'.toList, by simp, h4⟩
          refine run_build w' t _ cells' ?_
          unfold Program.built
          rw [hit, hu]
          simp only [hz, hpl]
          have e1 : (fun i : Nat => places.toArray[i]?) = fun i : Nat => places[i]? := by funext i; simp
          rw [e1, ← h3]
          congr 1
          simp
        · cases h
      · cases h
    · cases h
  · rename_i it n e hit hu
    split at h
    · rename_i zv ie hz hie
      split at h
      · rename_i cs hc
        split at h
        · rename_i ds hds
          injection h with h; injection h with h1 h2; subst h1 h2
          have hzc : All2 (ClRep w G) cs zv.cells.toList := by
            unfold zeroC at hc
            split at hc
            · rename_i y hy
              have : V1Rep w G y (a.eval (.const zv)) := hs.val_ holds_nil hy
              exact this.cells hc
            · cases hc
          obtain ⟨cells', h3, h4⟩ := fillC_rep hs hp hzc hds
          refine ⟨.agg cells', fun w' => ?_, cells'.toList, by simp, h4⟩
          refine run_build w' t _ cells' ?_
          unfold Program.built
          rw [hit, hu]
          simp only [hz, hie]
          rw [← h3]
          congr 1
          simp
        · cases h
      · cases h
    · cases h
  · cases h
theorem evalX_sound {o : Oper} {ob : Prop} {z : AV} {D : List Nat} {X : Nat → Prop} (hcv : ∀ s d x, o.op = .convert s d x → ∃ u, P.underlying s = some u) (h : evalX P st p o.op = some (ob, z)) (hob : ob) (hs : SR w0 S0 G st a w) (hp : Holds a p)
    (hX : Shut D G X) (hld : ldOk D st p o.op = true) :
    ∃ v, (∀ w' : World, (isLoad o.op = true → Agree X w w') → (execOp a.eval o).run P w' = .ok (.value v) w') ∧ AVRep w G z v := by
  unfold evalX at h
  split at h
  · rename_i r hr
    injection h with h; subst h
    exact evalP_sound hcv hr hob hs hp hX hld
  · split at h
    · rename_i t parts hop
      obtain ⟨v, h1, h2⟩ := build_sound h hs hp
      refine ⟨v, fun w' _ => ?_, h2⟩
      unfold execOp
      simp only [hop, Sem.run_bind, h1 w', Result.andThen_ok, Sem.run_pure]
    · cases h
end
end Dec
