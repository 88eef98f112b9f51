/-
A law's end: it gave true, the arguments read as they read. Is a slice nil? (What is asked of an address: its answer is left open, but for this: a nil slice is empty.) A slice that is an argument has as many elements as its reading.
-/
import Derived.Test.YtljlpmfmfcljaaaDecR
import Derived.ProofKit
import Derived.Laws.Cover3
set_option linter.unusedSimpArgs false
set_option linter.unusedVariables false
namespace Dec
open Go Go.RowKit Go.Deep Go.ChangeShapes Go.WideShapes
section
variable {H : Type} {enc : TypeId × Value → H} {P : Program} {W W' : World}
def rowed (P : Program) (ts : List TypeId) : Bool := ts.all fun t => P.readableRec t && decide (t < P.types.size)
theorem stays_all (hl : laidOutB P = true) (hb : Below W.heap.size W W') {sp : Nat → Bool} : ∀ {ts : List TypeId} {vs : List Value} {ds : List (DataW H)} {ps : List MemPlace}, rowed P ts = true →
    DataW.TrodAll enc P W 0 (fun _ => true) true ts vs ds ps → (∀ p ∈ ps, p.block < W.heap.size) → (∀ p ∈ ps, sp p.block = true) → DataW.TrodAll enc P W' 0 sp true ts vs ds ps
  | [], [], [], _, _, h, _, _ => h
  | [], _ :: _, _, _, _, h, _, _ => h.elim
  | [], [], _ :: _, _, _, h, _, _ => h.elim
  | _ :: _, [], _, _, _, h, _, _ => h.elim
  | _ :: _, _ :: _, [], _, _, h, _, _ => h.elim
  | t :: ts, v :: vs, d :: ds, ps, hr, ⟨p, q, h1, h2, e⟩, hlt, hsp => by
    simp only [rowed, List.all_cons, Bool.and_eq_true, decide_eq_true_eq] at hr
    subst e
    refine ⟨p, q, WideElems.Trod_stays hl hr.1.1 hr.1.2 h1 (fun x hx => hb.same (hlt x (by simp [hx]))) (fun x hx => hsp x (by simp [hx])), ?_, rfl⟩
    exact stays_all hl hb hr.2 h2 (fun x hx => hlt x (by simp [hx])) (fun x hx => hsp x (by simp [hx]))
theorem post_true {f : Func} {s : ChangeSpec} {args : Array Value} {ds : List (DataW H)} {before : List MemPlace} {tb : TypeId}
    (hW : DataW.Whole enc P f.params.toList s.vars false W args.toList ds [] before) (hvars : s.vars = []) (hl : laidOutB P = true) (hrow : rowed P f.params.toList = true) (hbel : Bel W.heap.size W W')
    (hres : (s.fn H (ds ++ [])).results = [.lit (.bool true)]) (hargs : (s.fn H (ds ++ [])).args = ds) (hv : (s.fn H (ds ++ [])).vars = []) (hr : f.resultTypes = #[tb]) (htb : P.underlying tb = some .bool) :
    s.post enc P f false true false false W args (.bool true) W' := by
  have hb := hbel.below
  have hlt := hW.lt
  have hW' := hW
  obtain ⟨p, q, hA, hV, rfl, hz, hn⟩ := hW
  rw [hvars] at hV
  have hq : q = [] := by simpa [DataW.TrodVars] using hV
  subst hq
  simp only [List.append_nil] at *
  have hA' : ∀ sp : Nat → Bool, (∀ x ∈ p, sp x.block = true) → DataW.TrodAll enc P W' 0 sp true f.params.toList args.toList (s.fn H ds).args p := by
    intro sp hsp
    rw [hargs]
    exact stays_all hl hb hrow hA hlt hsp
  have hV' : ∀ sp : Nat → Bool, DataW.TrodVars enc P W' sp s.vars (s.fn H ds).vars [] := by
    intro sp
    rw [hvars, hv]
    rfl
  have hR : ∀ (b : Nat) (sp : Nat → Bool) (hd : Bool), DataW.TrodAll enc P W' b sp hd f.resultTypes.toList ((Value.bool true).resultList f.resultTypes.size) (s.fn H ds).results [] := by
    intro b sp hd
    rw [hres, hr]
    exact trodAll_mk1 (shut_bool htb true)
  have hok : ∀ (j : Nat) (t : TypeId) (r : Value), f.resultTypes[j]? = some t → ((Value.bool true).resultList f.resultTypes.size)[j]? = some r → Value.okWide P W' .any 0 t r := ok_one hr rfl (okWide_bool_mk htb true)
  have hold : ∀ x ∈ p, (fun b => decide (b < W.heap.size)) x.block = true := fun x hx => by simpa using hlt x hx
  refine ⟨ds, [], p, [], p, [], hW', by simpa using hR _ _ _, by simpa using hA' _ hold, by simpa using hV' _, World.keptBut_mono (fun x hx => ⟨hx, ?_⟩) (hb.frame (· ∈ p)), fun hx => by cases hx⟩
  exact Or.inr (Or.inl hx)
end
end Dec
namespace Dec
open Go Go.RowKit
variable {M : Md → Prop}
section
open Go.Deep Go.ChangeShapes Go.WideShapes
variable {H : Type} {enc : TypeId × Value → H} {P : Program} {w : World}
theorem prep_ok_of_trod {n : Nat} {t : TypeId} {u : Ty} (h : tyOf0 P n t = some u) {r : Reach} {b0 : Nat} {v : Value} {d : DataW H} {ps : List MemPlace} (hval : Value.okWide P w r b0 t v) (hd : DataW.Trod enc P w 0 (fun _ => true) true t v d ps) :
    ∃ y : u.T, PRep w (Old w) (toV1 u y) v ∧ Ok u y := by
  obtain ⟨fuel, hf⟩ := hd
  obtain ⟨y, hy⟩ := enc_of_trod n h hf
  refine ⟨y, ⟨u, y, _, rfl, hy, ?_⟩, Enc.ok hy⟩
  have h0 := h
  cases n with
  | zero => simp [tyOf0] at h
  | succ n =>
    simp only [tyOf0] at h
    split at h
    · cases h
    · split at h
      · rename_i hu
        split at h
        · injection h with h; subst h
          obtain ⟨m, rfl⟩ := okWide_int hu hval
          rfl
        · cases h
      · rename_i hu
        split at h
        · injection h with h; subst h
          obtain ⟨m, rfl⟩ := okWide_bool hu hval
          rfl
        · cases h
      · rename_i hu
        split at h
        · split at h
          · injection h with h; subst h
            obtain ⟨a, len, cap, rfl⟩ := okWide_slice hu hval
            rfl
          · cases h
        · cases h
      · rename_i hu
        split at h
        · cases h
        split at h
        · split at h
          · split at h
            · rename_i hs
              injection h with h; subst h
              simp only [Bool.and_eq_true] at hs
              unfold Value.okWide at hval
              rw [hu] at hval
              obtain ⟨cs, rfl, _⟩ := hval
              simp [mkVal, hs.1, Value.cells]
            · cases h
          · cases h
        · cases h
      · cases h
end
end Dec
namespace Dec
open Go Go.RowKit Go.Deep Go.ChangeShapes Go.WideShapes
section
variable {H : Type} {enc : TypeId × Value → H} {P : Program} {w : World}
theorem slice_len {n : Nat} {t : TypeId} {u : Ty} (h : tyOf0 P n t = some (.sl u)) {r : Reach} {b0 : Nat} {v : Value} {d : DataW H} {ps : List MemPlace}
    (hval : Value.okWide P w r b0 t v) (hd : DataW.Trod enc P w 0 (fun _ => true) true t v d ps) {x : (Ty.sl u).T} (hx : PRep w (Old w) (toV1 (.sl u) x) v) :
    x.length = 0 ∨ ∃ el sp, d = .slice el sp ∧ el.length = x.length := by
  obtain ⟨t', y, cs, e1, e2, e3⟩ := hx
  have hv : ∃ a c, v = .slice a x.length c := by
    cases t' <;> simp [toV1] at e1
    obtain ⟨rfl, e1⟩ := e1
    obtain rfl := eq_of_heq e1
    obtain ⟨a, c, e4, _⟩ := e2
    exact ⟨a, c, by rw [e3, e4]; rfl⟩
  obtain ⟨a, c, rfl⟩ := hv
  obtain ⟨fuel, hf⟩ := hd
  cases n with
  | zero => simp [tyOf0] at h
  | succ n =>
    simp only [tyOf0] at h
    split at h
    · cases h
    · split at h
      · split at h <;> cases h
      · split at h <;> cases h
      · rename_i e hu
        rcases open_slice hu hf with ⟨e5, _⟩ | ⟨a', len, cap, m, n', D, Pl, e5, _, hl, hm, hmm, e6, hel⟩
        · left
          simp [Value.cells] at e5
          rw [e5.2.1]; rfl
        · right
          simp [Value.cells] at e5
          injection e6 with e6 e7
          refine ⟨_, _, e6, ?_⟩
          simp [e5.2.1]
      · split at h
        · cases h
        split at h
        · split at h
          · split at h
            · rename_i hs
              simp only [Bool.and_eq_true] at hs
              injection h with h; subst h
              simp [Ty.isPr] at hs
            · cases h
          · cases h
        · cases h
      · cases h
end
end Dec
