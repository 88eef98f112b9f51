/-
Rows whose elements have own rows and maps: what an element's cells are, opened and shut.
-/
import Derived.Test.YtljlpmfmfcljaaaDecJ7
set_option linter.unusedSimpArgs false
set_option linter.unusedVariables false
namespace Dec
open Go Go.RowKit
section
variable {P : Program} {w0 w : World} {S0 : Base} {G : Ghost} {st : St} {a : Act} {p : Path}
theorem DEnc.length {S : Nat → Prop} {E : TypeId} : ∀ {t : Ty} {x : t.T} {cs : List Value} {B : List Nat}, DEnc w S E t x cs B → cs.length = t.size
  | .int _, _, _, _, h => Enc.length h.1
  | .bool, _, _, _, h => Enc.length h.1
  | .ar _ _, _, _, _, h => Enc.length h.1
  | .tr, _, _, _, h => Enc.length h.1
  | .pr a b, _, _, _, ⟨c1, c2, B1, B2, e1, _, h1, h2⟩ => by rw [e1, List.length_append, DEnc.length h1, DEnc.length h2]; rfl
  | .sl u, _, _, _, ⟨v, xs, e1, _⟩ => by rw [e1]; rfl
  | .mp k v, _, _, _, ⟨g, es, ck, e1, _⟩ => by rw [e1]; rfl
theorem DEnc.one {S : Nat → Prop} {E : TypeId} : ∀ {t : Ty} {x : t.T} {cs : List Value} {B : List Nat}, DEnc w S E t x cs B → ∀ v ∈ cs, v.oneCell' = true
  | .int _, _, _, _, h => Enc.one h.1
  | .bool, _, _, _, h => Enc.one h.1
  | .ar _ _, _, _, _, h => Enc.one h.1
  | .tr, _, _, _, h => Enc.one h.1
  | .pr a b, _, _, _, ⟨c1, c2, B1, B2, e1, _, h1, h2⟩ => by
    intro v hv
    rw [e1, List.mem_append] at hv
    exact hv.elim (DEnc.one h1 v) (DEnc.one h2 v)
  | .sl u, _, _, _, ⟨v, xs, e1, _, ho, _⟩ => by
    obtain ⟨ad, c, e, _⟩ := owns_form ho
    rw [e1, e]; simp [Value.oneCell']
  | .mp k v, _, _, _, ⟨g, es, ck, e1, _⟩ => by rw [e1]; simp [Value.oneCell']
theorem DEnc.enc {S S' : Nat → Prop} {E : TypeId} (hS : ∀ b, S b → S' b) : ∀ {t : Ty} {x : t.T} {cs : List Value} {B : List Nat}, (∀ b ∈ B, S' b) → DEnc w S E t x cs B → Enc w S' t x cs
  | .int _, _, _, _, _, h => Enc.keep (fun b hb => ⟨hS b hb, rfl⟩) h.1
  | .bool, _, _, _, _, h => Enc.keep (fun b hb => ⟨hS b hb, rfl⟩) h.1
  | .ar _ _, _, _, _, _, h => Enc.keep (fun b hb => ⟨hS b hb, rfl⟩) h.1
  | .tr, _, _, _, _, h => Enc.keep (fun b hb => ⟨hS b hb, rfl⟩) h.1
  | .pr a b, _, _, _, hB, ⟨c1, c2, B1, B2, e1, e2, h1, h2⟩ => ⟨c1, c2, e1, DEnc.enc hS (fun b hb => hB b (by simp [e2, hb])) h1, DEnc.enc hS (fun b hb => hB b (by simp [e2, hb])) h2⟩
  | .mp k v, _, _, _, hB, ⟨g, es, ck, e1, e2, h1, h2, _⟩ => .inr ⟨g, es, ck, e1, hB g (by simp [e2]), h1, All2.imp (fun _ _ _ ⟨⟨c1, a1, a2⟩, c2, b1, b2⟩ => ⟨⟨c1, Enc.keep (fun b hb => ⟨hS b hb, rfl⟩) a1, a2⟩, c2, Enc.keep (fun b hb => ⟨hS b hb, rfl⟩) b1, b2⟩) h2⟩
  | .sl u, l, _, _, hB, ⟨v, xs, e1, h1, h2, h3, e2⟩ => by
    obtain ⟨ad, c, e, hc, hm, _⟩ := owns_form h2
    refine ⟨ad, c, by rw [e1, e], hc, hm, ?_⟩
    rcases h2.2 with ⟨e3, e4⟩ | ⟨g, cap, cur, e3, hb0, hb, hnc, hcm, hcs, htk⟩
    · left; exact List.eq_nil_of_length_eq_zero e4
    · right
      rw [e] at e3
      injection e3 with e4 e5 e6
      subst e4
      refine ⟨g, 0, cur, _, _, xs, rfl, hB g (by rw [e2, e]; simp [Value.ownBlock]), hb, EncL.imp (fun _ _ hh => Enc.keep (fun b hb => ⟨hS b hb, rfl⟩) hh) h1, fun j u hj => ?_⟩
      rw [← htk, List.getElem?_take] at hj
      split at hj
      · rw [Nat.zero_add]; simpa using hj
      · cases hj
theorem dflat_get {n : Nat} : ∀ {xss : List (List Value)} {i : Nat} {cs : List Value}, (∀ c ∈ xss, c.length = n) → xss[i]? = some cs → ∀ j u, cs[j]? = some u → xss.flatten[i * n + j]? = some u
  | [], i, cs, _, h, _, _, _ => by simp at h
  | c :: xss, 0, cs, hw, h, j, u, hj => by
    simp at h
    subst h
    rw [Nat.zero_mul, Nat.zero_add, List.flatten_cons, List.getElem?_append_left (List.getElem?_eq_some_iff.1 hj).1]
    exact hj
  | c :: xss, i + 1, cs, hw, h, j, u, hj => by
    have h1 := hw c (by simp)
    have ih := dflat_get (fun c hc => hw c (by simp [hc])) (show xss[i]? = some cs by simpa using h) j u hj
    rw [List.flatten_cons, List.getElem?_append_right (by rw [h1, Nat.succ_mul]; omega), h1, show (i + 1) * n + j - n = i * n + j from by rw [Nat.succ_mul]; omega]
    exact ih
theorem dflat_length {n : Nat} : ∀ {xss : List (List Value)}, (∀ c ∈ xss, c.length = n) → xss.flatten.length = xss.length * n
  | [], _ => by simp
  | c :: xss, h => by rw [List.flatten_cons, List.length_append, h c (by simp), dflat_length fun c hc => h c (by simp [hc]), List.length_cons, Nat.succ_mul]; omega
theorem dflat_set {n : Nat} : ∀ {xss : List (List Value)} {i : Nat} {c : List Value}, (∀ c ∈ xss, c.length = n) → c.length = n → i < xss.length → (xss.set i c).flatten = xss.flatten.take (i * n) ++ c ++ xss.flatten.drop (i * n + n)
  | [], i, c, _, _, hi => by simp at hi
  | x :: xss, 0, c, hw, hc, _ => by
    have h1 := hw x (by simp)
    simp [← h1]
  | x :: xss, i + 1, c, hw, hc, hi => by
    have h1 := hw x (by simp)
    have ih := dflat_set (i := i) (c := c) (fun c' hc' => hw c' (List.mem_cons_of_mem _ hc')) hc (by simpa using hi)
    have e1 : (i + 1) * n = x.length + i * n := by rw [h1, Nat.succ_mul]; omega
    rw [List.set_cons_succ, List.flatten_cons, ih, List.flatten_cons, e1, Nat.add_assoc x.length, List.take_length_add_append, List.drop_length_add_append]
    simp only [List.append_assoc]
end
end Dec
