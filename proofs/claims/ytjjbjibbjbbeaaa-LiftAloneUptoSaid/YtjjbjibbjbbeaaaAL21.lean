/- The abstract layer, part 21: values that are told less sharply, deep inside; arguments that are owned slices. -/
import Derived.Test.YtjjbjibbjbbeaaaAL20
set_option linter.unusedVariables false
set_option linter.unusedSimpArgs false
namespace Go.AL
open Go.RowKit
mutual
/-- Nil is an empty list, wherever it stands. -/
inductive LeD : AV → AV → Prop
  | refl (a : AV) : LeD a a
  | nil : LeD .nils (.list [])
  | agg {a b : List AV} (h : LeDL a b) : LeD (.agg a) (.agg b)
  | tuple {a b : List AV} (h : LeDL a b) : LeD (.tuple a) (.tuple b)
  | list {a b : List (List AV)} (h : LeDE a b) : LeD (.list a) (.list b)
inductive LeDL : List AV → List AV → Prop
  | nil : LeDL [] []
  | cons {x y : AV} {a b : List AV} (h : LeD x y) (t : LeDL a b) : LeDL (x :: a) (y :: b)
inductive LeDE : List (List AV) → List (List AV) → Prop
  | nil : LeDE [] []
  | cons {x y : List AV} {a b : List (List AV)} (h : LeDL x y) (t : LeDE a b) : LeDE (x :: a) (y :: b)
end
theorem LeDL.get : ∀ {a b : List AV}, LeDL a b → a.length = b.length ∧ ∀ (j : Nat) (y : AV), b[j]? = some y → ∃ x, a[j]? = some x ∧ LeD x y
  | _, _, .nil => by simp
  | _, _, .cons h t => by
    obtain ⟨h1, h2⟩ := t.get
    refine ⟨by simp [h1], fun j y hj => ?_⟩
    match j, hj with
    | 0, hj => simp at hj; subst hj; exact ⟨_, rfl, h⟩
    | j + 1, hj => simpa using h2 j y (by simpa using hj)
theorem LeDE.get : ∀ {a b : List (List AV)}, LeDE a b → a.length = b.length ∧ ∀ (j : Nat) (y : List AV), b[j]? = some y → ∃ x, a[j]? = some x ∧ LeDL x y
  | _, _, .nil => by simp
  | _, _, .cons h t => by
    obtain ⟨h1, h2⟩ := t.get
    refine ⟨by simp [h1], fun j y hj => ?_⟩
    match j, hj with
    | 0, hj => simp at hj; subst hj; exact ⟨_, rfl, h⟩
    | j + 1, hj => simpa using h2 j y (by simpa using hj)
theorem LeDL.refl : ∀ a : List AV, LeDL a a
  | [] => .nil
  | x :: a => .cons (.refl x) (LeDL.refl a)
theorem RelV.leD {g : Ghost} : ∀ {b a : AV}, LeD a b → ∀ {x : Value}, RelV g a x → RelV g b x
  | _, _, .refl a, x, h => h
  | _, _, .nil, x, h => by cases h; exact .listNil none 0
  | .agg b, .agg a, .agg hs, x, h => by
    cases h with
    | agg hsz hc h1 =>
      obtain ⟨k1, k2⟩ := hs.get
      refine .agg (by omega) (fun j c hj => ?_) (fun j c hj => ?_)
      · obtain ⟨y, hy, hsub⟩ := k2 j c hj
        have := List.mem_of_getElem? hj
        exact RelV.leD hsub (hc j y hy)
      · obtain ⟨y, hy, hsub⟩ := k2 j c hj
        exact h1 j y hy
  | .tuple b, .tuple a, .tuple hs, x, h => by
    cases h with
    | tuple hsz hc =>
      obtain ⟨k1, k2⟩ := hs.get
      refine .tuple (by omega) (fun j c hj => ?_)
      obtain ⟨y, hy, hsub⟩ := k2 j c hj
      have := List.mem_of_getElem? hj
      exact RelV.leD hsub (hc j y hy)
  | .list b, .list a, .list hs, x, h => by
    obtain ⟨k1, k2⟩ := hs.get
    cases h with
    | listNil p c =>
      have : b = [] := List.eq_nil_of_length_eq_zero (by rw [← k1]; rfl)
      subst this
      exact .listNil p c
    | list hΦ hlen hb hc h1 hn hcap =>
      rename_i blk off cap s cells
      have := RelV.list (g := g) (es := b) (blk := blk) (off := off) (cap := cap) (s := s) (cells := cells) hΦ (fun e he => by
          obtain ⟨j, hj⟩ := List.mem_iff_getElem?.mp he
          obtain ⟨y, hy, hsub⟩ := k2 j e hj
          rw [← hsub.get.1]
          exact hlen y (List.mem_of_getElem? hy)) (by rw [← k1]; exact hb) (fun i j e c hi hj => by
          obtain ⟨y, hy, hsub⟩ := k2 i e hi
          obtain ⟨z, hz, hsz⟩ := hsub.get.2 j c hj
          have h1 := List.mem_of_getElem? hi
          have h2 := List.mem_of_getElem? hj
          exact RelV.leD hsz (hc i j y z hy hz)) (fun i j e c hi hj => by
          obtain ⟨y, hy, hsub⟩ := k2 i e hi
          obtain ⟨z, hz, hsz⟩ := hsub.get.2 j c hj
          exact h1 i j y z hy hz) (by omega) hcap
      rw [← k1] at this
      exact this
termination_by b => SizeOf.sizeOf b
decreasing_by
  · have := List.sizeOf_lt_of_mem this; simp; omega
  · have := List.sizeOf_lt_of_mem this; simp; omega
  · have := List.sizeOf_lt_of_mem h1; have := List.sizeOf_lt_of_mem h2; simp; omega
section
variable {P : Program} {f : FuncId} {args args' : List AV} {σ : Store} {K : AV → Store → Prop}
theorem ACalls_argsD (h : LeDL args args') (k : ACalls P f args' σ K) : ACalls P f args σ K :=
  fun B w0 g w vs hS hl hrel => k B w0 g w vs hS (by rw [hl, h.get.1]) fun j a ha => by
    obtain ⟨x, hx, hle⟩ := h.get.2 j a ha
    exact RelV.leD hle (hrel j x hx)
theorem ACalls_leD (h : ACalls P f args σ fun r σ' => ∃ r', LeD r r' ∧ K r' σ') : ACalls P f args σ K :=
  fun B w0 g w vs hS hl hrel => (h B w0 g w vs hS hl hrel).mono fun v w' ⟨r, σ', g', ⟨r', k1, k2⟩, hE, hS', hr⟩ => ⟨r', σ', g', k2, hE, hS', RelV.leD k1 hr⟩
/-- An owned slice that is handed on becomes a value. -/
theorem ACalls_frozeA {v : AV} {ty sz : Nat} {es : List (List AV)} (hv : SliceAt σ v ty sz es) (hs : SubL v (.list es) args args') (h : ∀ σ2 : Store, σ2.next = σ.next → (∀ i, i ∉ slIds v → σ2.get i = σ.get i) → ACalls P f args' σ2 K) : ACalls P f args σ K := by
  obtain ⟨hl', hg'⟩ := hs.get
  rcases hv with ⟨rfl, rfl⟩ | ⟨id, ver, es', rfl, hg⟩
  · intro B w0 g w vs hS hl hrel
    refine h σ rfl (fun _ _ => rfl) B w0 g w vs hS (by rw [hl, hl']) fun j a ha => ?_
    obtain ⟨x, hx, hsub⟩ := hg' j a ha
    exact RelV.sub (.refl g) (fun z hz => RelV.le Le.nil hz) hsub (hrel j x hx)
  · intro B w0 g w vs hS hl hrel
    obtain ⟨g2, hS2, hE2, hrel2⟩ := hS.frozen hg
    refine (h (σ.drop id) rfl (fun i hi => by simp [slIds] at hi; simp [Store.drop_get, hi]) B w0 g2 w vs hS2 (by rw [hl, hl']) fun j a ha => ?_).mono fun v w' ⟨r, σ', g', k, hE, hS', hr⟩ => ⟨r, σ', g', k, hE2.trans hE, hS', hr⟩
    obtain ⟨x, hx, hsub⟩ := hg' j a ha
    exact RelV.sub hE2 (fun z hz => by have := hrel2 0 es.length z (by simp) hz; simpa using this) hsub (hrel j x hx)
end
end Go.AL
