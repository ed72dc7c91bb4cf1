/- The abstract layer, part 14: a loop whose slots are named, and small helps for proofs about code. -/
import Derived.Test.YtjjbjibbjbbeaaaAL13
import Derived.IntWalk
set_option linter.unusedVariables false
set_option linter.unusedSimpArgs false
namespace Go.AL
open Go.RowKit

theorem env_zip (tm : Nat → AV) (ks : List Nat) (i : Nat) : env (ks.zip (ks.map tm)) i = .junk ∨ env (ks.zip (ks.map tm)) i = tm i := by
  induction ks with
  | nil => exact .inl rfl
  | cons k ks ih =>
    simp only [List.map_cons, List.zip_cons_cons, env]
    by_cases h : i = k
    · subst h; right; simp
    · simp only [h, if_false]; exact ih
section
variable {P : Program} {n : Nat} {Q : AEx → (Nat → AV) → Store → Prop} {tm : Nat → AV} {σ : Store}
/-- A loop: what its rounds keep, told by the slots that matter. -/
theorem AWP_while {α : Type} {c : ACode} (ks : List Nat) (μ : α → Nat) (V : α → List AV) (I : α → Store → Prop) (x0 : α) (h0 : I x0 σ) (hV : ks.map tm = V x0)
    (hround : ∀ (x : α) (s : Store), I x s → AWP P n c (andThen (fun t s' => ∃ x', ks.map t = V x' ∧ I x' s' ∧ μ x' < μ x) Q) (env (ks.zip (V x))) s) : AWP P n (.loop c) Q tm σ := by
  refine AWP_loop (ALoop_measure (fun m t s => ∃ x, μ x = m ∧ I x s ∧ ks.map t = V x) ?_ (m := μ x0) ⟨x0, rfl, h0, hV⟩)
  intro m t s ⟨x, hm, hI, ht⟩
  refine AWP_weaken (tm' := env (ks.zip (V x))) (fun i => by rw [← ht]; exact env_zip t ks i) ((hround x s hI).mono fun e t' s' hq => ?_)
  cases e with
  | normal => obtain ⟨x', h1, h2, h3⟩ := hq; exact ⟨μ x', by omega, x', rfl, h2, h1⟩
  | exit id => exact hq
  | ret => exact hq
end
theorem wrap_of {x : Int} (h1 : -9223372036854775808 ≤ x) (h2 : x ≤ 9223372036854775807) : IntKind.i64.wrap x = x := by
  rw [IntKind.wrap_i64]; omega
theorem Store.push_next (σ : Store) (o : AObj) : (σ.push o).next = σ.next + 1 := (rfl)
theorem Store.push_get (σ : Store) (o : AObj) (i : Nat) : (σ.push o).get i = if i = σ.next then some o else σ.get i := (rfl)
theorem Store.upd_next (σ : Store) (o : AObj) (i : Nat) : (σ.upd i o).next = σ.next := (rfl)
theorem Store.drop_next (σ : Store) (i : Nat) : (σ.drop i).next = σ.next := (rfl)
theorem Store.drop_get (σ : Store) (i j : Nat) : (σ.drop i).get j = if j = i then none else σ.get j := (rfl)

/-- The objects that a slice stands on. -/
def slIds : AV → List Nat
  | .own id _ _ _ _ => [id]
  | _ => []
/-- A slice that the store owns, or nil: its elements. -/
def SliceAt (σ : Store) (v : AV) (ty sz : Nat) (es : List (List AV)) : Prop :=
  (v = .nils ∧ es = []) ∨ ∃ id ver es', v = .own id ver sz 0 es.length ∧ σ.get id = some (.cells ty ver sz (es ++ es'))

theorem SliceAt.len {σ : Store} {v : AV} {ty sz : Nat} {es : List (List AV)} (h : SliceAt σ v ty sz es) (τ : Store) : eLen .slice v τ = some (.int .i64 es.length, τ) := by
  rcases h with ⟨rfl, rfl⟩ | ⟨id, ver, es', rfl, h⟩ <;> rfl
theorem SliceAt.nil (σ : Store) (ty sz : Nat) : SliceAt σ .nils ty sz [] := .inl ⟨rfl, rfl⟩
theorem SliceAt.own {σ : Store} {v : AV} {ty sz : Nat} {es : List (List AV)} (h : SliceAt σ v ty sz es) (hne : es ≠ []) :
    ∃ id ver es', v = .own id ver sz 0 es.length ∧ σ.get id = some (.cells ty ver sz (es ++ es')) := by
  rcases h with ⟨_, e⟩ | h
  · exact absurd e hne
  · exact h
theorem SliceAt.keep {σ σ' : Store} {v : AV} {ty sz : Nat} {es : List (List AV)} (h : SliceAt σ v ty sz es) (hk : ∀ i, i ∈ slIds v → σ'.get i = σ.get i) : SliceAt σ' v ty sz es := by
  rcases h with h | ⟨id, ver, es', rfl, h⟩
  · exact .inl h
  · exact .inr ⟨id, ver, es', rfl, by rw [hk id (by simp [slIds])]; exact h⟩
theorem SliceAt.ids {σ : Store} {v : AV} {ty sz : Nat} {es : List (List AV)} (h : SliceAt σ v ty sz es) {i : Nat} (hi : i ∈ slIds v) : ∃ ver es', σ.get i = some (.cells ty ver sz es') := by
  rcases h with ⟨rfl, h⟩ | ⟨id, ver, es', rfl, h⟩
  · simp [slIds] at hi
  · simp [slIds] at hi; subst hi; exact ⟨ver, _, h⟩
theorem SliceAt.lt {σ : Store} {v : AV} {ty sz : Nat} {es : List (List AV)} (h : SliceAt σ v ty sz es) {i : Nat} (hi : i ∈ slIds v) : i < σ.next := by
  obtain ⟨a, b, c⟩ := h.ids hi
  exact Store.lt _ c

/-- Two stores: what is not of some objects is as it was; the new objects are of the old ones or new. -/
structure Fr (σ σ' : Store) (old new : List Nat) : Prop where
  next : σ.next ≤ σ'.next
  keep : ∀ i, i < σ.next → i ∉ old → σ'.get i = σ.get i
  fresh : ∀ i, i ∈ new → i ∈ old ∨ σ.next ≤ i

theorem Fr.refl (σ : Store) (old : List Nat) : Fr σ σ old old := ⟨Nat.le_refl _, fun _ _ _ => rfl, fun _ h => .inl h⟩
theorem Fr.trans {σ σ' σ'' : Store} {a b c : List Nat} (h : Fr σ σ' a b) (k : Fr σ' σ'' b c) : Fr σ σ'' a c :=
  ⟨Nat.le_trans h.next k.next, fun i hi hn => by
    rw [k.keep i (Nat.lt_of_lt_of_le hi h.next) fun hb => (h.fresh i hb).elim hn (fun hh => absurd hi (by omega)), h.keep i hi hn],
   fun i hi => (k.fresh i hi).elim (fun hb => h.fresh i hb) fun hh => .inr (Nat.le_trans h.next hh)⟩

theorem SliceAt.app {σ : Store} {v : AV} {ty sz bytes : Nat} {es : List (List AV)} (h : SliceAt σ v ty sz es) (es2 : List (List AV)) (h2 : ∀ q, q ∈ es2 → q.length = sz) (hb : (es.length + es2.length) * bytes ≤ 140737488355328) (hm : es.length + es2.length ≤ maxLen) :
    ∃ v' σ', eApp ty sz bytes v (some es2) σ = some (v', σ') ∧ SliceAt σ' v' ty sz (es ++ es2) ∧ Fr σ σ' (slIds v) (slIds v') := by
  rcases h with ⟨rfl, rfl⟩ | ⟨id, ver, es', rfl, h⟩
  · refine ⟨_, _, (eApp_nils σ ty sz bytes es2).trans (if_pos ⟨h2, by simpa using hb⟩), ?_, ?_⟩
    · by_cases he : es2 = []
      · subst he; simp [SliceAt]
      · simp only [he, if_false]
        exact .inr ⟨σ.next, 0, [], rfl, by simp [Store.push]⟩
    · by_cases he : es2 = []
      · subst he; simp; exact Fr.refl _ _
      · simp only [he, if_false]
        exact ⟨by simp [Store.push], fun i hi _ => by simp [Store.push]; omega, fun i hi => by simp [slIds] at hi; omega⟩
  · refine ⟨_, _, (eApp_own σ ty sz bytes id ver sz 0 es.length es2).trans (by rw [h, eApp2_some, if_pos ⟨by simp, h2, hb, hm⟩]), ?_, ?_⟩
    · refine .inr ⟨id, ver + 1, [], by simp, ?_⟩
      simp [Store.get_upd σ _ (Store.lt _ h)]
    · have hlt := Store.lt _ h
      exact ⟨by simp [Store.upd], fun i hi hn => by simp [Store.get_upd σ _ hlt]; simp [slIds] at hn; simp [hn], fun i hi => by simp [slIds] at hi ⊢; exact .inl hi⟩
/-- The step of an append. -/
theorem ok_app {σ : Store} {v : AV} {ty sz bytes : Nat} {es es2 : List (List AV)} {K : AV → Store → Prop} (h : SliceAt σ v ty sz es) (h2 : ∀ q, q ∈ es2 → q.length = sz) (hb : (es.length + es2.length) * bytes ≤ 140737488355328) (hm : es.length + es2.length ≤ maxLen)
    (hk : ∀ v' σ', SliceAt σ' v' ty sz (es ++ es2) → Fr σ σ' (slIds v) (slIds v') → K v' σ') : ok (eApp ty sz bytes v (some es2) σ) K := by
  obtain ⟨v', σ', h1, h2, h3⟩ := h.app es2 h2 hb hm
  rw [h1]
  exact hk v' σ' h2 h3
section
variable {P : Program} {n : Nat} {Q : AEx → (Nat → AV) → Store → Prop} {tm : Nat → AV} {σ : Store}
/-- A slice that is not changed from here on may be held as a plain list. -/
theorem AWP_frozen {c : ACode} (d : Nat) {v : AV} {ty sz : Nat} {es : List (List AV)} (hv : tm d = v) (h : SliceAt σ v ty sz es)
    (hk : ∀ σ2 : Store, σ2.next = σ.next → (∀ i, i ∉ slIds v → σ2.get i = σ.get i) → AWP P n c Q (put tm (some d) (.list es)) σ2) : AWP P n c Q tm σ := by
  rcases h with ⟨rfl, rfl⟩ | ⟨id, ver, es', rfl, h⟩
  · exact AWP_le d (hv ▸ Le.nil) (hk σ rfl fun _ _ => rfl)
  · refine AWP_freeze hv h rfl (by simp) ?_
    have := hk (σ.drop id) rfl fun i hi => by simp [slIds] at hi; simp [Store.drop_get, hi]
    simpa using this
end
end Go.AL
