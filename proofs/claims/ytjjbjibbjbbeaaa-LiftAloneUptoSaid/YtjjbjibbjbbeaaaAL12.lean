/- The abstract layer, part 12: calls that leave the store as it was. -/
import Derived.Test.YtjjbjibbjbbeaaaAL11
set_option linter.unusedVariables false
set_option linter.unusedSimpArgs false
namespace Go.AL
open Go.RowKit

section
variable {P : Program} {f : FuncId} {args : List AV} {σ : Store}

/-- What a call leaves may be told of a smaller store. -/
theorem ACalls_trim {K : AV → Store → Prop} (h : ACalls P f args σ fun r σ' => ∃ τ : Store, K r τ ∧ σ.next ≤ τ.next ∧ τ.next ≤ σ'.next ∧ Cln τ.next r ∧ ∀ id o, τ.get id = some o → σ'.get id = some o ∧ (σ.get id = some o ∨ o.Okay τ.next)) : ACalls P f args σ K := by
  intro B w0 g w vs hS hl hrel
  refine (h B w0 g w vs hS hl hrel).mono fun v w' ⟨r, σ', g', ⟨τ, k1, k2, k3, k4, k5⟩, hE, hS', hr⟩ => ?_
  refine ⟨r, τ, g'.cut τ.next, k1, hE.cut (by rw [hS.next]; exact k2), hS'.trim k3 fun id o e => ?_, hr.cut k4⟩
  obtain ⟨a, b⟩ := k5 id o e
  refine ⟨a, ?_⟩
  rcases b with b | b
  · have hc := hS.cln b
    have mono : ∀ {n m : Nat} {a : AV}, n ≤ m → Cln n a → Cln m a := by
      intro n m a hnm hc
      induction hc with
      | junk => exact .junk
      | bool b => exact .bool b
      | int k i => exact .int k i
      | str s => exact .str s
      | nilp => exact .nilp
      | ptr h => exact .ptr (Nat.lt_of_lt_of_le h hnm)
      | rptr h ih => exact .rptr ih
      | nils => exact .nils
      | list h ih => exact .list ih
      | own h => exact .own (Nat.lt_of_lt_of_le h hnm)
      | nilm => exact .nilm
      | map h => exact .map (Nat.lt_of_lt_of_le h hnm)
      | nilf => exact .nilf
      | fn ha hb i1 i2 => exact .fn i1 i2
      | agg h ih => exact .agg ih
      | tuple h ih => exact .tuple ih
    cases o with
    | cells ty ver sz es => exact fun i j e c x y => mono k2 (hc i j e c x y)
    | map es => exact fun i k v x => ⟨mono k2 (hc i k v x).1, mono k2 (hc i k v x).2⟩
  · exact b

/-- A call that leaves what was there as it was, and hands back a value that leads to nothing new. -/
theorem ACalls_pure {K : AV → Prop} (h : ACalls P f args σ fun r σ' => K r ∧ Cln σ.next r ∧ σ.next ≤ σ'.next ∧ ∀ id, id < σ.next → σ'.get id = σ.get id) : ACalls P f args σ fun r σ' => K r ∧ σ' = σ := by
  refine ACalls_trim (h.mono fun r σ' ⟨k1, k2, k3, k4⟩ => ⟨σ, ⟨k1, rfl⟩, Nat.le_refl _, k3, k2, fun id o e => ⟨by rw [k4 id (σ.lt e)]; exact e, .inl e⟩⟩)

/-- Of an argument that is a slice the length is bounded. -/
theorem ACalls_len {K : AV → Store → Prop} {j : Nat} {es : List (List AV)} (hj : args[j]? = some (.list es)) (h : es.length ≤ maxLen → ACalls P f args σ K) : ACalls P f args σ K := by
  intro B w0 g w vs hS hl hrel
  have hr := hrel j _ hj
  refine h ?_ B w0 g w vs hS hl hrel
  generalize vs.getD j undef = v at hr
  cases hr with
  | listNil => simp
  | list hΦ hs hb hc h1 hn hcap => omega
theorem ACalls_str {K : AV → Store → Prop} {j : Nat} {s : ByteArray} (hj : args[j]? = some (.str s)) (h : s.size ≤ maxLen → ACalls P f args σ K) : ACalls P f args σ K := by
  intro B w0 g w vs hS hl hrel
  have hr := hrel j _ hj
  refine h ?_ B w0 g w vs hS hl hrel
  generalize vs.getD j undef = v at hr
  cases hr
  assumption

/-- A function with a body, entered. -/
theorem enter {fn : Func} {c : ACode} {own : List Nat} {rs : List RV} {K : AV → Store → Prop} (hf : P.funcs[f]? = some fn) (hname : (fn.name == "runtime.NumGoroutine") = false) (hc : fn.body.bind (resolveCode P own fn.ntmps) = some c)
    (hr : resSlots P fn.results.toList = some rs) (hargs : args.length ≤ fn.ntmps)
    (h : AWP P fn.ntmps c (fun e t s => match e with | .exit _ => False | _ => Res rs K t s) (env (argList 0 args)) σ) : ACalls P f args σ K := by
  cases hb : fn.body with
  | none => rw [hb] at hc; cases hc
  | some code => rw [hb] at hc; exact ACalls_intro hf hname hb hc hr hargs h

/-- A value may be told less sharply. -/
inductive Le : AV → AV → Prop
  | refl (a : AV) : Le a a
  | junk (a : AV) : Le a .junk
  | nil : Le .nils (.list [])
  | agg {a b : List AV} (hl : a.length = b.length) (h : ∀ (j : Nat) (x y : AV), a[j]? = some x → b[j]? = some y → Le x y) : Le (.agg a) (.agg b)
  | tuple {a b : List AV} (hl : a.length = b.length) (h : ∀ (j : Nat) (x y : AV), a[j]? = some x → b[j]? = some y → Le x y) : Le (.tuple a) (.tuple b)
theorem RelV.le {g : Ghost} {a b : AV} (h : Le a b) : ∀ {v : Value}, RelV g a v → RelV g b v := by
  induction h with
  | refl a => intro v hv; exact hv
  | junk a => intro v hv; exact .junk v
  | nil => intro v hv; cases hv; exact .listNil none 0
  | agg hl h ih =>
    intro v hv
    cases hv with
    | agg hs hc h1 =>
      rename_i a b arr
      have hx : ∀ (j : Nat) (y : AV), b[j]? = some y → ∃ x, a[j]? = some x := fun j y hj => by
        have : j < b.length := by
          rcases Nat.lt_or_ge j b.length with h' | h'
          · exact h'
          · simp [List.getElem?_eq_none h'] at hj
        exact ⟨a[j]'(by omega), List.getElem?_eq_getElem (by omega)⟩
      refine .agg (by omega) (fun j y hj => ?_) (fun j y hj => ?_)
      · obtain ⟨x, e⟩ := hx j y hj; exact ih j x y e hj (hc j x e)
      · obtain ⟨x, e⟩ := hx j y hj; exact h1 j x e
  | tuple hl h ih =>
    intro v hv
    cases hv with
    | tuple hs hc =>
      rename_i a b arr
      refine .tuple (by omega) (fun j y hj => ?_)
      have : j < b.length := by
        rcases Nat.lt_or_ge j b.length with h' | h'
        · exact h'
        · simp [List.getElem?_eq_none h'] at hj
      exact ih j (a[j]'(by omega)) y (List.getElem?_eq_getElem (by omega)) hj (hc j _ (List.getElem?_eq_getElem (by omega)))
inductive LeL : List AV → List AV → Prop
  | nil : LeL [] []
  | cons {x y : AV} {a b : List AV} (h : Le x y) (t : LeL a b) : LeL (x :: a) (y :: b)
theorem LeL.get {a b : List AV} (h : LeL a b) : a.length = b.length ∧ ∀ (j : Nat) (x y : AV), a[j]? = some x → b[j]? = some y → Le x y := by
  induction h with
  | nil => simp
  | cons h t ih =>
    refine ⟨by simp [ih.1], fun j x y hx hy => ?_⟩
    match j, hx, hy with
    | 0, hx, hy => simp at hx hy; subst hx; subst hy; exact h
    | j + 1, hx, hy => exact ih.2 j x y (by simpa using hx) (by simpa using hy)
theorem Le.aggL {a b : List AV} (h : LeL a b) : Le (.agg a) (.agg b) := .agg h.get.1 h.get.2
theorem Le.tupleL {a b : List AV} (h : LeL a b) : Le (.tuple a) (.tuple b) := .tuple h.get.1 h.get.2

theorem ACalls_le {K : AV → Store → Prop} (h : ACalls P f args σ fun r σ' => ∃ r', Le r r' ∧ K r' σ') : ACalls P f args σ K :=
  fun B w0 g w vs hS hl hrel => (h B w0 g w vs hS hl hrel).mono fun v w' ⟨r, σ', g', ⟨r', k1, k2⟩, hE, hS', hr⟩ => ⟨r', σ', g', k2, hE, hS', hr.le k1⟩
theorem AWP_le {n : Nat} {c : ACode} {Q : AEx → (Nat → AV) → Store → Prop} {tm : Nat → AV} (d : Nat) {v : AV} (hv : Le (tm d) v) (h : AWP P n c Q (put tm (some d) v) σ) : AWP P n c Q tm σ :=
  fun own code hc B w0 g w a hS hT => h own code hc B w0 g w a hS ⟨hT.1, hT.2.1, fun i => by
    simp only [put]
    split
    · rename_i hi; subst hi; exact (hT.2.2 i).le hv
    · exact hT.2.2 i⟩
end
end Go.AL
