/- The abstract layer, part 26: a call without arguments, at any store; lengths of lists inside of arguments. -/
import Derived.Test.YtjjbjibbjbbeaaaAL25
import Derived.Test.YtjjbjibbjbbeaaaAL22
set_option linter.unusedVariables false
set_option linter.unusedSimpArgs false
namespace Go.AL
open Go.RowKit
/-- What a call without arguments says at an empty store, it says at any. -/
theorem ACalls_shut {P : Program} {f : FuncId} {b : Bool} (h : ACalls P f [] Store.empty fun r _ => r = .bool b) (σ : Store) : ACalls P f [] σ fun r σ' => r = .bool b ∧ σ' = σ := by
  intro B w0 g w vs hS hl hrel
  refine (h w.heap.size w (g0 w) w vs (sr0 w) hl (fun j c hj => by simp at hj)).mono ?_
  rintro v w' ⟨r, σ', g', rfl, hE, hS', hr⟩
  have hb := hS'.below
  have hblk : ∀ k, k < w.heap.size → w'.heap[k]? = w.heap[k]? := hb.block
  refine ⟨_, σ, g, ⟨rfl, rfl⟩, Ext.refl g, ?_, ?_⟩
  · refine ⟨hS.below.trans (hb.mono hS.size), Nat.le_trans hS.size hS'.size, fun k cells e => ?_, hS.next, fun id o e => ?_, hS.inj, hS.apart, fun id p e => ?_⟩
    · obtain ⟨t, fr, hh, hpt⟩ := hS.phi k cells e
      exact ⟨t, fr, by rw [hblk k (Array.getElem?_eq_some_iff.1 hh).1]; exact hh, hpt⟩
    · obtain ⟨p, hp, ho⟩ := hS.objs id o e
      exact ⟨p, hp, ho.world (hblk _ (hS.fresh id p hp).2.1)⟩
    · obtain ⟨x, y, z⟩ := hS.fresh id p e
      exact ⟨x, Nat.lt_of_lt_of_le y hS'.size, z⟩
  · cases hr with
    | bool => exact .bool b
/-- A list in a struct that is an argument is not longer than lists may be. -/
theorem ACalls_len2 {P : Program} {f : FuncId} {args : List AV} {σ : Store} {K : AV → Store → Prop} {j k : Nat} {cs : List AV} {es : List (List AV)} (hj : args[j]? = some (.agg cs)) (hk : cs[k]? = some (.list es)) (h : es.length ≤ maxLen → ACalls P f args σ K) : ACalls P f args σ K := by
  intro B w0 g w vs hS hl hrel
  have hr := hrel j _ hj
  refine h ?_ B w0 g w vs hS hl hrel
  generalize vs.getD j undef = v at hr
  cases hr with
  | agg hsz hc h1 =>
    have hr2 := hc k _ hk
    generalize hv : Array.getD _ k undef = x at hr2
    cases hr2 with
    | listNil => simp
    | list h1 h2 h3 h4 h5 h6 h7 => exact Nat.le_trans h6 h7
end Go.AL
