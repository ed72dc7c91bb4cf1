/- HeapTwice: the row, where what it reads is of bulk at most 1048576. -/
import Derived.Test.YtoejjhehpbmgbaaAHl4
import Derived.Test.YtoejjhehpbmgbaaAHw
import Derived.Test.YtoejjhehpbmgbaaRows
import Derived.JoinedCond
set_option linter.unusedVariables false
namespace Go.Proofs.Ytoejjhehpbmgbaa.heapTwice
open Go.ChangeShapes Go.WideShapes Go.ChangeAt Go.RowKit Go.AL

theorem own : ownKnob Try.prog.godebug = none := by kernel_rfl
theorem laidOut : laidOutB Try.prog = true := by kernel_rfl

theorem one_le {H : Type} (d : DataW H) : 1 ≤ Rows.uptoBulk d := by
  cases d with
  | lit l => cases l <;> simp [Rows.uptoBulk]
  | nil => simp [Rows.uptoBulk]
  | ptr d => simp [Rows.uptoBulk]
  | slice elems spare => simp [Rows.uptoBulk]
  | agg parts => simp [Rows.uptoBulk]
  | iface t d => simp [Rows.uptoBulk]
  | map entries => simp [Rows.uptoBulk]
  | held h => simp [Rows.uptoBulk]
theorem length_le {H : Type} (l : List (DataW H)) : l.length ≤ Rows.uptoBulkAll l := by
  induction l with
  | nil => simp
  | cons x r ih => have := one_le x; simp only [Rows.uptoBulkAll, List.length_cons]; omega
/-- A list of numbers is not longer than its reading's bulk. -/
theorem ints_len {H : Type} {cs : List AV} {d : DataW H} (h : AVD Try.prog 29 cs d) : ∃ l, cs = [ints l] ∧ l.length ≤ Rows.uptoBulk d := by
  obtain ⟨l, rfl⟩ := ints_of h
  refine ⟨l, rfl, ?_⟩
  generalize hc : [ints l] = cs at h
  cases h with
  | nils _ => simp [ints] at hc; subst hc; simp
  | list h1 h2 h3 h4 =>
    rename_i es ds rest
    simp [ints] at hc
    subst hc
    have := length_le ds
    simp only [Rows.uptoBulk]
    simp at h2
    omega
  | int h _ => rw [Try.underlying29] at h; cases h
  | bool h => rw [Try.underlying29] at h; cases h
  | str h _ => rw [Try.underlying29] at h; cases h
  | nilp h => rw [Try.underlying29] at h; cases h
  | ptr h _ => rw [Try.underlying29] at h; cases h
  | struct h _ _ _ => rw [Try.underlying29] at h; cases h
  | other h => simp [okType, Try.underlying29, cells3] at h

set_option maxRecDepth 100000 in
theorem contract (H : Type) (enc : TypeId × Value → H) (W : World) (base : Nat) (args : Array Value) (ds gs : List (DataW H)) (before : List MemPlace)
    (hval : ∀ (j : Nat) t v, Try.f4.params[j]? = some t → args[j]? = some v → Value.okWide Try.prog W .any base t v)
    (hW' : DataW.Whole enc Try.prog Try.f4.params.toList Rows.heapTwiceSpec.vars false W args.toList ds gs before) (hk : Rows.uptoSmall H (ds ++ gs) = true) :
    Calls Try.prog 4 args W fun e W' => ∃ v, e = .returned v ∧ Rows.heapTwiceSpec.post enc Try.prog Try.f4 false true false false W args v W' := by
  have hW := hW'
  obtain ⟨p, q, hA0, hV, rfl, hfz, hnd⟩ := hW
  have hA : DataW.TrodAll enc Try.prog W 0 (fun _ => true) true Try.f4.params.toList args.toList ds p := hA0
  rw [Try.params4] at hA hval
  obtain ⟨v0, v1, v2, d0, d1, d2, p0, p1, p2, rfl, rfl, rfl, h0, h1, h2⟩ := trodAll_three hA
  obtain ⟨rfl, rfl⟩ := trodVars_none hV
  obtain ⟨a, r0, e0⟩ := (arg_av (W := W) laidOut (of_decide_eq_true (by kernel_rfl)) (hval 0 3 v0 rfl rfl) h0).2 (by kernel_rfl)
  obtain ⟨b, r1, e1⟩ := (arg_av (W := W) laidOut (of_decide_eq_true (by kernel_rfl)) (hval 1 36 v1 rfl rfl) h1).2 (by kernel_rfl)
  obtain ⟨c, r2, e2⟩ := (arg_av (W := W) laidOut (of_decide_eq_true (by kernel_rfl)) (hval 2 29 v2 rfl rfl) h2).2 (by kernel_rfl)
  obtain ⟨n, e0⟩ := int_of3 e0
  obtain ⟨l, e1⟩ := ops_of e1
  obtain ⟨m, e2, hm⟩ := ints_len e2
  simp only [List.cons.injEq, and_true] at e0 e1 e2
  subst e0; subst e1; subst e2
  have hm' : m.length ≤ 1048576 := by
    have h : Rows.uptoBulkAll ([d0, d1, d2] ++ []) ≤ 1048576 := of_decide_eq_true hk
    simp only [List.append_nil, Rows.uptoBulkAll] at h
    omega
  refine (calls_of Try.func4 (by kernel_rfl) (by kernel_rfl) (law4 Store.empty n l m hm') rfl ?_).mono fun e W' ⟨v, r, σ', g', he, hr, hrel, hb⟩ => ?_
  · intro j c hj
    match j, hj with
    | 0, hj => simp at hj; subst hj; exact r0
    | 1, hj => simp at hj; subst hj; exact r1
    | 2, hj => simp at hj; subst hj; exact r2
  subst hr
  cases hrel
  exact ⟨_, he, post_true (tb := 4) laidOut hW' hb (by kernel_rfl) rfl rfl (by kernel_rfl) (by kernel_rfl)⟩

set_option maxRecDepth 100000 in
theorem lifted (os : Os) (started : os.Started) (H : Type) (enc : TypeId × Value → H) (F : Stop.Interp) :
    ReturnsInHanded {} Try.checked os 4 .any ((Rows.OpenSpec.upto Rows.heapTwiceSpec).pre6 enc Try.prog Try.f4 Rows.heapTwiceUptoRow.domain false) (((Rows.OpenSpec.upto Rows.heapTwiceSpec).at F).post enc Try.prog Try.f4 false true false false) := by
  refine returnsInHanded_of_cond (C := Try.checked) (s := Rows.OpenSpec.upto Rows.heapTwiceSpec) (k := Rows.uptoSmall) rfl own started (by kernel_rfl) Try.func4
    (OpenSpec.witness (enc := enc) (C := Try.checked) (s := Rows.OpenSpec.upto Rows.heapTwiceSpec) (k := Rows.uptoSmall) rfl false ⟨#[], #[.int .i64 0, .slice none 0 0, .slice none 0 0], []⟩ 8 (by kernel_rfl) (by kernel_rfl) (by kernel_rfl)
      (x := ([.lit (.int .i64 0), .nil, .nil], [], [])) (by kernel_rfl) rfl (by kernel_rfl)) ?_
  intro W base args ds gs before hval hW _ hk _
  exact contract H enc W base args ds gs before hval hW hk

theorem holds : Rows.HeapTwiceUptoSaid :=
  OpenClaim.holds_of_cond 4 Try.f4 rfl rfl rfl rfl rfl rfl rfl ⟨rfl, rfl, rfl, rfl, rfl⟩ rfl rfl rfl rfl rfl (by kernel_rfl) Try.func4 (by kernel_rfl)
    (of_decide_eq_true (by kernel_rfl)) (by unfold Func.isWrapper; first | (rw [if_pos (by decide +kernel)]; kernel_rfl) | (rw [if_neg (by decide +kernel)]; exact ⟨rfl, rfl⟩))
    (fun os started H enc _ F => lifted os started H enc F)
end Go.Proofs.Ytoejjhehpbmgbaa.heapTwice
