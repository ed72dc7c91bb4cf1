/- A part of the proof of the claim (no condition of its own). -/
import Derived.Test.YtgjcnkcepdoedaaGreatC2
import Derived.Test.YtgjcnkcepdoedaaGreatS
import Derived.Test.YtgjcnkcepdoedaaGreatRz
import Derived.Test.YtgjcnkcepdoedaaGreatRa
import Derived.Test.YtgjcnkcepdoedaaGreatRb
import Derived.Test.YtgjcnkcepdoedaaGreatK4
import Derived.Test.YtgjcnkcepdoedaaGreatRows
import Derived.JoinedCond
import Derived.KernelRfl
/- SchemaSmall: the row, where what it reads is of bulk at most 1048576. -/
set_option linter.unusedVariables false
namespace Go.Proofs.YtgjcnkcepdoedaaGreat.schemaSmall
open Go.ChangeShapes Go.WideShapes Go.ChangeAt Go.RowKit Go.AL
theorem own : ownKnob Tryz.prog.godebug = none := by kernel_rfl
theorem laidOut : laidOutB Tryz.prog = true := z5
set_option maxRecDepth 100000 in
theorem contract (H : Type) (enc : TypeId × Value → H) (W : World) (base : Nat) (args : Array Value) (ds gs : List (DataW H)) (before : List MemPlace)
    (hval : ∀ (j : Nat) t v, Tryz.f3.params[j]? = some t → args[j]? = some v → Value.okWide Tryz.prog W .any base t v)
    (hW' : DataW.Whole enc Tryz.prog Tryz.f3.params.toList Rows.schemaSmallSpec.vars false W args.toList ds gs before) (hk : Rows.uptoSmall H (ds ++ gs) = true) :
    Calls Tryz.prog 3 args W fun e W' => ∃ v, e = .returned v ∧ Rows.schemaSmallSpec.post enc Tryz.prog Tryz.f3 false true false false W args v W' := by
  have hW := hW'
  obtain ⟨p, q, hA0, hV, rfl, hfz, hnd⟩ := hW
  have hA : DataW.TrodAll enc Tryz.prog W 0 (fun _ => true) true Tryz.f3.params.toList args.toList ds p := hA0
  rw [Tryz.params3] at hA hval
  obtain ⟨v0, v1, d0, d1, p0, p1, rfl, rfl, rfl, h0, h1⟩ := trodAll_two hA
  obtain ⟨rfl, rfl⟩ := trodVars_none hV
  obtain ⟨a, r0, e0⟩ := (arg_av (W := W) laidOut (of_decide_eq_true (by kernel_rfl)) (hval 0 28 v0 rfl rfl) h0).1 (by kernel_rfl)
  obtain ⟨b, r1, e1⟩ := (arg_av (W := W) laidOut (of_decide_eq_true (by kernel_rfl)) (hval 1 26 v1 rfl rfl) h1).2 (by kernel_rfl)
  obtain ⟨x, e0, w0⟩ := dcore _ (Nat.lt_succ_self _) e0
  obtain ⟨l, e1, w1⟩ := dpicks e1
  simp only [List.cons.injEq, and_true] at e1
  subst e0; subst e1
  have hm : Rows.uptoBulkAll ([d0, d1] ++ []) ≤ 1048576 := of_decide_eq_true hk
  simp only [List.append_nil, Rows.uptoBulkAll] at hm
  refine (calls_of Tryz.func3 (by kernel_rfl) (by kernel_rfl) (smallLaw_ok known_ok x l (by omega) (by omega) Store.empty) rfl ?_).mono fun e W' ⟨v, r, σ', g', he, hr, hrel, hb⟩ => ?_
  · intro j c hj
    match j, hj with
    | 0, hj => simp at hj; subst hj; exact r0
    | 1, hj => simp at hj; subst hj; exact r1
  obtain ⟨hr, _⟩ := hr
  subst hr
  cases hrel
  exact ⟨_, he, post_true (tb := 4) laidOut hW' hb (by kernel_rfl) rfl rfl (by kernel_rfl) (by kernel_rfl)⟩
set_option maxRecDepth 100000 in
theorem lifted (os : Os) (started : os.Started) (H : Type) (enc : TypeId × Value → H) (F : Stop.Interp) :
    ReturnsInHanded {} Tryz.checked os 3 .any ((Rows.OpenSpec.upto Rows.schemaSmallSpec).pre6 enc Tryz.prog Tryz.f3 Rows.schemaSmallUptoRow.domain false) (((Rows.OpenSpec.upto Rows.schemaSmallSpec).at F).post enc Tryz.prog Tryz.f3 false true false false) := by
  refine returnsInHanded_of_cond (C := Tryz.checked) (s := Rows.OpenSpec.upto Rows.schemaSmallSpec) (k := Rows.uptoSmall) rfl own started (by kernel_rfl) Tryz.func3
    (OpenSpec.witness (enc := enc) (C := Tryz.checked) (s := Rows.OpenSpec.upto Rows.schemaSmallSpec) (k := Rows.uptoSmall) rfl false ⟨#[], #[.agg #[.int .i64 0, .string ⟨#[]⟩, .int .i64 0, .int .i64 0, .slice none 0 0, .slice none 0 0, .slice none 0 0, .slice none 0 0, .slice none 0 0], .slice none 0 0], []⟩ 8 (by kernel_rfl) (by kernel_rfl) (by kernel_rfl)
      (x := ([.agg [.lit (.int .i64 0), .lit (.string []), .lit (.int .i64 0), .lit (.int .i64 0), .nil, .nil, .nil, .nil, .nil], .nil], [], [])) (by kernel_rfl) rfl (by kernel_rfl)) ?_
  intro W base args ds gs before hval hW _ hk _
  exact contract H enc W base args ds gs before hval hW hk
theorem closed : joinedFacts Tryz.checked.prog 3 Tryz.f3 (Rows.OpenSpec.upto Rows.schemaSmallSpec).bare Rows.schemaSmallUptoRow = true := by
  unfold joinedFacts
  rw [z1, z2, z3, z4, z5, z6]
  kernel_rfl
theorem holds : Rows.SchemaSmallUptoSaid :=
  OpenClaim.holds_of_cond 3 Tryz.f3 rfl rfl rfl rfl rfl rfl rfl ⟨rfl, rfl, rfl, rfl, rfl⟩ rfl rfl rfl rfl rfl z0 Tryz.func3 closed
    (of_decide_eq_true (by kernel_rfl)) (by unfold Func.isWrapper; first | (rw [if_pos (by decide +kernel)]; kernel_rfl) | (rw [if_neg (by decide +kernel)]; exact ⟨rfl, rfl⟩))
    (fun os started H enc _ F => lifted os started H enc F)
end Go.Proofs.YtgjcnkcepdoedaaGreat.schemaSmall
