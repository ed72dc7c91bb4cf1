/- A part of the proof of the claim: the abstract layer, the contracts of the functions, the law (no condition of its own). -/
import Derived.Test.YtojfdejpoideaaaGreatD
import Derived.Test.YtojfdejpoideaaaGreatK3
import Derived.Test.YtojfdejpoideaaaGreatRows
/- GmNil: what the call comes to. -/
set_option linter.unusedVariables false
namespace Go.Proofs.YtojfdejpoideaaaGreat.gmNil
open Go.ChangeShapes Go.WideShapes Go.ChangeAt Go.RowKit Go.AL

theorem own : ownKnob Tryz.prog.godebug = none := by kernel_rfl
theorem laidOut : laidOutB Tryz.prog = true := by kernel_rfl
theorem k28 : Tryz.prog.cellsOf 28 = 9 := by kernel_rfl
theorem k30 : Tryz.prog.cellsOf 30 = 4 := by kernel_rfl
theorem k3 : Tryz.prog.cellsOf 3 = 1 := by kernel_rfl
theorem at4 {α : Type} : ∀ {l : List α}, l.length = 4 → ∃ a b c d, l = [a, b, c, d]
 | [a, b, c, d], _ => ⟨a, b, c, d, rfl⟩
theorem dbudget {H : Type} {cs : List AV} {d : DataW H} (h : AVD Tryz.prog 30 cs d) : ∃ a b c e : Int, cs = [.int .i64 a, .int .i64 b, .int .i64 c, .int .i64 e] := by
 obtain ⟨hl, hf⟩ := avd_struct' Tryz.underlying30 h
 rw [k30] at hl
 obtain ⟨c0, c1, c2, c3, rfl⟩ := at4 hl
 obtain ⟨d0, _, u0⟩ := hf 0 _ rfl
 obtain ⟨d1, _, u1⟩ := hf 1 _ rfl
 obtain ⟨d2, _, u2⟩ := hf 2 _ rfl
 obtain ⟨d3, _, u3⟩ := hf 3 _ rfl
 change AVD Tryz.prog 3 (List.take (Tryz.prog.cellsOf 3) (List.drop 0 [c0, c1, c2, c3])) d0 at u0
 change AVD Tryz.prog 3 (List.take (Tryz.prog.cellsOf 3) (List.drop 1 [c0, c1, c2, c3])) d1 at u1
 change AVD Tryz.prog 3 (List.take (Tryz.prog.cellsOf 3) (List.drop 2 [c0, c1, c2, c3])) d2 at u2
 change AVD Tryz.prog 3 (List.take (Tryz.prog.cellsOf 3) (List.drop 3 [c0, c1, c2, c3])) d3 at u3
 simp only [k3, List.drop_zero, List.drop_succ_cons, List.take_succ_cons, List.take_zero] at u0 u1 u2 u3
 obtain ⟨n0, x0, _⟩ := avd_int Tryz.underlying3 u0
 obtain ⟨n1, x1, _⟩ := avd_int Tryz.underlying3 u1
 obtain ⟨n2, x2, _⟩ := avd_int Tryz.underlying3 u2
 obtain ⟨n3, x3, _⟩ := avd_int Tryz.underlying3 u3
 simp only [List.cons.injEq, and_true] at x0 x1 x2 x3
 subst x0 x1 x2 x3
 exact ⟨n0, n1, n2, n3, rfl⟩

set_option maxRecDepth 100000 in
theorem lifted (os : Os) (started : os.Started) (H : Type) (enc : TypeId × Value → H) :
 ReturnsInHanded {} Tryz.checked os 3 .any (Rows.gmNilSpec.pre6 enc Tryz.prog Tryz.f3 Rows.gmNilRow.domain false) (Rows.gmNilSpec.post enc Tryz.prog Tryz.f3 false true false false) := by
 refine returnsInHanded_of_change (C := Tryz.checked) own started (by kernel_rfl) Tryz.func3
  (ChangeSpec.witness6 (enc := enc) (C := Tryz.checked) false ⟨#[], #[.agg #[.int .i64 0, .string ⟨#[]⟩, .int .i64 0, .int .i64 0, .slice none 0 0, .slice none 0 0, .slice none 0 0, .slice none 0 0, .slice none 0 0], .int .i64 0, .agg #[.int .i64 0, .int .i64 0, .int .i64 0, .int .i64 0]], []⟩ 8 (by kernel_rfl) (by kernel_rfl) (by kernel_rfl) (by kernel_rfl)) ?_
 intro W base args ds gs before hval0 hW hcnd _
 have hval : ∀ (j : Nat) t v, Tryz.f3.params[j]? = some t → args[j]? = some v → Value.okWide Tryz.prog W .any base t v := hval0
 have hW' : DataW.Whole enc Tryz.prog Tryz.f3.params.toList Rows.gmNilSpec.vars false W args.toList ds gs before := hW
 obtain ⟨p, q, hA0, hV, rfl, hfz, hnd⟩ := hW
 have hA : DataW.TrodAll enc Tryz.prog W 0 (fun _ => true) true Tryz.f3.params.toList args.toList ds p := hA0
 rw [Tryz.params3] at hA hval
 obtain ⟨v0, v1, v2, d0, d1, d2, p0, p1, p2, rfl, rfl, rfl, h0, h1, h2⟩ := trodAll_three hA
 obtain ⟨rfl, rfl⟩ := trodVars_none hV
 obtain ⟨a, r0, e0⟩ := (arg_av (W := W) laidOut (of_decide_eq_true (by kernel_rfl)) (hval 0 28 v0 rfl rfl) h0).1 (by kernel_rfl)
 obtain ⟨b, r1, e1⟩ := (arg_av (W := W) laidOut (of_decide_eq_true (by kernel_rfl)) (hval 1 3 v1 rfl rfl) h1).2 (by kernel_rfl)
 obtain ⟨c, r2, e2⟩ := (arg_av (W := W) laidOut (of_decide_eq_true (by kernel_rfl)) (hval 2 30 v2 rfl rfl) h2).1 (by kernel_rfl)
 have l0 := (avd_struct' Tryz.underlying28 e0).1
 rw [k28] at l0
 obtain ⟨n, e1, _⟩ := avd_int Tryz.underlying3 e1
 obtain ⟨f, h, s, v, e2⟩ := dbudget e2
 simp only [List.cons.injEq, and_true] at e1
 subst e1; subst e2
 refine (calls_of Tryz.func3 (by kernel_rfl) (by kernel_rfl) (law3 a l0 n f h s v) rfl ?_).mono fun e W' ⟨v, r, σ', g', he, hr, hrel, hb⟩ => ?_
 · intro j c hj
   match j, hj with
   | 0, hj => simp at hj; subst hj; exact r0
   | 1, hj => simp at hj; subst hj; exact r1
   | 2, hj => simp at hj; subst hj; exact r2
 subst hr
 cases hrel
 exact ⟨_, he, post_true (tb := 4) laidOut hW' hb (by kernel_rfl) rfl rfl (by kernel_rfl) (by kernel_rfl)⟩

end Go.Proofs.YtojfdejpoideaaaGreat.gmNil
