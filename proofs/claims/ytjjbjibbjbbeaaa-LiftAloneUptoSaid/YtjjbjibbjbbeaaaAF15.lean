/- Lift: each definition alone. -/
import Derived.Test.YtjjbjibbjbbeaaaAF14
set_option linter.unusedVariables false
set_option linter.unusedSimpArgs false
namespace Go.AL
def defBody : Cr → List ByteArray × Cr
  | .mk k nm n ar ps gs al bs pk => if k = 6 then (ps, gs.headD .zero) else ([], .mk k nm n ar ps gs al bs pk)
def defPc : Cr → AV
  | .mk k nm n ar ps gs al bs pk => if k = 6 then strs ps else .nils
noncomputable def liftDef (d : ByteArray × Cr) : List Sup :=
  ⟨d.1, (defBody d.2).1, (liftS d.1 textOf true 0 (defBody d.2).2).1⟩ :: (liftS d.1 textOf true 0 (defBody d.2).2).2
noncomputable def liftAll (ds : List (ByteArray × Cr)) : List Sup := (ds.map liftDef).flatten
noncomputable def rawDef (d : ByteArray × Cr) : List (List AV) :=
  (.str d.1 :: defPc d.2 :: (liftS d.1 textOf true 0 (defBody d.2).2).1.cells) :: (liftS d.1 textOf true 0 (defBody d.2).2).2.map supC
noncomputable def rawAll (ds : List (ByteArray × Cr)) : List (List AV) := (ds.map rawDef).flatten
theorem rawAll_succ {ds : List (ByteArray × Cr)} {i : Nat} {x : ByteArray × Cr} (h : ds[i]? = some x) : rawAll (ds.take (i + 1)) = rawAll (ds.take i) ++ rawDef x := by
  rw [take_succ_at h]; simp [rawAll]
theorem liftAll_app (a b : List (ByteArray × Cr)) : liftAll (a ++ b) = liftAll a ++ liftAll b := by simp [liftAll]
theorem supC_len (p : Sup) : (supC p).length = 11 := by simp [supC, Cr.len]
mutual
theorem LeD.rf (a : AV) : LeD a a := .refl a
theorem LeDL.rf : ∀ a : List AV, LeDL a a
  | [] => .nil
  | x :: r => .cons (.refl x) (LeDL.rf r)
end
theorem SubL.rf {v w : AV} : ∀ a : List AV, SubL v w a a
  | [] => .nil
  | x :: r => .cons (.refl x) (SubL.rf r)
theorem LeDE.rf : ∀ a : List (List AV), LeDE a a
  | [] => .nil
  | x :: r => .cons (LeDL.rf x) (LeDE.rf r)
theorem LeDE.app {a b c d : List (List AV)} (h : LeDE a b) (k : LeDE c d) : LeDE (a ++ c) (b ++ d) := by
  induction a generalizing b with
  | nil => cases h; exact k
  | cons x r ih => cases h with | cons h t => exact .cons h (ih t)
theorem leD_pc (x : Cr) : LeD (defPc x) (strs (defBody x).1) := by
  cases x with
  | mk k nm n ar ps gs al bs pk =>
    rw [defPc, defBody]
    split
    · exact .refl _
    · exact .nil
theorem leD_def (d : ByteArray × Cr) : LeDE (rawDef d) ((liftDef d).map supC) := by
  rw [rawDef, liftDef, List.map_cons]
  exact .cons (.cons (.refl _) (.cons (leD_pc _) (LeDL.rf _))) (LeDE.rf _)
theorem leD_all : ∀ ds : List (ByteArray × Cr), LeDE (rawAll ds) ((liftAll ds).map supC)
  | [] => .nil
  | d :: r => by
    have e1 : rawAll (d :: r) = rawDef d ++ rawAll r := by simp [rawAll]
    have e2 : liftAll (d :: r) = liftDef d ++ liftAll r := by simp [liftAll]
    rw [e1, e2, List.map_append]
    exact (leD_def d).app (leD_all r)
theorem defBody_bulk (x : Cr) : (defBody x).2.bulk ≤ x.bulk := by
  cases x with
  | mk k nm n ar ps gs al bs pk =>
    rw [defBody]
    split
    · cases gs with
      | nil => 
        have : (⟨#[]⟩ : ByteArray).size = 0 := rfl
        simp only [List.headD_nil]; rw [Cr.zero, Cr.bulk, Cr.bulk]
        simp only [Cr.bulkL, Cr.bulkA, Cr.bulkB, Cr.bulkP, List.length_nil]; omega
      | cons y r => simp only [List.headD_cons]; rw [Cr.bulk, Cr.bulkL]; omega
    · exact Nat.le_refl _
theorem rawDef_len (d : ByteArray × Cr) : (rawDef d).length ≤ 1 + d.2.bulk := by
  have := liftS_len d.1 textOf (defBody d.2).2 true 0
  have := defBody_bulk d.2
  simp [rawDef]; omega
theorem rawAll_len : ∀ ds : List (ByteArray × Cr), (rawAll ds).length ≤ bulkD ds
  | [] => by simp [rawAll]
  | (s, x) :: r => by
    have e1 : rawAll ((s, x) :: r) = rawDef (s, x) ++ rawAll r := by simp [rawAll]
    rw [e1, bulkD, List.length_append]
    have := rawAll_len r
    have := rawDef_len (s, x)
    simp only at this
    omega
theorem bulkD_take {l : List (ByteArray × Cr)} {i : Nat} {x : ByteArray × Cr} (h : l[i]? = some x) : bulkD (l.take i) + x.1.size + 1 + x.2.bulk ≤ bulkD l := by
  conv => rhs; rw [split_at h, bulkD_app]
  obtain ⟨h, y⟩ := x
  rw [bulkD]; simp only; omega
theorem SliceAt.elems {σ : Store} {v : AV} {ty sz : Nat} {es : List (List AV)} (h : SliceAt σ v ty sz es) : elemsOf σ sz v = some es := by
  rcases h with ⟨rfl, rfl⟩ | ⟨id, ver, es', rfl, h⟩
  · rfl
  · rw [elems_own, h, elems2_some, if_pos ⟨rfl, rfl, by simp⟩, List.drop_zero, List.take_left']
    rfl
theorem Cr.Sh.body {x : Cr} (h : x.Sh) : (defBody x).2.Sh := by
  cases h with
  | mk h6 h1 h2 h3 h4 =>
    rename_i k nm n ar ps gs al bs pk
    rw [defBody]
    split
    · rename_i hk
      match gs, h6 hk with
      | [y], _ => exact h1 y (by simp)
    · exact .mk h6 h1 h2 h3 h4
theorem Cr.parts (x : Cr) : ∃ (k : Int) (ps : List ByteArray) (gs : List Cr), x.cells[0]? = some (.int .i64 k) ∧ x.cells[4]? = some (strs ps) ∧ x.cells[5]? = some (.list (gs.map Cr.cells)) ∧
    defBody x = (if k = 6 then (ps, gs.headD .zero) else ([], x)) ∧ defPc x = (if k = 6 then strs ps else .nils) ∧ (x.Sh → k = 6 → ∃ y, gs = [y]) ∧ ps.length ≤ x.bulk := by
  obtain ⟨k, nm, n, ar, ps, gs, al, bs, pk⟩ := x
  refine ⟨k, ps, gs, by rw [Cr.cells_eq]; rfl, by rw [Cr.cells_eq]; rfl, by rw [Cr.cells_eq]; rfl, rfl, rfl, fun h h6 => ?_, by rw [Cr.bulk]; omega⟩
  cases h with
  | mk hh h1 h2 h3 h4 =>
    match gs, hh h6 with
    | [y], _ => exact ⟨y, rfl⟩
theorem supC_cln {n : Nat} (p : Sup) : ∀ c, c ∈ supC p → Cln n c := by
  intro c hc
  simp only [supC, List.mem_cons] at hc
  rcases hc with rfl | rfl | hc
  · exact .str _
  · exact cln_strs _
  · exact p.bd.cln c hc
theorem rawDef_cln {n : Nat} (d : ByteArray × Cr) : ∀ e, e ∈ rawDef d → ∀ c, c ∈ e → Cln n c := by
  intro e he c hc
  rw [rawDef] at he
  rcases List.mem_cons.1 he with rfl | he
  · simp only [List.mem_cons] at hc
    rcases hc with rfl | rfl | hc
    · exact .str _
    · obtain ⟨k, ps, gs, _, _, _, _, hdp, _⟩ := d.2.parts
      rw [hdp]
      split
      · exact cln_strs _
      · exact .nils
    · exact Cr.cln _ c hc
  · obtain ⟨y, _, rfl⟩ := List.mem_map.1 he
    exact supC_cln y c hc
theorem rawAll_cln {n : Nat} (ds : List (ByteArray × Cr)) : ∀ e, e ∈ rawAll ds → ∀ c, c ∈ e → Cln n c := by
  intro e he c hc
  simp only [rawAll, List.mem_flatten, List.mem_map] at he
  obtain ⟨l, ⟨d, _, rfl⟩, he⟩ := he
  exact rawDef_cln d e he c hc
end Go.AL
namespace Go.Proofs.Ytjjbjibbjbbeaaa
open Go.AL
theorem liftRaw_ok (ds : List (ByteArray × Cr)) (hb : bulkD ds ≤ 9000000) (σ : Store) :
    ACalls Try.prog 19 [.list (ds.map defC)] σ fun r σ' => (r = .tuple [.list [], .int .i64 1] ∨ r = .tuple [.list (rawAll ds), .int .i64 0]) ∧ σ' = σ := by
  refine ACalls_fp (p := fun r => r = .tuple [.list [], .int .i64 1] ∨ r = .tuple [.list (rawAll ds), .int .i64 0]) ?_
  refine in19 (by simp) ?_
  unfold c19
  have hdl := lenD ds
  try simp only [SS, argList, aPut, aFill, ↓reduceIte, Nat.reduceEqDiff, Nat.reduceAdd, Nat.reduceLeDiff, reduceCtorEq, Int.reduceEq, Int.reduceLT, Int.reduceLE, Int.reduceNeg, Int.reduceAdd, Int.reduceSub, Int.reduceToNat]
  repeat ((with_reducible first | refine AWP_seq ?_ | refine AWP_block ?_ | refine AWP_scope ?_ | refine AWP_reg ?_ | refine AWP_draw ?_ | refine AWP_skip ?_ | refine AWP_ret ?_ | refine AWP_exit ?_ | (refine AWP_cond_true ?_ ?_; · simp only [SS, argList, aPut, aFill, ↓reduceIte, Nat.reduceEqDiff, Nat.reduceAdd, Nat.reduceLeDiff, reduceCtorEq, Int.reduceEq, Int.reduceLT, Int.reduceLE, Int.reduceNeg, Int.reduceAdd, Int.reduceSub, Int.reduceToNat]) | (refine AWP_cond_false ?_ ?_; · simp only [SS, argList, aPut, aFill, ↓reduceIte, Nat.reduceEqDiff, Nat.reduceAdd, Nat.reduceLeDiff, reduceCtorEq, Int.reduceEq, Int.reduceLT, Int.reduceLE, Int.reduceNeg, Int.reduceAdd, Int.reduceSub, Int.reduceToNat])); try simp only [SS, argList, aPut, aFill, ↓reduceIte, Nat.reduceEqDiff, Nat.reduceAdd, Nat.reduceLeDiff, reduceCtorEq, Int.reduceEq, Int.reduceLT, Int.reduceLE, Int.reduceNeg, Int.reduceAdd, Int.reduceSub, Int.reduceToNat])
  refine (rightD_ok ds (by omega) _).mono ?_
  rintro _ _ ⟨⟨b, rfl, hsh⟩, rfl⟩
  rename_i σ
  cases b with
  | false =>
    try simp only [SS, argList, aPut, aFill, ↓reduceIte, Nat.reduceEqDiff, Nat.reduceAdd, Nat.reduceLeDiff, reduceCtorEq, Int.reduceEq, Int.reduceLT, Int.reduceLE, Int.reduceNeg, Int.reduceAdd, Int.reduceSub, Int.reduceToNat]
    repeat ((with_reducible first | refine AWP_seq ?_ | refine AWP_block ?_ | refine AWP_scope ?_ | refine AWP_reg ?_ | refine AWP_draw ?_ | refine AWP_skip ?_ | refine AWP_ret ?_ | refine AWP_exit ?_ | (refine AWP_cond_true ?_ ?_; · simp only [SS, argList, aPut, aFill, ↓reduceIte, Nat.reduceEqDiff, Nat.reduceAdd, Nat.reduceLeDiff, reduceCtorEq, Int.reduceEq, Int.reduceLT, Int.reduceLE, Int.reduceNeg, Int.reduceAdd, Int.reduceSub, Int.reduceToNat]) | (refine AWP_cond_false ?_ ?_; · simp only [SS, argList, aPut, aFill, ↓reduceIte, Nat.reduceEqDiff, Nat.reduceAdd, Nat.reduceLeDiff, reduceCtorEq, Int.reduceEq, Int.reduceLT, Int.reduceLE, Int.reduceNeg, Int.reduceAdd, Int.reduceSub, Int.reduceToNat])); try simp only [SS, argList, aPut, aFill, ↓reduceIte, Nat.reduceEqDiff, Nat.reduceAdd, Nat.reduceLeDiff, reduceCtorEq, Int.reduceEq, Int.reduceLT, Int.reduceLE, Int.reduceNeg, Int.reduceAdd, Int.reduceSub, Int.reduceToNat])
    exact FP.mk (.tuple [.list [], .int .i64 1]) (.nil _ 0 0) (.tuple (.cons .here (.cons (.refl _) .nil))) (.inl rfl) (.tuple' (by simp; exact ⟨.list' (by simp), .int _ _⟩)) (.refl _) (by simp [slIds])
  | true =>
  have hsh := hsh rfl
  try simp only [SS, argList, aPut, aFill, ↓reduceIte, Nat.reduceEqDiff, Nat.reduceAdd, Nat.reduceLeDiff, reduceCtorEq, Int.reduceEq, Int.reduceLT, Int.reduceLE, Int.reduceNeg, Int.reduceAdd, Int.reduceSub, Int.reduceToNat]
  repeat ((with_reducible first | refine AWP_seq ?_ | refine AWP_block ?_ | refine AWP_scope ?_ | refine AWP_reg ?_ | refine AWP_draw ?_ | refine AWP_skip ?_ | refine AWP_ret ?_ | refine AWP_exit ?_ | (refine AWP_cond_true ?_ ?_; · simp only [SS, argList, aPut, aFill, ↓reduceIte, Nat.reduceEqDiff, Nat.reduceAdd, Nat.reduceLeDiff, reduceCtorEq, Int.reduceEq, Int.reduceLT, Int.reduceLE, Int.reduceNeg, Int.reduceAdd, Int.reduceSub, Int.reduceToNat]) | (refine AWP_cond_false ?_ ?_; · simp only [SS, argList, aPut, aFill, ↓reduceIte, Nat.reduceEqDiff, Nat.reduceAdd, Nat.reduceLeDiff, reduceCtorEq, Int.reduceEq, Int.reduceLT, Int.reduceLE, Int.reduceNeg, Int.reduceAdd, Int.reduceSub, Int.reduceToNat])); try simp only [SS, argList, aPut, aFill, ↓reduceIte, Nat.reduceEqDiff, Nat.reduceAdd, Nat.reduceLeDiff, reduceCtorEq, Int.reduceEq, Int.reduceLT, Int.reduceLE, Int.reduceNeg, Int.reduceAdd, Int.reduceSub, Int.reduceToNat])
  refine AWP_while [4, 13, 14, 15] (fun y : AV × Nat => ds.length - y.2) (fun y => [y.1, .list (ds.map defC), .int .i64 ds.length, .int .i64 y.2])
    (fun y s => y.2 ≤ ds.length ∧ Grow σ s y.1 71 11 (rawAll (ds.take y.2))) (.nils, 0) ⟨by simp, .start _ _ _⟩ ?_ ?_
  · try simp only [SS, argList, aPut, aFill, ↓reduceIte, Nat.reduceEqDiff, Nat.reduceAdd, Nat.reduceLeDiff, reduceCtorEq, Int.reduceEq, Int.reduceLT, Int.reduceLE, Int.reduceNeg, Int.reduceAdd, Int.reduceSub, Int.reduceToNat]
    repeat ((with_reducible first | refine AWP_seq ?_ | refine AWP_block ?_ | refine AWP_scope ?_ | refine AWP_reg ?_ | refine AWP_draw ?_ | refine AWP_skip ?_ | refine AWP_ret ?_ | refine AWP_exit ?_ | (refine AWP_cond_true ?_ ?_; · simp only [SS, argList, aPut, aFill, ↓reduceIte, Nat.reduceEqDiff, Nat.reduceAdd, Nat.reduceLeDiff, reduceCtorEq, Int.reduceEq, Int.reduceLT, Int.reduceLE, Int.reduceNeg, Int.reduceAdd, Int.reduceSub, Int.reduceToNat]) | (refine AWP_cond_false ?_ ?_; · simp only [SS, argList, aPut, aFill, ↓reduceIte, Nat.reduceEqDiff, Nat.reduceAdd, Nat.reduceLeDiff, reduceCtorEq, Int.reduceEq, Int.reduceLT, Int.reduceLE, Int.reduceNeg, Int.reduceAdd, Int.reduceSub, Int.reduceToNat])); try simp only [SS, argList, aPut, aFill, ↓reduceIte, Nat.reduceEqDiff, Nat.reduceAdd, Nat.reduceLeDiff, reduceCtorEq, Int.reduceEq, Int.reduceLT, Int.reduceLE, Int.reduceNeg, Int.reduceAdd, Int.reduceSub, Int.reduceToNat])
    rfl
  rintro ⟨v, i⟩ s ⟨hi, hG⟩
  simp only at hi hG
  have hw := wrap_succ (i := i) (by omega)
  by_cases hil : i < ds.length
  · have hil' : (i : Int) < (ds.length : Int) := by omega
    obtain ⟨x, hx⟩ : ∃ x, ds[i]? = some x := ⟨_, List.getElem?_eq_getElem hil⟩
    have hxm := List.mem_of_getElem? hx
    have hg : (ds.map defC)[i]? = some (defC x) := by simp [hx]
    have hbx := bulkD_take hx
    have hrl := rawAll_len (ds.take i)
    have hxs := hsh x hxm
    obtain ⟨nm, x⟩ := x
    simp only at hbx hxs
    obtain ⟨k, ps, gs, c0, c4, c5, hdb, hdp, hone, hpl⟩ := x.parts
    try simp only [SS, argList, aPut, aFill, ↓reduceIte, Nat.reduceEqDiff, Nat.reduceAdd, Nat.reduceLeDiff, reduceCtorEq, Int.reduceEq, Int.reduceLT, Int.reduceLE, Int.reduceNeg, Int.reduceAdd, Int.reduceSub, Int.reduceToNat, hil', hg, defC, Cr.len, Cr.take9, Cr.drop9]
    iterate 15 ((with_reducible first | refine AWP_seq ?_ | refine AWP_block ?_ | refine AWP_scope ?_ | refine AWP_reg ?_ | refine AWP_draw ?_ | refine AWP_skip ?_ | refine AWP_ret ?_ | refine AWP_exit ?_ | (refine AWP_cond_true ?_ ?_; · simp only [SS, argList, aPut, aFill, ↓reduceIte, Nat.reduceEqDiff, Nat.reduceAdd, Nat.reduceLeDiff, reduceCtorEq, Int.reduceEq, Int.reduceLT, Int.reduceLE, Int.reduceNeg, Int.reduceAdd, Int.reduceSub, Int.reduceToNat, hil', hg, defC, Cr.len, Cr.take9, Cr.drop9]) | (refine AWP_cond_false ?_ ?_; · simp only [SS, argList, aPut, aFill, ↓reduceIte, Nat.reduceEqDiff, Nat.reduceAdd, Nat.reduceLeDiff, reduceCtorEq, Int.reduceEq, Int.reduceLT, Int.reduceLE, Int.reduceNeg, Int.reduceAdd, Int.reduceSub, Int.reduceToNat, hil', hg, defC, Cr.len, Cr.take9, Cr.drop9])); try simp only [SS, argList, aPut, aFill, ↓reduceIte, Nat.reduceEqDiff, Nat.reduceAdd, Nat.reduceLeDiff, reduceCtorEq, Int.reduceEq, Int.reduceLT, Int.reduceLE, Int.reduceNeg, Int.reduceAdd, Int.reduceSub, Int.reduceToNat, hil', hg, defC, Cr.len, Cr.take9, Cr.drop9])
    have kp : Kp s ((((s.push (.cells 58 0 10 [.str nm :: x.cells])).push (.cells 120 0 2 [[.str nm, .nils]])).push (.cells 71 0 11 [.str nm :: .nils :: zeroC])).push (.cells 54 0 9 [x.cells])) := (((Kp.pushed _ _).push _).push _).push _
    refine AWP_cut [4, 6, 7, 8, 9, 13, 14, 15] (fun _ : Unit => [v, .ptr s.next 0 0 0, .ptr (s.next + 1) 0 0 0, .ptr (s.next + 2) 0 0 0, .ptr (s.next + 3) 0 0 0, .list (ds.map defC), .int .i64 ds.length, .int .i64 i])
      (fun _ u => Kp s u ∧ s.next + 4 ≤ u.next ∧ u.get (s.next + 1) = some (.cells 120 0 2 [[.str nm, .nils]]) ∧ u.get (s.next + 2) = some (.cells 71 0 11 [.str nm :: defPc x :: zeroC]) ∧ u.get (s.next + 3) = some (.cells 54 0 9 [(defBody x).2.cells])) ?_ ?_
    · by_cases hk : k = 6
      · obtain ⟨y, rfl⟩ := hone hxs hk
        rw [if_pos hk] at hdb hdp
        rw [hdb, hdp]
        try simp only [SS, argList, aPut, aFill, ↓reduceIte, Nat.reduceEqDiff, Nat.reduceAdd, Nat.reduceLeDiff, reduceCtorEq, Int.reduceEq, Int.reduceLT, Int.reduceLE, Int.reduceNeg, Int.reduceAdd, Int.reduceSub, Int.reduceToNat, c0, hk, c4]
        repeat ((with_reducible first | refine AWP_seq ?_ | refine AWP_block ?_ | refine AWP_scope ?_ | refine AWP_reg ?_ | refine AWP_draw ?_ | refine AWP_skip ?_ | refine AWP_ret ?_ | refine AWP_exit ?_ | (refine AWP_cond_true ?_ ?_; · simp only [SS, argList, aPut, aFill, ↓reduceIte, Nat.reduceEqDiff, Nat.reduceAdd, Nat.reduceLeDiff, reduceCtorEq, Int.reduceEq, Int.reduceLT, Int.reduceLE, Int.reduceNeg, Int.reduceAdd, Int.reduceSub, Int.reduceToNat, c0, hk, c4]) | (refine AWP_cond_false ?_ ?_; · simp only [SS, argList, aPut, aFill, ↓reduceIte, Nat.reduceEqDiff, Nat.reduceAdd, Nat.reduceLeDiff, reduceCtorEq, Int.reduceEq, Int.reduceLT, Int.reduceLE, Int.reduceNeg, Int.reduceAdd, Int.reduceSub, Int.reduceToNat, c0, hk, c4])); try simp only [SS, argList, aPut, aFill, ↓reduceIte, Nat.reduceEqDiff, Nat.reduceAdd, Nat.reduceLeDiff, reduceCtorEq, Int.reduceEq, Int.reduceLT, Int.reduceLE, Int.reduceNeg, Int.reduceAdd, Int.reduceSub, Int.reduceToNat, c0, hk, c4])
        simp only [zeroC] at kp
        generalize hs1 : Store.push _ _ = s1 at kp ⊢
        have n1 : s1.next = s.next + 4 := by rw [← hs1]; rfl
        have g0 : s1.get (s.next + 1) = some (.cells 120 0 2 [[.str nm, .nils]]) := by rw [← hs1]; simp [Store.push_get, Store.push_next]
        have g1 : s1.get (s.next + 2) = some (.cells 71 0 11 [.str nm :: .nils :: zeroC]) := by rw [← hs1]; simp [Store.push_get, Store.push_next, zeroC]
        have g2 : s1.get (s.next + 3) = some (.cells 54 0 9 [x.cells]) := by rw [← hs1]; simp [Store.push_get, Store.push_next]
        clear hs1
        refine ok_app (.nil s1 9 1) (es2 := ps.map fun s => [.str s]) (by intro q hq; exact mem_strs hq) (by simp; omega) (by simp [maxLen]; omega) ?_
        intro w s2 hsl hfr
        have f0 := hfr.keep (s.next + 1) (by omega) (by simp [slIds])
        have f1 := hfr.keep (s.next + 2) (by omega) (by simp [slIds])
        have f2 := hfr.keep (s.next + 3) (by omega) (by simp [slIds])
        rw [g0] at f0
        rw [g1] at f1
        rw [g2] at f2
        have hwn : ∀ j, j ∈ slIds w → s1.next ≤ j := fun j hj => (hfr.fresh j hj).elim (fun a => by simp [slIds] at a) id
        have hu : ∀ o, (s2.upd (s.next + 2) o).get (s.next + 3) = some (.cells 54 0 9 [x.cells]) := fun o => by rw [Store.get_upd_ne _ _ (by omega)]; exact f2
        try simp only [SS, argList, aPut, aFill, ↓reduceIte, Nat.reduceEqDiff, Nat.reduceAdd, Nat.reduceLeDiff, reduceCtorEq, Int.reduceEq, Int.reduceLT, Int.reduceLE, Int.reduceNeg, Int.reduceAdd, Int.reduceSub, Int.reduceToNat, f1, zeroC, hsl.co]
        iterate 0 ((with_reducible first | refine AWP_seq ?_ | refine AWP_block ?_ | refine AWP_scope ?_ | refine AWP_reg ?_ | refine AWP_draw ?_ | refine AWP_skip ?_ | refine AWP_ret ?_ | refine AWP_exit ?_ | (refine AWP_cond_true ?_ ?_; · simp only [SS, argList, aPut, aFill, ↓reduceIte, Nat.reduceEqDiff, Nat.reduceAdd, Nat.reduceLeDiff, reduceCtorEq, Int.reduceEq, Int.reduceLT, Int.reduceLE, Int.reduceNeg, Int.reduceAdd, Int.reduceSub, Int.reduceToNat, f1, zeroC, hsl.co]) | (refine AWP_cond_false ?_ ?_; · simp only [SS, argList, aPut, aFill, ↓reduceIte, Nat.reduceEqDiff, Nat.reduceAdd, Nat.reduceLeDiff, reduceCtorEq, Int.reduceEq, Int.reduceLT, Int.reduceLE, Int.reduceNeg, Int.reduceAdd, Int.reduceSub, Int.reduceToNat, f1, zeroC, hsl.co])); try simp only [SS, argList, aPut, aFill, ↓reduceIte, Nat.reduceEqDiff, Nat.reduceAdd, Nat.reduceLeDiff, reduceCtorEq, Int.reduceEq, Int.reduceLT, Int.reduceLE, Int.reduceNeg, Int.reduceAdd, Int.reduceSub, Int.reduceToNat, f1, zeroC, hsl.co])
        generalize ht : s2.upd (s.next + 2) _ = t2
        have t1 : t2.get (s.next + 2) = some (.cells 71 0 11 [.str nm :: w :: zeroC]) := by rw [← ht]; exact Store.get_upd_self _ _ (s2.lt f1)
        have t0 : t2.get (s.next + 1) = some (.cells 120 0 2 [[.str nm, .nils]]) := by rw [← ht, Store.get_upd_ne _ _ (by omega)]; exact f0
        have t3 : t2.get (s.next + 3) = some (.cells 54 0 9 [x.cells]) := by rw [← ht]; exact hu _
        have tk : Kp s t2 := ⟨by rw [← ht, Store.upd_next]; have := hfr.next; omega, fun j hj => by rw [← ht, Store.get_upd_ne _ _ (by omega), hfr.keep j (by omega) (by simp [slIds]), kp.keep j hj]⟩
        have tn : s1.next ≤ t2.next := by rw [← ht, Store.upd_next]; exact hfr.next
        have tw : SliceAt t2 w 9 1 (ps.map fun s => [.str s]) := by
          rw [List.nil_append] at hsl
          exact hsl.keep fun j hj => by rw [← ht, Store.get_upd_ne _ _ (by have := hwn j hj; omega)]
        clear ht
        refine AWP_frozeO tw t1 (fun hm => by have := hwn _ hm; omega) (os' := [.str nm :: strs ps :: zeroC]) (.cons (.cons (.refl _) (.cons .here (SubL.rf _))) .nil) fun s5 z1 z2 z3 => ?_
        have y0 := z3 (s.next + 1) (fun hm => by have := hwn _ hm; omega) (by omega)
        have y3 := z3 (s.next + 3) (fun hm => by have := hwn _ hm; omega) (by omega)
        rw [t0] at y0
        rw [t3] at y3
        have yk : Kp s s5 := ⟨by have := tk.next; omega, fun j hj => by rw [z3 j (fun hm => by have := hwn _ hm; omega) (by omega), tk.keep j hj]⟩
        have c9 : List.drop 9 x.cells = [] := Cr.drop9 x
        have hu5 : ∀ o j, j ≠ s.next + 3 → (s5.upd (s.next + 3) o).get j = s5.get j := fun o j hj => Store.get_upd_ne _ _ hj
        try simp only [SS, argList, aPut, aFill, ↓reduceIte, Nat.reduceEqDiff, Nat.reduceAdd, Nat.reduceLeDiff, reduceCtorEq, Int.reduceEq, Int.reduceLT, Int.reduceLE, Int.reduceNeg, Int.reduceAdd, Int.reduceSub, Int.reduceToNat, y3, c5, Cr.len, Cr.take9, c9]
        repeat ((with_reducible first | refine AWP_seq ?_ | refine AWP_block ?_ | refine AWP_scope ?_ | refine AWP_reg ?_ | refine AWP_draw ?_ | refine AWP_skip ?_ | refine AWP_ret ?_ | refine AWP_exit ?_ | (refine AWP_cond_true ?_ ?_; · simp only [SS, argList, aPut, aFill, ↓reduceIte, Nat.reduceEqDiff, Nat.reduceAdd, Nat.reduceLeDiff, reduceCtorEq, Int.reduceEq, Int.reduceLT, Int.reduceLE, Int.reduceNeg, Int.reduceAdd, Int.reduceSub, Int.reduceToNat, y3, c5, Cr.len, Cr.take9, c9]) | (refine AWP_cond_false ?_ ?_; · simp only [SS, argList, aPut, aFill, ↓reduceIte, Nat.reduceEqDiff, Nat.reduceAdd, Nat.reduceLeDiff, reduceCtorEq, Int.reduceEq, Int.reduceLT, Int.reduceLE, Int.reduceNeg, Int.reduceAdd, Int.reduceSub, Int.reduceToNat, y3, c5, Cr.len, Cr.take9, c9])); try simp only [SS, argList, aPut, aFill, ↓reduceIte, Nat.reduceEqDiff, Nat.reduceAdd, Nat.reduceLeDiff, reduceCtorEq, Int.reduceEq, Int.reduceLT, Int.reduceLE, Int.reduceNeg, Int.reduceAdd, Int.reduceSub, Int.reduceToNat, y3, c5, Cr.len, Cr.take9, c9])
        refine ⟨(), ⟨by rw [Store.upd_next]; exact yk.next, fun j hj => by rw [hu5 _ _ (by omega), yk.keep j hj]⟩, by omega, by rw [hu5 _ _ (by omega)]; exact y0, by rw [hu5 _ _ (by omega)]; exact z2, Store.get_upd_self _ _ (s5.lt y3)⟩
      · rw [if_neg hk] at hdb hdp
        rw [hdb, hdp]
        try simp only [SS, argList, aPut, aFill, ↓reduceIte, Nat.reduceEqDiff, Nat.reduceAdd, Nat.reduceLeDiff, reduceCtorEq, Int.reduceEq, Int.reduceLT, Int.reduceLE, Int.reduceNeg, Int.reduceAdd, Int.reduceSub, Int.reduceToNat, c0, hk]
        repeat ((with_reducible first | refine AWP_seq ?_ | refine AWP_block ?_ | refine AWP_scope ?_ | refine AWP_reg ?_ | refine AWP_draw ?_ | refine AWP_skip ?_ | refine AWP_ret ?_ | refine AWP_exit ?_ | (refine AWP_cond_true ?_ ?_; · simp only [SS, argList, aPut, aFill, ↓reduceIte, Nat.reduceEqDiff, Nat.reduceAdd, Nat.reduceLeDiff, reduceCtorEq, Int.reduceEq, Int.reduceLT, Int.reduceLE, Int.reduceNeg, Int.reduceAdd, Int.reduceSub, Int.reduceToNat, c0, hk]) | (refine AWP_cond_false ?_ ?_; · simp only [SS, argList, aPut, aFill, ↓reduceIte, Nat.reduceEqDiff, Nat.reduceAdd, Nat.reduceLeDiff, reduceCtorEq, Int.reduceEq, Int.reduceLT, Int.reduceLE, Int.reduceNeg, Int.reduceAdd, Int.reduceSub, Int.reduceToNat, c0, hk])); try simp only [SS, argList, aPut, aFill, ↓reduceIte, Nat.reduceEqDiff, Nat.reduceAdd, Nat.reduceLeDiff, reduceCtorEq, Int.reduceEq, Int.reduceLT, Int.reduceLE, Int.reduceNeg, Int.reduceAdd, Int.reduceSub, Int.reduceToNat, c0, hk])
        exact ⟨(), kp, rfl⟩
    rintro _ u ⟨ku, hn, u1, u2, u3⟩
    have hbb := defBody_bulk x
    have hul := u.lt u3
    have LA : LiftAt u (s.next + 1) .nils nm [] := ⟨u1, .nil _ _ _, by simp [slIds]⟩
    try simp only [SS, argList, aPut, aFill, ↓reduceIte, Nat.reduceEqDiff, Nat.reduceAdd, Nat.reduceLeDiff, reduceCtorEq, Int.reduceEq, Int.reduceLT, Int.reduceLE, Int.reduceNeg, Int.reduceAdd, Int.reduceSub, Int.reduceToNat, u3, Cr.len, Cr.take9]
    repeat ((with_reducible first | refine AWP_seq ?_ | refine AWP_block ?_ | refine AWP_scope ?_ | refine AWP_reg ?_ | refine AWP_draw ?_ | refine AWP_skip ?_ | refine AWP_ret ?_ | refine AWP_exit ?_ | (refine AWP_cond_true ?_ ?_; · simp only [SS, argList, aPut, aFill, ↓reduceIte, Nat.reduceEqDiff, Nat.reduceAdd, Nat.reduceLeDiff, reduceCtorEq, Int.reduceEq, Int.reduceLT, Int.reduceLE, Int.reduceNeg, Int.reduceAdd, Int.reduceSub, Int.reduceToNat, u3, Cr.len, Cr.take9]) | (refine AWP_cond_false ?_ ?_; · simp only [SS, argList, aPut, aFill, ↓reduceIte, Nat.reduceEqDiff, Nat.reduceAdd, Nat.reduceLeDiff, reduceCtorEq, Int.reduceEq, Int.reduceLT, Int.reduceLE, Int.reduceNeg, Int.reduceAdd, Int.reduceSub, Int.reduceToNat, u3, Cr.len, Cr.take9])); try simp only [SS, argList, aPut, aFill, ↓reduceIte, Nat.reduceEqDiff, Nat.reduceAdd, Nat.reduceLeDiff, reduceCtorEq, Int.reduceEq, Int.reduceLT, Int.reduceLE, Int.reduceNeg, Int.reduceAdd, Int.reduceSub, Int.reduceToNat, u3, Cr.len, Cr.take9])
    have hcall := lift_ok (defBody x).2 hxs.body true u (s.next + 1) .nils nm [] LA (by omega) (by simp; omega)
    refine hcall.mono ?_
    rintro _ s2 ⟨_, rfl, v2, LA2, hn2, hk2, hf2⟩
    have hsn : s.next ≤ u.next := by omega
    have w2 := hk2 (s.next + 2) (by omega) (by omega) (by simp [slIds])
    rw [u2] at w2
    have k2 : Kp s s2 := ⟨by omega, fun j hj => by rw [hk2 j (by omega) (by omega) (by simp [slIds]), ku.keep j hj]⟩
    have e0 : ([] ++ (liftS nm textOf true ([] : List (List AV)).length (defBody x).2).2.map supC) = (liftS nm textOf true 0 (defBody x).2).2.map supC := by simp
    rw [e0] at LA2
    rw [show ([] : List (List AV)).length = 0 from rfl]
    have hrd : rawDef (nm, x) = (.str nm :: defPc x :: (liftS nm textOf true 0 (defBody x).2).1.cells) :: (liftS nm textOf true 0 (defBody x).2).2.map supC := rfl
    have hrdl := rawDef_len (nm, x)
    have hrs := rawAll_succ hx
    rw [hrd] at hrs hrdl
    generalize liftS nm textOf true 0 (defBody x).2 = z at LA2 hrd hrdl hrs ⊢
    simp only [List.length_cons, List.length_map] at hrdl
    have hu : ∀ o, (s2.upd (s.next + 2) o).get (s.next + 2) = some o := fun o => Store.get_upd_self _ _ (s2.lt w2)
    have hpc : (defPc x).cellsOf = some [defPc x] := by rw [hdp]; split <;> rfl
    have hz9 : List.drop 9 zeroC = [] := rfl
    have hz : zeroC.length = 9 := rfl
    try simp only [SS, argList, aPut, aFill, ↓reduceIte, Nat.reduceEqDiff, Nat.reduceAdd, Nat.reduceLeDiff, reduceCtorEq, Int.reduceEq, Int.reduceLT, Int.reduceLE, Int.reduceNeg, Int.reduceAdd, Int.reduceSub, Int.reduceToNat, w2, Cr.len, Cr.take9, hz, hz9, hu]
    repeat ((with_reducible first | refine AWP_seq ?_ | refine AWP_block ?_ | refine AWP_scope ?_ | refine AWP_reg ?_ | refine AWP_draw ?_ | refine AWP_skip ?_ | refine AWP_ret ?_ | refine AWP_exit ?_ | (refine AWP_cond_true ?_ ?_; · simp only [SS, argList, aPut, aFill, ↓reduceIte, Nat.reduceEqDiff, Nat.reduceAdd, Nat.reduceLeDiff, reduceCtorEq, Int.reduceEq, Int.reduceLT, Int.reduceLE, Int.reduceNeg, Int.reduceAdd, Int.reduceSub, Int.reduceToNat, w2, Cr.len, Cr.take9, hz, hz9, hu]) | (refine AWP_cond_false ?_ ?_; · simp only [SS, argList, aPut, aFill, ↓reduceIte, Nat.reduceEqDiff, Nat.reduceAdd, Nat.reduceLeDiff, reduceCtorEq, Int.reduceEq, Int.reduceLT, Int.reduceLE, Int.reduceNeg, Int.reduceAdd, Int.reduceSub, Int.reduceToNat, w2, Cr.len, Cr.take9, hz, hz9, hu])); try simp only [SS, argList, aPut, aFill, ↓reduceIte, Nat.reduceEqDiff, Nat.reduceAdd, Nat.reduceLeDiff, reduceCtorEq, Int.reduceEq, Int.reduceLT, Int.reduceLE, Int.reduceNeg, Int.reduceAdd, Int.reduceSub, Int.reduceToNat, w2, Cr.len, Cr.take9, hz, hz9, hu])
    have kU : Kp s (s2.upd (s.next + 2) (.cells 71 0 11 [.str nm :: defPc x :: z.1.cells])) := ⟨by rw [Store.upd_next]; exact k2.next, fun j hj => by rw [Store.get_upd_ne _ _ (by omega), k2.keep j hj]⟩
    have hvs : ∀ j, j ∈ slIds v → j < s.next := fun j hj => hG.sl.lt hj
    refine ok_grow (hG.keep kU) (es2 := [.str nm :: defPc x :: z.1.cells]) (by simp [Cr.len]) (by simp; omega) (by simp [maxLen]; omega) ?_
    intro v3 s3 hG3 hk3 hn3
    have hd3 : s3.get (s.next + 1) = some (.cells 120 0 2 [[.str nm, v2]]) := by
      rw [hk3 _ (by rw [Store.upd_next]; have := s2.lt LA2.hd; omega) (fun hm => by have := hvs _ hm; omega), Store.get_upd_ne _ _ (by omega)]; exact LA2.hd
    have hv2 : ∀ j, j ∈ slIds v2 → u.next ≤ j := fun j hj => (hf2 j hj).elim (fun a => by simp [slIds] at a) id
    have hsl3 : SliceAt s3 v2 71 11 (z.2.map supC) := LA2.sl.keep fun j hj => by
      have h1 := hv2 j hj
      rw [hk3 _ (by rw [Store.upd_next]; exact LA2.sl.lt hj) (fun hm => by have := hvs _ hm; omega), Store.get_upd_ne _ _ (by omega)]
    try simp only [SS, argList, aPut, aFill, ↓reduceIte, Nat.reduceEqDiff, Nat.reduceAdd, Nat.reduceLeDiff, reduceCtorEq, Int.reduceEq, Int.reduceLT, Int.reduceLE, Int.reduceNeg, Int.reduceAdd, Int.reduceSub, Int.reduceToNat, hd3, hsl3.elems]
    repeat ((with_reducible first | refine AWP_seq ?_ | refine AWP_block ?_ | refine AWP_scope ?_ | refine AWP_reg ?_ | refine AWP_draw ?_ | refine AWP_skip ?_ | refine AWP_ret ?_ | refine AWP_exit ?_ | (refine AWP_cond_true ?_ ?_; · simp only [SS, argList, aPut, aFill, ↓reduceIte, Nat.reduceEqDiff, Nat.reduceAdd, Nat.reduceLeDiff, reduceCtorEq, Int.reduceEq, Int.reduceLT, Int.reduceLE, Int.reduceNeg, Int.reduceAdd, Int.reduceSub, Int.reduceToNat, hd3, hsl3.elems]) | (refine AWP_cond_false ?_ ?_; · simp only [SS, argList, aPut, aFill, ↓reduceIte, Nat.reduceEqDiff, Nat.reduceAdd, Nat.reduceLeDiff, reduceCtorEq, Int.reduceEq, Int.reduceLT, Int.reduceLE, Int.reduceNeg, Int.reduceAdd, Int.reduceSub, Int.reduceToNat, hd3, hsl3.elems])); try simp only [SS, argList, aPut, aFill, ↓reduceIte, Nat.reduceEqDiff, Nat.reduceAdd, Nat.reduceLeDiff, reduceCtorEq, Int.reduceEq, Int.reduceLT, Int.reduceLE, Int.reduceNeg, Int.reduceAdd, Int.reduceSub, Int.reduceToNat, hd3, hsl3.elems])
    refine ok_grow hG3 (es2 := z.2.map supC) (by intro q hq; obtain ⟨y, _, rfl⟩ := List.mem_map.1 hq; exact supC_len y) (by simp; omega) (by simp [maxLen]; omega) ?_
    intro v4 s4 hG4 _ _
    try simp only [SS, argList, aPut, aFill, ↓reduceIte, Nat.reduceEqDiff, Nat.reduceAdd, Nat.reduceLeDiff, reduceCtorEq, Int.reduceEq, Int.reduceLT, Int.reduceLE, Int.reduceNeg, Int.reduceAdd, Int.reduceSub, Int.reduceToNat, hw]
    repeat ((with_reducible first | refine AWP_seq ?_ | refine AWP_block ?_ | refine AWP_scope ?_ | refine AWP_reg ?_ | refine AWP_draw ?_ | refine AWP_skip ?_ | refine AWP_ret ?_ | refine AWP_exit ?_ | (refine AWP_cond_true ?_ ?_; · simp only [SS, argList, aPut, aFill, ↓reduceIte, Nat.reduceEqDiff, Nat.reduceAdd, Nat.reduceLeDiff, reduceCtorEq, Int.reduceEq, Int.reduceLT, Int.reduceLE, Int.reduceNeg, Int.reduceAdd, Int.reduceSub, Int.reduceToNat, hw]) | (refine AWP_cond_false ?_ ?_; · simp only [SS, argList, aPut, aFill, ↓reduceIte, Nat.reduceEqDiff, Nat.reduceAdd, Nat.reduceLeDiff, reduceCtorEq, Int.reduceEq, Int.reduceLT, Int.reduceLE, Int.reduceNeg, Int.reduceAdd, Int.reduceSub, Int.reduceToNat, hw])); try simp only [SS, argList, aPut, aFill, ↓reduceIte, Nat.reduceEqDiff, Nat.reduceAdd, Nat.reduceLeDiff, reduceCtorEq, Int.reduceEq, Int.reduceLT, Int.reduceLE, Int.reduceNeg, Int.reduceAdd, Int.reduceSub, Int.reduceToNat, hw])
    refine ⟨(v4, i + 1), rfl, ⟨by simp only; omega, ?_⟩, by simp only; omega⟩
    simp only [hrs]
    simpa [List.append_assoc] using hG4
  · have hil' : ¬ (i : Int) < (ds.length : Int) := by omega
    rw [List.take_of_length_le (by omega)] at hG
    try simp only [SS, argList, aPut, aFill, ↓reduceIte, Nat.reduceEqDiff, Nat.reduceAdd, Nat.reduceLeDiff, reduceCtorEq, Int.reduceEq, Int.reduceLT, Int.reduceLE, Int.reduceNeg, Int.reduceAdd, Int.reduceSub, Int.reduceToNat, hil']
    repeat ((with_reducible first | refine AWP_seq ?_ | refine AWP_block ?_ | refine AWP_scope ?_ | refine AWP_reg ?_ | refine AWP_draw ?_ | refine AWP_skip ?_ | refine AWP_ret ?_ | refine AWP_exit ?_ | (refine AWP_cond_true ?_ ?_; · simp only [SS, argList, aPut, aFill, ↓reduceIte, Nat.reduceEqDiff, Nat.reduceAdd, Nat.reduceLeDiff, reduceCtorEq, Int.reduceEq, Int.reduceLT, Int.reduceLE, Int.reduceNeg, Int.reduceAdd, Int.reduceSub, Int.reduceToNat, hil']) | (refine AWP_cond_false ?_ ?_; · simp only [SS, argList, aPut, aFill, ↓reduceIte, Nat.reduceEqDiff, Nat.reduceAdd, Nat.reduceLeDiff, reduceCtorEq, Int.reduceEq, Int.reduceLT, Int.reduceLE, Int.reduceNeg, Int.reduceAdd, Int.reduceSub, Int.reduceToNat, hil'])); try simp only [SS, argList, aPut, aFill, ↓reduceIte, Nat.reduceEqDiff, Nat.reduceAdd, Nat.reduceLeDiff, reduceCtorEq, Int.reduceEq, Int.reduceLT, Int.reduceLE, Int.reduceNeg, Int.reduceAdd, Int.reduceSub, Int.reduceToNat, hil'])
    refine FP.mk (.tuple [.list (rawAll ds), .int .i64 0]) hG.sl (.tuple (.cons .here (.cons (.refl _) .nil))) (.inr rfl) (.tuple' ?_) hG.kp hG.fresh
    simp only [List.mem_cons, List.not_mem_nil, or_false]
    rintro c (rfl | rfl)
    · exact .list' fun e he c hc => rawAll_cln _ e he c hc
    · exact .int _ _
theorem lift19_ok (ds : List (ByteArray × Cr)) (hb : bulkD ds ≤ 9000000) (σ : Store) :
    ACalls Try.prog 19 [.list (ds.map defC)] σ fun r σ' => (r = .tuple [.list [], .int .i64 1] ∨ r = .tuple [.list ((liftAll ds).map supC), .int .i64 0]) ∧ σ' = σ := by
  refine ACalls_leD ((liftRaw_ok ds hb σ).mono ?_)
  rintro r s ⟨rfl | rfl, rfl⟩
  · exact ⟨_, .refl _, .inl rfl, rfl⟩
  · exact ⟨_, .tuple (.cons (.list (leD_all ds)) (.cons (.refl _) .nil)), .inr rfl, rfl⟩
end Go.Proofs.Ytjjbjibbjbbeaaa
