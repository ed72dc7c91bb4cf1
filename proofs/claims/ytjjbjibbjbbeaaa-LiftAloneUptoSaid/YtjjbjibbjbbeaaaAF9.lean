/- Right: true only where each function has one part. -/
import Derived.Test.YtjjbjibbjbbeaaaAF8
set_option linter.unusedVariables false
set_option linter.unusedSimpArgs false
namespace Go.AL
/-- A definition's cells. -/
def defC (p : ByteArray × Cr) : List AV := .str p.1 :: p.2.cells
theorem defC_len (p : ByteArray × Cr) : (defC p).length = 10 := by simp [defC, Cr.len]
/-- Definitions' bulk. -/
def bulkD : List (ByteArray × Cr) → Nat
  | [] => 0
  | (s, x) :: r => s.size + 1 + Cr.bulk x + bulkD r
theorem bulkD_le {x : ByteArray × Cr} : ∀ {l : List (ByteArray × Cr)}, x ∈ l → x.1.size + 1 + x.2.bulk ≤ bulkD l
  | (g, y) :: r, h => by
    rw [bulkD]
    rcases List.mem_cons.1 h with rfl | h
    · simp only; omega
    · have := bulkD_le h; omega
theorem lenD : ∀ l : List (ByteArray × Cr), l.length ≤ bulkD l
  | [] => by simp
  | (h, x) :: r => by rw [bulkD, List.length_cons]; have := lenD r; omega
theorem bulkD_app : ∀ l m : List (ByteArray × Cr), bulkD (l ++ m) = bulkD l + bulkD m
  | [], m => by simp [bulkD]
  | (h, x) :: r, m => by rw [List.cons_append, bulkD, bulkD, bulkD_app r m]; omega
end Go.AL
namespace Go.Proofs.Ytjjbjibbjbbeaaa
open Go.AL
theorem rightN (x : Cr) (σ : Store) (cid : Nat) (v : AV) (l : List ByteArray) (hc : Chk σ cid v l) (hb : x.bulk ≤ 50000000) :
    ACalls Try.prog 86 [.ptr cid 0 0 0, .agg x.cells, .nils] σ fun r σ' => (∃ b : Bool, r = .bool b ∧ (b = true → x.Sh)) ∧ σ' = σ :=
  ACalls_argsD (.cons (.refl _) (.cons (.refl _) (.cons .nil .nil))) (right_ok x σ cid v l [] hc (by simpa using hb))
theorem rightD_ok (ds : List (ByteArray × Cr)) (hb : bulkD ds ≤ 20000000) (σ : Store) :
    ACalls Try.prog 47 [.list (ds.map defC)] σ fun r σ' => RB (∀ x, x ∈ ds → x.2.Sh) r ∧ σ' = σ := by
  refine ACalls_fp (p := RB _) ?_
  refine in47 (by simp) ?_
  unfold c47
  have hdl := lenD ds
  try simp only [SS, argList, aPut, aFill, ↓reduceIte, Nat.reduceEqDiff, Nat.reduceAdd, Nat.reduceLeDiff, reduceCtorEq, Int.reduceEq, Int.reduceLT, Int.reduceLE, Int.reduceNeg, Int.reduceAdd, Int.reduceSub, Int.reduceToNat]
  repeat ((with_reducible first | refine AWP_seq ?_ | refine AWP_block ?_ | refine AWP_scope ?_ | refine AWP_reg ?_ | refine AWP_draw ?_ | refine AWP_skip ?_ | refine AWP_ret ?_ | refine AWP_exit ?_ | (refine AWP_cond_true ?_ ?_; · simp only [SS, argList, aPut, aFill, ↓reduceIte, Nat.reduceEqDiff, Nat.reduceAdd, Nat.reduceLeDiff, reduceCtorEq, Int.reduceEq, Int.reduceLT, Int.reduceLE, Int.reduceNeg, Int.reduceAdd, Int.reduceSub, Int.reduceToNat]) | (refine AWP_cond_false ?_ ?_; · simp only [SS, argList, aPut, aFill, ↓reduceIte, Nat.reduceEqDiff, Nat.reduceAdd, Nat.reduceLeDiff, reduceCtorEq, Int.reduceEq, Int.reduceLT, Int.reduceLE, Int.reduceNeg, Int.reduceAdd, Int.reduceSub, Int.reduceToNat])); try simp only [SS, argList, aPut, aFill, ↓reduceIte, Nat.reduceEqDiff, Nat.reduceAdd, Nat.reduceLeDiff, reduceCtorEq, Int.reduceEq, Int.reduceLT, Int.reduceLE, Int.reduceNeg, Int.reduceAdd, Int.reduceSub, Int.reduceToNat])
  generalize hs : Store.push _ _ = s
  have k1 : Kp σ s := by rw [← hs]; exact .pushed _ _
  have he : s.get σ.next = some (.cells 196 0 1 [[.nils]]) := by rw [← hs]; simp [Store.push_get]
  have hsn : s.next = σ.next + 1 := by rw [← hs]; rfl
  clear hs
  refine AWP_while [0, 3, 10, 11, 12] (fun i : Nat => ds.length - i) (fun i => [.list (ds.map defC), .ptr σ.next 0 0 0, .list (ds.map defC), .int .i64 ds.length, .int .i64 i])
    (fun i t => i ≤ ds.length ∧ Kp σ t ∧ ∃ v, Chk t σ.next v ((ds.take i).map (·.1)) ∧ ∀ j, j ∈ slIds v → σ.next < j) 0 ⟨by simp, k1, .nils, ⟨he, .nil _ _ _, by simp⟩, by simp [slIds]⟩ ?_ ?_
  · try simp only [SS, argList, aPut, aFill, ↓reduceIte, Nat.reduceEqDiff, Nat.reduceAdd, Nat.reduceLeDiff, reduceCtorEq, Int.reduceEq, Int.reduceLT, Int.reduceLE, Int.reduceNeg, Int.reduceAdd, Int.reduceSub, Int.reduceToNat]
    repeat ((with_reducible first | refine AWP_seq ?_ | refine AWP_block ?_ | refine AWP_scope ?_ | refine AWP_reg ?_ | refine AWP_draw ?_ | refine AWP_skip ?_ | refine AWP_ret ?_ | refine AWP_exit ?_ | (refine AWP_cond_true ?_ ?_; · simp only [SS, argList, aPut, aFill, ↓reduceIte, Nat.reduceEqDiff, Nat.reduceAdd, Nat.reduceLeDiff, reduceCtorEq, Int.reduceEq, Int.reduceLT, Int.reduceLE, Int.reduceNeg, Int.reduceAdd, Int.reduceSub, Int.reduceToNat]) | (refine AWP_cond_false ?_ ?_; · simp only [SS, argList, aPut, aFill, ↓reduceIte, Nat.reduceEqDiff, Nat.reduceAdd, Nat.reduceLeDiff, reduceCtorEq, Int.reduceEq, Int.reduceLT, Int.reduceLE, Int.reduceNeg, Int.reduceAdd, Int.reduceSub, Int.reduceToNat])); try simp only [SS, argList, aPut, aFill, ↓reduceIte, Nat.reduceEqDiff, Nat.reduceAdd, Nat.reduceLeDiff, reduceCtorEq, Int.reduceEq, Int.reduceLT, Int.reduceLE, Int.reduceNeg, Int.reduceAdd, Int.reduceSub, Int.reduceToNat])
    rfl
  rintro i t ⟨hi, k2, v, hc, hf⟩
  have hw := wrap_succ (i := i) (by omega)
  by_cases hil : i < ds.length
  · have hil' : (i : Int) < (ds.length : Int) := by omega
    obtain ⟨x, hx⟩ : ∃ x, ds[i]? = some x := ⟨_, List.getElem?_eq_getElem hil⟩
    have hxm := List.mem_of_getElem? hx
    have hg : (ds.map defC)[i]? = some (defC x) := by simp [hx]
    have hxb := bulkD_le hxm
    have hcp := hc.keep (.pushed t (.cells 58 0 10 [.str x.1 :: x.2.cells]))
    have hq := lt_ne (t.lt hc.hd)
    try simp only [SS, argList, aPut, aFill, ↓reduceIte, Nat.reduceEqDiff, Nat.reduceAdd, Nat.reduceLeDiff, reduceCtorEq, Int.reduceEq, Int.reduceLT, Int.reduceLE, Int.reduceNeg, Int.reduceAdd, Int.reduceSub, Int.reduceToNat, hil', hg, defC, Cr.len, Cr.take9, hc.hd, hq, str_nil]
    repeat' ((with_reducible first | refine AWP_seq ?_ | refine AWP_block ?_ | refine AWP_scope ?_ | refine AWP_reg ?_ | refine AWP_draw ?_ | refine AWP_skip ?_ | refine AWP_ret ?_ | refine AWP_exit ?_ | (refine ok_idx (by first | assumption | omega) (fun b hb => ?_)) | (refine ok_iad (by first | assumption | omega) (fun x hx hxm => ?_)) | (refine And.intro (by omega) ?_) | (refine AWP_cond_true ?_ ?_; · simp only [SS, argList, aPut, aFill, ↓reduceIte, Nat.reduceEqDiff, Nat.reduceAdd, Nat.reduceLeDiff, reduceCtorEq, Int.reduceEq, Int.reduceLT, Int.reduceLE, Int.reduceNeg, Int.reduceAdd, Int.reduceSub, Int.reduceToNat, hil', hg, defC, Cr.len, Cr.take9, hc.hd, hq, str_nil, *]) | (refine AWP_cond_false ?_ ?_; · simp only [SS, argList, aPut, aFill, ↓reduceIte, Nat.reduceEqDiff, Nat.reduceAdd, Nat.reduceLeDiff, reduceCtorEq, Int.reduceEq, Int.reduceLT, Int.reduceLE, Int.reduceNeg, Int.reduceAdd, Int.reduceSub, Int.reduceToNat, hil', hg, defC, Cr.len, Cr.take9, hc.hd, hq, str_nil, *]) | (refine guardW_b (fun h => ?_) (fun h => ?_) <;> try simp only [dec_t, dec_f, not_t, not_f] at h) | (refine ePick_b (fun h => ?_) (fun h => ?_) <;> try simp only [dec_t, dec_f, not_t, not_f] at h) | (refine AWP_cond_b (by simp only [SS, argList, aPut, aFill, ↓reduceIte, Nat.reduceEqDiff, Nat.reduceAdd, Nat.reduceLeDiff, reduceCtorEq, Int.reduceEq, Int.reduceLT, Int.reduceLE, Int.reduceNeg, Int.reduceAdd, Int.reduceSub, Int.reduceToNat]; exact rfl) (fun h => ?_) (fun h => ?_) <;> try simp only [dec_t, dec_f, not_t, not_f] at h) | (refine (op' _ _).mono ?_; rintro _ _ ⟨⟨b, rfl, hb⟩, rfl⟩) | (refine (numbered' _ (by omega) _).mono ?_; rintro _ _ ⟨⟨b, rfl, hb⟩, rfl⟩) | (refine (contains2 hcp _).mono ?_; rintro _ _ ⟨⟨b, rfl, hb⟩, rfl⟩)) <;> (try simp only [SS, argList, aPut, aFill, ↓reduceIte, Nat.reduceEqDiff, Nat.reduceAdd, Nat.reduceLeDiff, reduceCtorEq, Int.reduceEq, Int.reduceLT, Int.reduceLE, Int.reduceNeg, Int.reduceAdd, Int.reduceSub, Int.reduceToNat, hil', hg, defC, Cr.len, Cr.take9, hc.hd, hq, str_nil, *]))
    · exact FP.same (k2.trans (.pushed _ _)) RB.f (.bool _)
    · exact FP.same (k2.trans (.pushed _ _)) RB.f (.bool _)
    · exact FP.same (k2.trans (.pushed _ _)) RB.f (.bool _)
    · exact FP.same (k2.trans (.pushed _ _)) RB.f (.bool _)
    · refine ok_app hcp.sl (es2 := [[.str x.1]]) (by simp) (by simp; omega) (by simp [maxLen]; omega) ?_
      intro v' t3 hsl hfr
      have kp : Kp t (t.push (.cells 58 0 10 [.str x.1 :: x.2.cells])) := .pushed _ _
      have hd3 : t3.get σ.next = some (.cells 196 0 1 [[v]]) := by
        rw [hfr.keep _ ((t.push (.cells 58 0 10 [.str x.1 :: x.2.cells])).lt hcp.hd) (fun hm => by have := hf _ hm; omega)]; exact hcp.hd
      have hlt := t3.lt hd3
      try simp only [SS, argList, aPut, aFill, ↓reduceIte, Nat.reduceEqDiff, Nat.reduceAdd, Nat.reduceLeDiff, reduceCtorEq, Int.reduceEq, Int.reduceLT, Int.reduceLE, Int.reduceNeg, Int.reduceAdd, Int.reduceSub, Int.reduceToNat, hd3, hw, hsl.co]
      repeat ((with_reducible first | refine AWP_seq ?_ | refine AWP_block ?_ | refine AWP_scope ?_ | refine AWP_reg ?_ | refine AWP_draw ?_ | refine AWP_skip ?_ | refine AWP_ret ?_ | refine AWP_exit ?_ | (refine AWP_cond_true ?_ ?_; · simp only [SS, argList, aPut, aFill, ↓reduceIte, Nat.reduceEqDiff, Nat.reduceAdd, Nat.reduceLeDiff, reduceCtorEq, Int.reduceEq, Int.reduceLT, Int.reduceLE, Int.reduceNeg, Int.reduceAdd, Int.reduceSub, Int.reduceToNat, hd3, hw, hsl.co]) | (refine AWP_cond_false ?_ ?_; · simp only [SS, argList, aPut, aFill, ↓reduceIte, Nat.reduceEqDiff, Nat.reduceAdd, Nat.reduceLeDiff, reduceCtorEq, Int.reduceEq, Int.reduceLT, Int.reduceLE, Int.reduceNeg, Int.reduceAdd, Int.reduceSub, Int.reduceToNat, hd3, hw, hsl.co])); try simp only [SS, argList, aPut, aFill, ↓reduceIte, Nat.reduceEqDiff, Nat.reduceAdd, Nat.reduceLeDiff, reduceCtorEq, Int.reduceEq, Int.reduceLT, Int.reduceLE, Int.reduceNeg, Int.reduceAdd, Int.reduceSub, Int.reduceToNat, hd3, hw, hsl.co])
      have hne : ∀ j, j ∈ slIds v' → σ.next < j := fun j hj => by
        rcases hfr.fresh j hj with h1 | h1
        · exact hf j h1
        · have := (t.push (.cells 58 0 10 [.str x.1 :: x.2.cells])).lt hcp.hd; omega
      refine ⟨i + 1, rfl, ⟨by omega, ⟨?_, fun j hj => ?_⟩, v', ⟨Store.get_upd_self _ _ hlt, ?_, by simp; omega⟩, hne⟩, by omega⟩
      · have := hfr.next; have := kp.next; have := k2.next; rw [Store.upd_next]; omega
      · rw [Store.get_upd_ne _ _ (by omega), hfr.keep j (by have := kp.next; have := k2.next; omega) (fun hm => by have := hf _ hm; omega), kp.keep j (by have := k2.next; omega), k2.keep j hj]
      · have e : ((ds.take (i + 1)).map (·.1)).map (fun s => [AV.str s]) = ((ds.take i).map (·.1)).map (fun s => [AV.str s]) ++ [[AV.str x.1]] := by rw [List.take_add_one, hx]; simp
        rw [e]
        refine hsl.keep fun j hj => Store.get_upd_ne _ _ (by have := hne j hj; omega)
  · have hil' : ¬ (i : Int) < (ds.length : Int) := by omega
    rw [List.take_of_length_le (by omega)] at hc
    try simp only [SS, argList, aPut, aFill, ↓reduceIte, Nat.reduceEqDiff, Nat.reduceAdd, Nat.reduceLeDiff, reduceCtorEq, Int.reduceEq, Int.reduceLT, Int.reduceLE, Int.reduceNeg, Int.reduceAdd, Int.reduceSub, Int.reduceToNat, hil']
    repeat ((with_reducible first | refine AWP_seq ?_ | refine AWP_block ?_ | refine AWP_scope ?_ | refine AWP_reg ?_ | refine AWP_draw ?_ | refine AWP_skip ?_ | refine AWP_ret ?_ | refine AWP_exit ?_ | (refine AWP_cond_true ?_ ?_; · simp only [SS, argList, aPut, aFill, ↓reduceIte, Nat.reduceEqDiff, Nat.reduceAdd, Nat.reduceLeDiff, reduceCtorEq, Int.reduceEq, Int.reduceLT, Int.reduceLE, Int.reduceNeg, Int.reduceAdd, Int.reduceSub, Int.reduceToNat, hil']) | (refine AWP_cond_false ?_ ?_; · simp only [SS, argList, aPut, aFill, ↓reduceIte, Nat.reduceEqDiff, Nat.reduceAdd, Nat.reduceLeDiff, reduceCtorEq, Int.reduceEq, Int.reduceLT, Int.reduceLE, Int.reduceNeg, Int.reduceAdd, Int.reduceSub, Int.reduceToNat, hil'])); try simp only [SS, argList, aPut, aFill, ↓reduceIte, Nat.reduceEqDiff, Nat.reduceAdd, Nat.reduceLeDiff, reduceCtorEq, Int.reduceEq, Int.reduceLT, Int.reduceLE, Int.reduceNeg, Int.reduceAdd, Int.reduceSub, Int.reduceToNat, hil'])
    refine AWP_while [3, 51, 52, 53] (fun i : Nat => ds.length - i) (fun i => [.ptr σ.next 0 0 0, .list (ds.map defC), .int .i64 ds.length, .int .i64 i])
      (fun i s => i ≤ ds.length ∧ Kp t s ∧ ∀ x, x ∈ ds.take i → x.2.Sh) 0 ⟨by simp, .refl _, by simp⟩ ?_ ?_
    · try simp only [SS, argList, aPut, aFill, ↓reduceIte, Nat.reduceEqDiff, Nat.reduceAdd, Nat.reduceLeDiff, reduceCtorEq, Int.reduceEq, Int.reduceLT, Int.reduceLE, Int.reduceNeg, Int.reduceAdd, Int.reduceSub, Int.reduceToNat]
      repeat ((with_reducible first | refine AWP_seq ?_ | refine AWP_block ?_ | refine AWP_scope ?_ | refine AWP_reg ?_ | refine AWP_draw ?_ | refine AWP_skip ?_ | refine AWP_ret ?_ | refine AWP_exit ?_ | (refine AWP_cond_true ?_ ?_; · simp only [SS, argList, aPut, aFill, ↓reduceIte, Nat.reduceEqDiff, Nat.reduceAdd, Nat.reduceLeDiff, reduceCtorEq, Int.reduceEq, Int.reduceLT, Int.reduceLE, Int.reduceNeg, Int.reduceAdd, Int.reduceSub, Int.reduceToNat]) | (refine AWP_cond_false ?_ ?_; · simp only [SS, argList, aPut, aFill, ↓reduceIte, Nat.reduceEqDiff, Nat.reduceAdd, Nat.reduceLeDiff, reduceCtorEq, Int.reduceEq, Int.reduceLT, Int.reduceLE, Int.reduceNeg, Int.reduceAdd, Int.reduceSub, Int.reduceToNat])); try simp only [SS, argList, aPut, aFill, ↓reduceIte, Nat.reduceEqDiff, Nat.reduceAdd, Nat.reduceLeDiff, reduceCtorEq, Int.reduceEq, Int.reduceLT, Int.reduceLE, Int.reduceNeg, Int.reduceAdd, Int.reduceSub, Int.reduceToNat])
      rfl
    clear hw hil hil' hi
    rintro i t2 ⟨hi, k3, hall⟩
    have hw := wrap_succ (i := i) (by omega)
    by_cases hil : i < ds.length
    · have hil' : (i : Int) < (ds.length : Int) := by omega
      obtain ⟨x, hx⟩ : ∃ x, ds[i]? = some x := ⟨_, List.getElem?_eq_getElem hil⟩
      have hxm := List.mem_of_getElem? hx
      have hg : (ds.map defC)[i]? = some (defC x) := by simp [hx]
      have hxb := bulkD_le hxm
      try simp only [SS, argList, aPut, aFill, ↓reduceIte, Nat.reduceEqDiff, Nat.reduceAdd, Nat.reduceLeDiff, reduceCtorEq, Int.reduceEq, Int.reduceLT, Int.reduceLE, Int.reduceNeg, Int.reduceAdd, Int.reduceSub, Int.reduceToNat, hil', hg, defC, Cr.len, Cr.take9, str_nil]
      repeat' ((with_reducible first | refine AWP_seq ?_ | refine AWP_block ?_ | refine AWP_scope ?_ | refine AWP_reg ?_ | refine AWP_draw ?_ | refine AWP_skip ?_ | refine AWP_ret ?_ | refine AWP_exit ?_ | (refine ok_idx (by first | assumption | omega) (fun b hb => ?_)) | (refine ok_iad (by first | assumption | omega) (fun x hx hxm => ?_)) | (refine And.intro (by omega) ?_) | (refine AWP_cond_true ?_ ?_; · simp only [SS, argList, aPut, aFill, ↓reduceIte, Nat.reduceEqDiff, Nat.reduceAdd, Nat.reduceLeDiff, reduceCtorEq, Int.reduceEq, Int.reduceLT, Int.reduceLE, Int.reduceNeg, Int.reduceAdd, Int.reduceSub, Int.reduceToNat, hil', hg, defC, Cr.len, Cr.take9, str_nil, *]) | (refine AWP_cond_false ?_ ?_; · simp only [SS, argList, aPut, aFill, ↓reduceIte, Nat.reduceEqDiff, Nat.reduceAdd, Nat.reduceLeDiff, reduceCtorEq, Int.reduceEq, Int.reduceLT, Int.reduceLE, Int.reduceNeg, Int.reduceAdd, Int.reduceSub, Int.reduceToNat, hil', hg, defC, Cr.len, Cr.take9, str_nil, *]) | (refine guardW_b (fun h => ?_) (fun h => ?_) <;> try simp only [dec_t, dec_f, not_t, not_f] at h) | (refine ePick_b (fun h => ?_) (fun h => ?_) <;> try simp only [dec_t, dec_f, not_t, not_f] at h) | (refine AWP_cond_b (by simp only [SS, argList, aPut, aFill, ↓reduceIte, Nat.reduceEqDiff, Nat.reduceAdd, Nat.reduceLeDiff, reduceCtorEq, Int.reduceEq, Int.reduceLT, Int.reduceLE, Int.reduceNeg, Int.reduceAdd, Int.reduceSub, Int.reduceToNat]; exact rfl) (fun h => ?_) (fun h => ?_) <;> try simp only [dec_t, dec_f, not_t, not_f] at h) | (refine (rightN x.2 _ _ _ _ ((hc.keep k3).keep (.pushed _ _)) (by omega)).mono ?_; rintro _ _ ⟨⟨b, rfl, hb⟩, rfl⟩)) <;> (try simp only [SS, argList, aPut, aFill, ↓reduceIte, Nat.reduceEqDiff, Nat.reduceAdd, Nat.reduceLeDiff, reduceCtorEq, Int.reduceEq, Int.reduceLT, Int.reduceLE, Int.reduceNeg, Int.reduceAdd, Int.reduceSub, Int.reduceToNat, hil', hg, defC, Cr.len, Cr.take9, str_nil, *]))
      · exact FP.same (k2.trans (k3.push _)) RB.f (.bool _)
      · exact ⟨i + 1, rfl, ⟨by omega, k3.push _, all_succ hall hx (hb h)⟩, by omega⟩
    · have hil' : ¬ (i : Int) < (ds.length : Int) := by omega
      rw [List.take_of_length_le (by omega)] at hall
      try simp only [SS, argList, aPut, aFill, ↓reduceIte, Nat.reduceEqDiff, Nat.reduceAdd, Nat.reduceLeDiff, reduceCtorEq, Int.reduceEq, Int.reduceLT, Int.reduceLE, Int.reduceNeg, Int.reduceAdd, Int.reduceSub, Int.reduceToNat, hil']
      repeat ((with_reducible first | refine AWP_seq ?_ | refine AWP_block ?_ | refine AWP_scope ?_ | refine AWP_reg ?_ | refine AWP_draw ?_ | refine AWP_skip ?_ | refine AWP_ret ?_ | refine AWP_exit ?_ | (refine AWP_cond_true ?_ ?_; · simp only [SS, argList, aPut, aFill, ↓reduceIte, Nat.reduceEqDiff, Nat.reduceAdd, Nat.reduceLeDiff, reduceCtorEq, Int.reduceEq, Int.reduceLT, Int.reduceLE, Int.reduceNeg, Int.reduceAdd, Int.reduceSub, Int.reduceToNat, hil']) | (refine AWP_cond_false ?_ ?_; · simp only [SS, argList, aPut, aFill, ↓reduceIte, Nat.reduceEqDiff, Nat.reduceAdd, Nat.reduceLeDiff, reduceCtorEq, Int.reduceEq, Int.reduceLT, Int.reduceLE, Int.reduceNeg, Int.reduceAdd, Int.reduceSub, Int.reduceToNat, hil'])); try simp only [SS, argList, aPut, aFill, ↓reduceIte, Nat.reduceEqDiff, Nat.reduceAdd, Nat.reduceLeDiff, reduceCtorEq, Int.reduceEq, Int.reduceLT, Int.reduceLE, Int.reduceNeg, Int.reduceAdd, Int.reduceSub, Int.reduceToNat, hil'])
      exact FP.same (k2.trans k3) (RB.t hall) (.bool _)
end Go.Proofs.Ytjjbjibbjbbeaaa
