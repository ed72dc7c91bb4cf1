/- DeclFinds answers true. -/
import Derived.Test.YtoejjhehpbmgbaaAD8
set_option linter.unusedVariables false
set_option linter.unusedSimpArgs false
namespace Go.AL
/-- The constructors of a data type. -/
def DT.of (T : DT) (k : ByteArray) : List CON := T.cs.filter fun c => decide (c.data = k)
/-- Each constructor stands at its tag's place. -/
structure Tags (T : DT) (names : List ByteArray) : Prop where
  data : ∀ c, c ∈ T.cs → c.data ∈ names
  tag : ∀ c, c ∈ T.cs → ∃ i : Nat, (T.of c.data)[i]? = some c ∧ c.tag = i
theorem Tags.base : Tags baseT [sBool] := by
  refine ⟨fun c hc => ?_, fun c hc => ?_⟩
  · simp [baseT] at hc; rcases hc with rfl | rfl <;> simp [cFalse, cTrue]
  · simp [baseT] at hc
    rcases hc with rfl | rfl
    · exact ⟨0, by rfl, rfl⟩
    · exact ⟨1, by rfl, rfl⟩
/-- Some constructors of a data type behind the others. -/
theorem foldC_tags {d : DDM} (cs0 : List CON) : ∀ (l : List (CDM × Nat)) {T T' : DT} (k : Nat), (∀ j p, l[j]? = some p → p.2 = k + j) → (∃ X, T.cs = cs0 ++ X ∧ X.length = k ∧ ∀ (j : Nat) c, X[j]? = some c → c.data = d.name ∧ c.tag = j) → l.foldlM (stepC d) T = some T' →
    ∃ X, T'.cs = cs0 ++ X ∧ X.length = k + l.length ∧ ∀ (j : Nat) c, X[j]? = some c → c.data = d.name ∧ c.tag = j
  | [], T, T', k, _, hX, hf => by simp at hf; subst hf; simpa using hX
  | p :: l, T, T', k, hk, ⟨X, h1, h2, h3⟩, hf => by
    rw [List.foldlM_cons] at hf
    cases hs : stepC d T p with
    | none => rw [hs] at hf; cases hf
    | some T1 =>
      rw [hs] at hf
      obtain ⟨fl, _, _, _, rfl⟩ := stepC_ok hs
      have hp2 := hk 0 p rfl
      obtain ⟨Y, e1, e2, e3⟩ := foldC_tags cs0 l (k + 1) (fun j q hq => by have := hk (j + 1) q (by simpa using hq); omega) ⟨X ++ [⟨p.1.name, d.name, (p.2 : Int), d.params.length, fl⟩], by rw [h1, List.append_assoc], by simp [h2], fun j c hc => by
        by_cases hj : j < X.length
        · rw [List.getElem?_append_left hj] at hc; exact h3 j c hc
        · rw [List.getElem?_append_right (by omega)] at hc
          have hj0 : j - X.length = 0 := by have := (List.getElem?_eq_some_iff.mp hc).1; simp at this; omega
          rw [hj0] at hc
          simp at hc; subst hc
          exact ⟨rfl, by simp only; omega⟩⟩ hf
      exact ⟨Y, e1, by simp only [List.length_cons]; omega, e3⟩
theorem Tags.stepD {T T' : DT} {d : DDM} {names : List ByteArray} (h : Tags T names) (hn : ¬ d.name ∈ names) (hs : AL.stepD T d = some T') : Tags T' (d.name :: names) := by
  obtain ⟨X, e1, e2, e3⟩ := foldC_tags T.cs d.cons.zipIdx 0 (fun j p hp => by
    rw [List.getElem?_zipIdx] at hp
    cases hc : d.cons[j]? with
    | none => simp [hc] at hp
    | some c => simp [hc] at hp; subst hp; simp) ⟨[], by simp, rfl, by simp⟩ hs
  have hold : T.cs.filter (fun c => decide (c.data = d.name)) = [] := by
    rw [List.filter_eq_nil_iff]
    intro c hc e
    simp at e
    exact hn (e ▸ h.data c hc)
  have hnew : X.filter (fun c => decide (c.data = d.name)) = X := by
    rw [List.filter_eq_self]
    intro c hc
    obtain ⟨j, hj⟩ := List.mem_iff_getElem?.mp hc
    simp [(e3 j c hj).1]
  have hoth : ∀ k, k ≠ d.name → X.filter (fun c => decide (c.data = k)) = [] := by
    intro k hk
    rw [List.filter_eq_nil_iff]
    intro c hc e
    simp at e
    obtain ⟨j, hj⟩ := List.mem_iff_getElem?.mp hc
    exact hk (e.symm.trans (e3 j c hj).1)
  refine ⟨fun c hc => ?_, fun c hc => ?_⟩
  · rw [e1] at hc
    rcases List.mem_append.1 hc with hc | hc
    · simp [h.data c hc]
    · obtain ⟨j, hj⟩ := List.mem_iff_getElem?.mp hc
      simp [(e3 j c hj).1]
  · unfold DT.of
    rw [e1] at hc ⊢
    rw [List.filter_append]
    rcases List.mem_append.1 hc with hc | hc
    · have hne : c.data ≠ d.name := fun e => hn (e ▸ h.data c hc)
      rw [hoth _ hne, List.append_nil]
      exact h.tag c hc
    · obtain ⟨j, hj⟩ := List.mem_iff_getElem?.mp hc
      obtain ⟨k1, k2⟩ := e3 j c hj
      rw [k1, hold, hnew, List.nil_append]
      exact ⟨j, hj, k2⟩
theorem Tags.foldD : ∀ (l : List DDM) {T T' : DT} {names : List ByteArray}, Tags T names → (l.map (·.name)).Nodup → (∀ d, d ∈ l → ¬ d.name ∈ names) → l.foldlM AL.stepD T = some T' → ∃ ns, Tags T' ns
  | [], T, T', names, h, _, _, hf => by simp at hf; subst hf; exact ⟨names, h⟩
  | d :: l, T, T', names, h, hnd, hn, hf => by
    rw [List.foldlM_cons] at hf
    cases hs : AL.stepD T d with
    | none => rw [hs] at hf; cases hf
    | some T1 =>
      rw [hs] at hf
      simp only [List.map_cons, List.nodup_cons] at hnd
      exact Tags.foldD l (h.stepD (hn d (by simp)) hs) hnd.2 (fun e he => by
        simp only [List.mem_cons, not_or]
        exact ⟨fun x => hnd.1 (x ▸ List.mem_map.2 ⟨e, he, rfl⟩), hn e (by simp [he])⟩) hf
theorem mget_none {α : Type} {l : List (ByteArray × α)} {k : ByteArray} (h : mget l k = none) : ¬ k ∈ l.map (·.1) := by
  induction l with
  | nil => simp
  | cons p l ih =>
    rw [mget_cons] at h
    split at h
    · cases h
    · rename_i hc
      simp only [List.map_cons, List.mem_cons, not_or]
      exact ⟨fun e => hc e.symm, ih h⟩
theorem foldN_names : ∀ (l : List DDM) {T T' : DT}, (T.ps.map (·.1)).Nodup → l.foldlM stepN T = some T' → (T'.ps.map (·.1)).Nodup ∧ T'.ps.map (·.1) = T.ps.map (·.1) ++ l.map (·.name)
  | [], T, T', h, hf => by simp at hf; subst hf; simp [h]
  | d :: l, T, T', h, hf => by
    rw [List.foldlM_cons] at hf
    cases hs : stepN T d with
    | none => rw [hs] at hf; cases hf
    | some T1 =>
      rw [hs] at hf
      unfold stepN at hs
      split at hs
      · rename_i hz
        cases hs
        have hm : mget T.ps d.name = none := by
          unfold nameM at hz
          cases hm : mget T.ps d.name with
          | none => rfl
          | some x => simp [hm] at hz
        obtain ⟨h1, h2⟩ := foldN_names l (by
          simp only [List.map_append, List.map_cons, List.map_nil, List.nodup_append]
          exact ⟨h, by simp, fun a ha b hb e => by simp at hb; subst hb; subst e; exact mget_none hm ha⟩) hf
        exact ⟨h1, by rw [h2]; simp⟩
      · cases hs
def sumC (l : List DDM) : Nat := (l.map (·.cons.length)).sum
theorem foldD_sum : ∀ (l : List DDM) {T T' : DT}, l.foldlM stepD T = some T' → T'.cs.length = T.cs.length + sumC l
  | [], T, T', h => by simp at h; subst h; simp [sumC]
  | d :: l, T, T', h => by
    rw [List.foldlM_cons] at h
    cases hs : stepD T d with
    | none => rw [hs] at h; cases h
    | some T1 =>
      rw [hs] at h
      have h4 := (foldC_ok _ hs).2
      have h2 := foldD_sum l h
      simp at h4
      simp only [sumC, List.map_cons, List.sum_cons] at h2 ⊢
      omega
theorem newM_tags {l : List DDM} (hf : Few l) {T : DT} (h : newM l = some T) : T.cs.length = 2 + sumC l ∧ ∀ c, c ∈ T.cs → ∃ i : Nat, (T.of c.data)[i]? = some c ∧ c.tag = i := by
  obtain ⟨T0, h1, h2⟩ := newM_some h
  obtain ⟨hokp, hcs⟩ := foldN_ok _ (fun d hd => (hf.each d hd).2.1) okp_base h1
  obtain ⟨n1, n2⟩ := foldN_names l (by decide) h1
  rw [n2, List.nodup_append] at n1
  have hs := foldD_sum l h2
  rw [hcs] at hs
  refine ⟨hs, ?_⟩
  have hb : Tags T0 [sBool] := ⟨by rw [hcs]; exact Tags.base.data, by unfold DT.of; rw [hcs]; exact Tags.base.tag⟩
  obtain ⟨ns, ht⟩ := Tags.foldD l hb n1.2.1 (fun d hd hm => by
    simp at hm
    exact n1.2.2 sBool (by simp [baseT]) d.name (List.mem_map.2 ⟨d, hd, rfl⟩) hm.symm) h2
  exact ht.tag
end Go.AL
namespace Go.Proofs.Ytoejjhehpbmgbaa
open Go.AL
theorem cons_ok {σ : Store} {tid pm cm : Nat} {ces : List (AV × AV)} {ov : AV} {T : DT} (h : TblAt σ tid pm cm ces ov T) (ht : Tok T) (hl : T.cs.length ≤ 1000000) (k : ByteArray) :
    ACalls Try.prog 34 [.ptr tid 0 0 0, .str k] σ fun r σ' => r = .list ((T.of k).map CON.cells) ∧ σ' = σ := by
  refine ACalls_fp (p := fun r => r = .list ((T.of k).map CON.cells)) ?_
  refine in34 (by simp) ?_
  unfold c34
  try simp only [SS, argList, aPut, aFill, ↓reduceIte, Nat.reduceEqDiff, Nat.reduceAdd, Nat.reduceLeDiff, reduceCtorEq, Int.reduceEq, Int.reduceLT, Int.reduceLE, Int.reduceNeg, Int.reduceAdd, Int.reduceSub, Int.reduceToNat]
  repeat ((with_reducible first | refine AWP_seq ?_ | refine AWP_block ?_ | refine AWP_scope ?_ | refine AWP_reg ?_ | refine AWP_draw ?_ | refine AWP_skip ?_ | refine AWP_ret ?_ | refine AWP_exit ?_ | (refine AWP_cond_true ?_ ?_; · simp only [SS, argList, aPut, aFill, ↓reduceIte, Nat.reduceEqDiff, Nat.reduceAdd, Nat.reduceLeDiff, reduceCtorEq, Int.reduceEq, Int.reduceLT, Int.reduceLE, Int.reduceNeg, Int.reduceAdd, Int.reduceSub, Int.reduceToNat]) | (refine AWP_cond_false ?_ ?_; · simp only [SS, argList, aPut, aFill, ↓reduceIte, Nat.reduceEqDiff, Nat.reduceAdd, Nat.reduceLeDiff, reduceCtorEq, Int.reduceEq, Int.reduceLT, Int.reduceLE, Int.reduceNeg, Int.reduceAdd, Int.reduceSub, Int.reduceToNat])); try simp only [SS, argList, aPut, aFill, ↓reduceIte, Nat.reduceEqDiff, Nat.reduceAdd, Nat.reduceLeDiff, reduceCtorEq, Int.reduceEq, Int.reduceLT, Int.reduceLE, Int.reduceNeg, Int.reduceAdd, Int.reduceSub, Int.reduceToNat])
  refine (all_ok' h ht.sm ht.nd hl).mono ?_
  rintro r s ⟨rfl, rfl⟩
  try simp only [SS, argList, aPut, aFill, ↓reduceIte, Nat.reduceEqDiff, Nat.reduceAdd, Nat.reduceLeDiff, reduceCtorEq, Int.reduceEq, Int.reduceLT, Int.reduceLE, Int.reduceNeg, Int.reduceAdd, Int.reduceSub, Int.reduceToNat]
  repeat ((with_reducible first | refine AWP_seq ?_ | refine AWP_block ?_ | refine AWP_scope ?_ | refine AWP_reg ?_ | refine AWP_draw ?_ | refine AWP_skip ?_ | refine AWP_ret ?_ | refine AWP_exit ?_ | (refine AWP_cond_true ?_ ?_; · simp only [SS, argList, aPut, aFill, ↓reduceIte, Nat.reduceEqDiff, Nat.reduceAdd, Nat.reduceLeDiff, reduceCtorEq, Int.reduceEq, Int.reduceLT, Int.reduceLE, Int.reduceNeg, Int.reduceAdd, Int.reduceSub, Int.reduceToNat]) | (refine AWP_cond_false ?_ ?_; · simp only [SS, argList, aPut, aFill, ↓reduceIte, Nat.reduceEqDiff, Nat.reduceAdd, Nat.reduceLeDiff, reduceCtorEq, Int.reduceEq, Int.reduceLT, Int.reduceLE, Int.reduceNeg, Int.reduceAdd, Int.reduceSub, Int.reduceToNat])); try simp only [SS, argList, aPut, aFill, ↓reduceIte, Nat.reduceEqDiff, Nat.reduceAdd, Nat.reduceLeDiff, reduceCtorEq, Int.reduceEq, Int.reduceLT, Int.reduceLE, Int.reduceNeg, Int.reduceAdd, Int.reduceSub, Int.reduceToNat])
  refine AWP_while [1, 5, 9, 10, 11] (fun y : AV × Nat => T.cs.length - y.2) (fun y => [.str k, y.1, .list (T.cs.map CON.cells), .int .i64 T.cs.length, .int .i64 y.2])
    (fun y t => y.2 ≤ T.cs.length ∧ Grow s t y.1 78 5 (((T.cs.take y.2).filter fun c => decide (c.data = k)).map CON.cells)) (.nils, 0) ⟨by simp, .start _ _ _⟩ ?_ ?_
  · try simp only [SS, argList, aPut, aFill, ↓reduceIte, Nat.reduceEqDiff, Nat.reduceAdd, Nat.reduceLeDiff, reduceCtorEq, Int.reduceEq, Int.reduceLT, Int.reduceLE, Int.reduceNeg, Int.reduceAdd, Int.reduceSub, Int.reduceToNat]
    repeat ((with_reducible first | refine AWP_seq ?_ | refine AWP_block ?_ | refine AWP_scope ?_ | refine AWP_reg ?_ | refine AWP_draw ?_ | refine AWP_skip ?_ | refine AWP_ret ?_ | refine AWP_exit ?_ | (refine AWP_cond_true ?_ ?_; · simp only [SS, argList, aPut, aFill, ↓reduceIte, Nat.reduceEqDiff, Nat.reduceAdd, Nat.reduceLeDiff, reduceCtorEq, Int.reduceEq, Int.reduceLT, Int.reduceLE, Int.reduceNeg, Int.reduceAdd, Int.reduceSub, Int.reduceToNat]) | (refine AWP_cond_false ?_ ?_; · simp only [SS, argList, aPut, aFill, ↓reduceIte, Nat.reduceEqDiff, Nat.reduceAdd, Nat.reduceLeDiff, reduceCtorEq, Int.reduceEq, Int.reduceLT, Int.reduceLE, Int.reduceNeg, Int.reduceAdd, Int.reduceSub, Int.reduceToNat])); try simp only [SS, argList, aPut, aFill, ↓reduceIte, Nat.reduceEqDiff, Nat.reduceAdd, Nat.reduceLeDiff, reduceCtorEq, Int.reduceEq, Int.reduceLT, Int.reduceLE, Int.reduceNeg, Int.reduceAdd, Int.reduceSub, Int.reduceToNat])
    rfl
  · rintro ⟨v, i⟩ t ⟨hi, hG⟩
    simp only at hi hG
    by_cases hil : i < T.cs.length
    · have hil' : (i : Int) < (T.cs.length : Int) := by omega
      obtain ⟨c, hc⟩ : ∃ c, T.cs[i]? = some c := ⟨_, List.getElem?_eq_getElem hil⟩
      have hg : (T.cs.map CON.cells)[i]? = some c.cells := by simp [hc]
      have hfl : ((T.cs.take i).filter fun c => decide (c.data = k)).length ≤ 1000000 := Nat.le_trans (List.length_filter_le _ _) (by simp; omega)
      by_cases hck : c.data = k
      · try simp only [SS, argList, aPut, aFill, ↓reduceIte, Nat.reduceEqDiff, Nat.reduceAdd, Nat.reduceLeDiff, reduceCtorEq, Int.reduceEq, Int.reduceLT, Int.reduceLE, Int.reduceNeg, Int.reduceAdd, Int.reduceSub, Int.reduceToNat, hil', hg, CON.cells, CON.cellsV, hck]
        repeat ((with_reducible first | refine AWP_seq ?_ | refine AWP_block ?_ | refine AWP_scope ?_ | refine AWP_reg ?_ | refine AWP_draw ?_ | refine AWP_skip ?_ | refine AWP_ret ?_ | refine AWP_exit ?_ | (refine AWP_cond_true ?_ ?_; · simp only [SS, argList, aPut, aFill, ↓reduceIte, Nat.reduceEqDiff, Nat.reduceAdd, Nat.reduceLeDiff, reduceCtorEq, Int.reduceEq, Int.reduceLT, Int.reduceLE, Int.reduceNeg, Int.reduceAdd, Int.reduceSub, Int.reduceToNat, hil', hg, CON.cells, CON.cellsV, hck]) | (refine AWP_cond_false ?_ ?_; · simp only [SS, argList, aPut, aFill, ↓reduceIte, Nat.reduceEqDiff, Nat.reduceAdd, Nat.reduceLeDiff, reduceCtorEq, Int.reduceEq, Int.reduceLT, Int.reduceLE, Int.reduceNeg, Int.reduceAdd, Int.reduceSub, Int.reduceToNat, hil', hg, CON.cells, CON.cellsV, hck])); try simp only [SS, argList, aPut, aFill, ↓reduceIte, Nat.reduceEqDiff, Nat.reduceAdd, Nat.reduceLeDiff, reduceCtorEq, Int.reduceEq, Int.reduceLT, Int.reduceLE, Int.reduceNeg, Int.reduceAdd, Int.reduceSub, Int.reduceToNat, hil', hg, CON.cells, CON.cellsV, hck])
        refine ok_grow (hG.push _) (by simp) (by simp; omega) (by simp [maxLen]; omega) ?_
        intro v' t3 hG3 _ _
        try simp only [SS, argList, aPut, aFill, ↓reduceIte, Nat.reduceEqDiff, Nat.reduceAdd, Nat.reduceLeDiff, reduceCtorEq, Int.reduceEq, Int.reduceLT, Int.reduceLE, Int.reduceNeg, Int.reduceAdd, Int.reduceSub, Int.reduceToNat, wrap_succ (i := i) (by omega)]
        repeat ((with_reducible first | refine AWP_seq ?_ | refine AWP_block ?_ | refine AWP_scope ?_ | refine AWP_reg ?_ | refine AWP_draw ?_ | refine AWP_skip ?_ | refine AWP_ret ?_ | refine AWP_exit ?_ | (refine AWP_cond_true ?_ ?_; · simp only [SS, argList, aPut, aFill, ↓reduceIte, Nat.reduceEqDiff, Nat.reduceAdd, Nat.reduceLeDiff, reduceCtorEq, Int.reduceEq, Int.reduceLT, Int.reduceLE, Int.reduceNeg, Int.reduceAdd, Int.reduceSub, Int.reduceToNat, wrap_succ (i := i) (by omega)]) | (refine AWP_cond_false ?_ ?_; · simp only [SS, argList, aPut, aFill, ↓reduceIte, Nat.reduceEqDiff, Nat.reduceAdd, Nat.reduceLeDiff, reduceCtorEq, Int.reduceEq, Int.reduceLT, Int.reduceLE, Int.reduceNeg, Int.reduceAdd, Int.reduceSub, Int.reduceToNat, wrap_succ (i := i) (by omega)])); try simp only [SS, argList, aPut, aFill, ↓reduceIte, Nat.reduceEqDiff, Nat.reduceAdd, Nat.reduceLeDiff, reduceCtorEq, Int.reduceEq, Int.reduceLT, Int.reduceLE, Int.reduceNeg, Int.reduceAdd, Int.reduceSub, Int.reduceToNat, wrap_succ (i := i) (by omega)])
        refine ⟨(v', i + 1), rfl, ⟨by simp only; omega, ?_⟩, by simp only; omega⟩
        have : ((T.cs.take (i + 1)).filter fun c => decide (c.data = k)).map CON.cells = ((T.cs.take i).filter fun c => decide (c.data = k)).map CON.cells ++ [c.cells] := by rw [List.take_add_one, hc, List.filter_append]; simp [hck]
        simp only [this]
        simpa [CON.cells, CON.cellsV, hck] using hG3
      · try simp only [SS, argList, aPut, aFill, ↓reduceIte, Nat.reduceEqDiff, Nat.reduceAdd, Nat.reduceLeDiff, reduceCtorEq, Int.reduceEq, Int.reduceLT, Int.reduceLE, Int.reduceNeg, Int.reduceAdd, Int.reduceSub, Int.reduceToNat, hil', hg, CON.cells, CON.cellsV, hck, wrap_succ (i := i) (by omega)]
        repeat ((with_reducible first | refine AWP_seq ?_ | refine AWP_block ?_ | refine AWP_scope ?_ | refine AWP_reg ?_ | refine AWP_draw ?_ | refine AWP_skip ?_ | refine AWP_ret ?_ | refine AWP_exit ?_ | (refine AWP_cond_true ?_ ?_; · simp only [SS, argList, aPut, aFill, ↓reduceIte, Nat.reduceEqDiff, Nat.reduceAdd, Nat.reduceLeDiff, reduceCtorEq, Int.reduceEq, Int.reduceLT, Int.reduceLE, Int.reduceNeg, Int.reduceAdd, Int.reduceSub, Int.reduceToNat, hil', hg, CON.cells, CON.cellsV, hck, wrap_succ (i := i) (by omega)]) | (refine AWP_cond_false ?_ ?_; · simp only [SS, argList, aPut, aFill, ↓reduceIte, Nat.reduceEqDiff, Nat.reduceAdd, Nat.reduceLeDiff, reduceCtorEq, Int.reduceEq, Int.reduceLT, Int.reduceLE, Int.reduceNeg, Int.reduceAdd, Int.reduceSub, Int.reduceToNat, hil', hg, CON.cells, CON.cellsV, hck, wrap_succ (i := i) (by omega)])); try simp only [SS, argList, aPut, aFill, ↓reduceIte, Nat.reduceEqDiff, Nat.reduceAdd, Nat.reduceLeDiff, reduceCtorEq, Int.reduceEq, Int.reduceLT, Int.reduceLE, Int.reduceNeg, Int.reduceAdd, Int.reduceSub, Int.reduceToNat, hil', hg, CON.cells, CON.cellsV, hck, wrap_succ (i := i) (by omega)])
        refine ⟨(v, i + 1), rfl, ⟨by simp only; omega, ?_⟩, by simp only; omega⟩
        have : (T.cs.take (i + 1)).filter (fun c => decide (c.data = k)) = (T.cs.take i).filter fun c => decide (c.data = k) := by rw [List.take_add_one, hc, List.filter_append]; simp [hck]
        simp only [this]
        exact hG.push _
    · have hil' : ¬ (i : Int) < (T.cs.length : Int) := by omega
      rw [List.take_of_length_le (by omega)] at hG
      try simp only [SS, argList, aPut, aFill, ↓reduceIte, Nat.reduceEqDiff, Nat.reduceAdd, Nat.reduceLeDiff, reduceCtorEq, Int.reduceEq, Int.reduceLT, Int.reduceLE, Int.reduceNeg, Int.reduceAdd, Int.reduceSub, Int.reduceToNat, hil']
      repeat ((with_reducible first | refine AWP_seq ?_ | refine AWP_block ?_ | refine AWP_scope ?_ | refine AWP_reg ?_ | refine AWP_draw ?_ | refine AWP_skip ?_ | refine AWP_ret ?_ | refine AWP_exit ?_ | (refine AWP_cond_true ?_ ?_; · simp only [SS, argList, aPut, aFill, ↓reduceIte, Nat.reduceEqDiff, Nat.reduceAdd, Nat.reduceLeDiff, reduceCtorEq, Int.reduceEq, Int.reduceLT, Int.reduceLE, Int.reduceNeg, Int.reduceAdd, Int.reduceSub, Int.reduceToNat, hil']) | (refine AWP_cond_false ?_ ?_; · simp only [SS, argList, aPut, aFill, ↓reduceIte, Nat.reduceEqDiff, Nat.reduceAdd, Nat.reduceLeDiff, reduceCtorEq, Int.reduceEq, Int.reduceLT, Int.reduceLE, Int.reduceNeg, Int.reduceAdd, Int.reduceSub, Int.reduceToNat, hil'])); try simp only [SS, argList, aPut, aFill, ↓reduceIte, Nat.reduceEqDiff, Nat.reduceAdd, Nat.reduceLeDiff, reduceCtorEq, Int.reduceEq, Int.reduceLT, Int.reduceLE, Int.reduceNeg, Int.reduceAdd, Int.reduceSub, Int.reduceToNat, hil'])
      refine FP.mk _ hG.sl .here rfl (.list' fun e he c hc => ?_) hG.kp (fun j hj => hG.fresh j hj)
      simp at he
      obtain ⟨y, hy, rfl⟩ := he
      exact y.cln c hc
theorem law10 (σ : Store) (l : List DDM) : ACalls Try.prog 10 [.list (l.map DDM.cells)] σ fun r σ' => r = .bool true := by
  refine in10 (by simp) ?_
  unfold c10
  try simp only [SS, argList, aPut, aFill, ↓reduceIte, Nat.reduceEqDiff, Nat.reduceAdd, Nat.reduceLeDiff, reduceCtorEq, Int.reduceEq, Int.reduceLT, Int.reduceLE, Int.reduceNeg, Int.reduceAdd, Int.reduceSub, Int.reduceToNat]
  repeat ((with_reducible first | refine AWP_seq ?_ | refine AWP_block ?_ | refine AWP_scope ?_ | refine AWP_reg ?_ | refine AWP_draw ?_ | refine AWP_skip ?_ | refine AWP_ret ?_ | refine AWP_exit ?_ | (refine AWP_cond_true ?_ ?_; · simp only [SS, argList, aPut, aFill, ↓reduceIte, Nat.reduceEqDiff, Nat.reduceAdd, Nat.reduceLeDiff, reduceCtorEq, Int.reduceEq, Int.reduceLT, Int.reduceLE, Int.reduceNeg, Int.reduceAdd, Int.reduceSub, Int.reduceToNat]) | (refine AWP_cond_false ?_ ?_; · simp only [SS, argList, aPut, aFill, ↓reduceIte, Nat.reduceEqDiff, Nat.reduceAdd, Nat.reduceLeDiff, reduceCtorEq, Int.reduceEq, Int.reduceLT, Int.reduceLE, Int.reduceNeg, Int.reduceAdd, Int.reduceSub, Int.reduceToNat])); try simp only [SS, argList, aPut, aFill, ↓reduceIte, Nat.reduceEqDiff, Nat.reduceAdd, Nat.reduceLeDiff, reduceCtorEq, Int.reduceEq, Int.reduceLT, Int.reduceLE, Int.reduceNeg, Int.reduceAdd, Int.reduceSub, Int.reduceToNat])
  refine (few_ok' l _).mono ?_
  rintro r s ⟨rfl, rfl⟩
  by_cases hl : fewM l
  · have hF : Few l := ⟨by have := hl.1; omega, hl.2⟩
    have hl30 := hl.1
    try simp only [SS, argList, aPut, aFill, ↓reduceIte, Nat.reduceEqDiff, Nat.reduceAdd, Nat.reduceLeDiff, reduceCtorEq, Int.reduceEq, Int.reduceLT, Int.reduceLE, Int.reduceNeg, Int.reduceAdd, Int.reduceSub, Int.reduceToNat, hl]
    repeat ((with_reducible first | refine AWP_seq ?_ | refine AWP_block ?_ | refine AWP_scope ?_ | refine AWP_reg ?_ | refine AWP_draw ?_ | refine AWP_skip ?_ | refine AWP_ret ?_ | refine AWP_exit ?_ | (refine AWP_cond_true ?_ ?_; · simp only [SS, argList, aPut, aFill, ↓reduceIte, Nat.reduceEqDiff, Nat.reduceAdd, Nat.reduceLeDiff, reduceCtorEq, Int.reduceEq, Int.reduceLT, Int.reduceLE, Int.reduceNeg, Int.reduceAdd, Int.reduceSub, Int.reduceToNat, hl]) | (refine AWP_cond_false ?_ ?_; · simp only [SS, argList, aPut, aFill, ↓reduceIte, Nat.reduceEqDiff, Nat.reduceAdd, Nat.reduceLeDiff, reduceCtorEq, Int.reduceEq, Int.reduceLT, Int.reduceLE, Int.reduceNeg, Int.reduceAdd, Int.reduceSub, Int.reduceToNat, hl])); try simp only [SS, argList, aPut, aFill, ↓reduceIte, Nat.reduceEqDiff, Nat.reduceAdd, Nat.reduceLeDiff, reduceCtorEq, Int.reduceEq, Int.reduceLT, Int.reduceLE, Int.reduceNeg, Int.reduceAdd, Int.reduceSub, Int.reduceToNat, hl])
    refine (new_ok' _ l hF).mono ?_
    rintro r s1 (⟨T, tid, hT, rfl, pm, cm, ces, ov, hA, hFr⟩ | ⟨h, e, a, b, he, rfl, hk⟩)
    · obtain ⟨tT, tl⟩ := newM_tok hF hT
      obtain ⟨hsum, htag⟩ := newM_tags hF hT
      have hA1 := hA.kp (.pushed s1 (.cells 69 0 3 [[.int .i64 0, .int .i64 0, .int .i64 0]]))
      have hl1000 : T.cs.length ≤ 1000 := by have := hF.len; omega
      try simp only [SS, argList, aPut, aFill, ↓reduceIte, Nat.reduceEqDiff, Nat.reduceAdd, Nat.reduceLeDiff, reduceCtorEq, Int.reduceEq, Int.reduceLT, Int.reduceLE, Int.reduceNeg, Int.reduceAdd, Int.reduceSub, Int.reduceToNat]
      repeat ((with_reducible first | refine AWP_seq ?_ | refine AWP_block ?_ | refine AWP_scope ?_ | refine AWP_reg ?_ | refine AWP_draw ?_ | refine AWP_skip ?_ | refine AWP_ret ?_ | refine AWP_exit ?_ | (refine AWP_cond_true ?_ ?_; · simp only [SS, argList, aPut, aFill, ↓reduceIte, Nat.reduceEqDiff, Nat.reduceAdd, Nat.reduceLeDiff, reduceCtorEq, Int.reduceEq, Int.reduceLT, Int.reduceLE, Int.reduceNeg, Int.reduceAdd, Int.reduceSub, Int.reduceToNat]) | (refine AWP_cond_false ?_ ?_; · simp only [SS, argList, aPut, aFill, ↓reduceIte, Nat.reduceEqDiff, Nat.reduceAdd, Nat.reduceLeDiff, reduceCtorEq, Int.reduceEq, Int.reduceLT, Int.reduceLE, Int.reduceNeg, Int.reduceAdd, Int.reduceSub, Int.reduceToNat])); try simp only [SS, argList, aPut, aFill, ↓reduceIte, Nat.reduceEqDiff, Nat.reduceAdd, Nat.reduceLeDiff, reduceCtorEq, Int.reduceEq, Int.reduceLT, Int.reduceLE, Int.reduceNeg, Int.reduceAdd, Int.reduceSub, Int.reduceToNat])
      refine (all_ok' hA1 tT.sm tT.nd (by omega)).mono ?_
      rintro r s2 ⟨rfl, rfl⟩
      try simp only [SS, argList, aPut, aFill, ↓reduceIte, Nat.reduceEqDiff, Nat.reduceAdd, Nat.reduceLeDiff, reduceCtorEq, Int.reduceEq, Int.reduceLT, Int.reduceLE, Int.reduceNeg, Int.reduceAdd, Int.reduceSub, Int.reduceToNat]
      repeat ((with_reducible first | refine AWP_seq ?_ | refine AWP_block ?_ | refine AWP_scope ?_ | refine AWP_reg ?_ | refine AWP_draw ?_ | refine AWP_skip ?_ | refine AWP_ret ?_ | refine AWP_exit ?_ | (refine AWP_cond_true ?_ ?_; · simp only [SS, argList, aPut, aFill, ↓reduceIte, Nat.reduceEqDiff, Nat.reduceAdd, Nat.reduceLeDiff, reduceCtorEq, Int.reduceEq, Int.reduceLT, Int.reduceLE, Int.reduceNeg, Int.reduceAdd, Int.reduceSub, Int.reduceToNat]) | (refine AWP_cond_false ?_ ?_; · simp only [SS, argList, aPut, aFill, ↓reduceIte, Nat.reduceEqDiff, Nat.reduceAdd, Nat.reduceLeDiff, reduceCtorEq, Int.reduceEq, Int.reduceLT, Int.reduceLE, Int.reduceNeg, Int.reduceAdd, Int.reduceSub, Int.reduceToNat])); try simp only [SS, argList, aPut, aFill, ↓reduceIte, Nat.reduceEqDiff, Nat.reduceAdd, Nat.reduceLeDiff, reduceCtorEq, Int.reduceEq, Int.reduceLT, Int.reduceLE, Int.reduceNeg, Int.reduceAdd, Int.reduceSub, Int.reduceToNat])
      generalize s1.push (.cells 69 0 3 [[.int .i64 0, .int .i64 0, .int .i64 0]]) = s2 at hA1 ⊢
      refine AWP_while [0, 3, 5, 6, 7] (fun i : Nat => l.length - i) (fun i => [.list (l.map DDM.cells), .ptr tid 0 0 0, .list (T.cs.map CON.cells), .int .i64 ((2 + sumC (l.take i) : Nat) : Int), .int .i64 i])
        (fun i t => t = s2 ∧ i ≤ l.length) 0 ⟨rfl, by omega⟩ ?_ ?_
      · try simp only [SS, argList, aPut, aFill, ↓reduceIte, Nat.reduceEqDiff, Nat.reduceAdd, Nat.reduceLeDiff, reduceCtorEq, Int.reduceEq, Int.reduceLT, Int.reduceLE, Int.reduceNeg, Int.reduceAdd, Int.reduceSub, Int.reduceToNat]
        repeat ((with_reducible first | refine AWP_seq ?_ | refine AWP_block ?_ | refine AWP_scope ?_ | refine AWP_reg ?_ | refine AWP_draw ?_ | refine AWP_skip ?_ | refine AWP_ret ?_ | refine AWP_exit ?_ | (refine AWP_cond_true ?_ ?_; · simp only [SS, argList, aPut, aFill, ↓reduceIte, Nat.reduceEqDiff, Nat.reduceAdd, Nat.reduceLeDiff, reduceCtorEq, Int.reduceEq, Int.reduceLT, Int.reduceLE, Int.reduceNeg, Int.reduceAdd, Int.reduceSub, Int.reduceToNat]) | (refine AWP_cond_false ?_ ?_; · simp only [SS, argList, aPut, aFill, ↓reduceIte, Nat.reduceEqDiff, Nat.reduceAdd, Nat.reduceLeDiff, reduceCtorEq, Int.reduceEq, Int.reduceLT, Int.reduceLE, Int.reduceNeg, Int.reduceAdd, Int.reduceSub, Int.reduceToNat])); try simp only [SS, argList, aPut, aFill, ↓reduceIte, Nat.reduceEqDiff, Nat.reduceAdd, Nat.reduceLeDiff, reduceCtorEq, Int.reduceEq, Int.reduceLT, Int.reduceLE, Int.reduceNeg, Int.reduceAdd, Int.reduceSub, Int.reduceToNat])
        simp [sumC]
      · rintro i t ⟨rfl, hi⟩
        have hmono : sumC (l.take i) ≤ sumC l := by
          have : sumC l = sumC (l.take i) + sumC (l.drop i) := by
            unfold sumC
            rw [← List.sum_append, ← List.map_append, List.take_append_drop]
          omega
        by_cases hil : i < l.length
        · have hil' : (i : Int) < (l.length : Int) := by omega
          obtain ⟨d, hd⟩ : ∃ x, l[i]? = some x := ⟨_, List.getElem?_eq_getElem hil⟩
          have hg : (l.map DDM.cells)[i]? = some d.cells := by simp [hd]
          have hdl := (hl.2 d (List.mem_of_getElem? hd)).1
          have hs : sumC (l.take (i + 1)) = sumC (l.take i) + d.cons.length := by unfold sumC; rw [List.take_add_one, hd]; simp
          have hw : IntKind.i64.wrap (((2 + sumC (l.take i) : Nat) : Int) + (d.cons.length : Int)) = ((2 + sumC (l.take (i + 1)) : Nat) : Int) := by rw [wrap_of (by omega) (by omega)]; omega
          try simp only [SS, argList, aPut, aFill, ↓reduceIte, Nat.reduceEqDiff, Nat.reduceAdd, Nat.reduceLeDiff, reduceCtorEq, Int.reduceEq, Int.reduceLT, Int.reduceLE, Int.reduceNeg, Int.reduceAdd, Int.reduceSub, Int.reduceToNat, hil', hg, DDM.cells, hw, wrap_succ (i := i) (by omega)]
          repeat ((with_reducible first | refine AWP_seq ?_ | refine AWP_block ?_ | refine AWP_scope ?_ | refine AWP_reg ?_ | refine AWP_draw ?_ | refine AWP_skip ?_ | refine AWP_ret ?_ | refine AWP_exit ?_ | (refine AWP_cond_true ?_ ?_; · simp only [SS, argList, aPut, aFill, ↓reduceIte, Nat.reduceEqDiff, Nat.reduceAdd, Nat.reduceLeDiff, reduceCtorEq, Int.reduceEq, Int.reduceLT, Int.reduceLE, Int.reduceNeg, Int.reduceAdd, Int.reduceSub, Int.reduceToNat, hil', hg, DDM.cells, hw, wrap_succ (i := i) (by omega)]) | (refine AWP_cond_false ?_ ?_; · simp only [SS, argList, aPut, aFill, ↓reduceIte, Nat.reduceEqDiff, Nat.reduceAdd, Nat.reduceLeDiff, reduceCtorEq, Int.reduceEq, Int.reduceLT, Int.reduceLE, Int.reduceNeg, Int.reduceAdd, Int.reduceSub, Int.reduceToNat, hil', hg, DDM.cells, hw, wrap_succ (i := i) (by omega)])); try simp only [SS, argList, aPut, aFill, ↓reduceIte, Nat.reduceEqDiff, Nat.reduceAdd, Nat.reduceLeDiff, reduceCtorEq, Int.reduceEq, Int.reduceLT, Int.reduceLE, Int.reduceNeg, Int.reduceAdd, Int.reduceSub, Int.reduceToNat, hil', hg, DDM.cells, hw, wrap_succ (i := i) (by omega)])
          exact ⟨i + 1, rfl, by omega, by omega⟩
        · have hil' : ¬ (i : Int) < (l.length : Int) := by omega
          have hse : ((T.cs.length : Int) = ((2 + sumC (l.take i) : Nat) : Int)) = True := by rw [List.take_of_length_le (by omega)]; simp; omega
          try simp only [SS, argList, aPut, aFill, ↓reduceIte, Nat.reduceEqDiff, Nat.reduceAdd, Nat.reduceLeDiff, reduceCtorEq, Int.reduceEq, Int.reduceLT, Int.reduceLE, Int.reduceNeg, Int.reduceAdd, Int.reduceSub, Int.reduceToNat, hil', hse]
          repeat ((with_reducible first | refine AWP_seq ?_ | refine AWP_block ?_ | refine AWP_scope ?_ | refine AWP_reg ?_ | refine AWP_draw ?_ | refine AWP_skip ?_ | refine AWP_ret ?_ | refine AWP_exit ?_ | (refine AWP_cond_true ?_ ?_; · simp only [SS, argList, aPut, aFill, ↓reduceIte, Nat.reduceEqDiff, Nat.reduceAdd, Nat.reduceLeDiff, reduceCtorEq, Int.reduceEq, Int.reduceLT, Int.reduceLE, Int.reduceNeg, Int.reduceAdd, Int.reduceSub, Int.reduceToNat, hil', hse]) | (refine AWP_cond_false ?_ ?_; · simp only [SS, argList, aPut, aFill, ↓reduceIte, Nat.reduceEqDiff, Nat.reduceAdd, Nat.reduceLeDiff, reduceCtorEq, Int.reduceEq, Int.reduceLT, Int.reduceLE, Int.reduceNeg, Int.reduceAdd, Int.reduceSub, Int.reduceToNat, hil', hse])); try simp only [SS, argList, aPut, aFill, ↓reduceIte, Nat.reduceEqDiff, Nat.reduceAdd, Nat.reduceLeDiff, reduceCtorEq, Int.reduceEq, Int.reduceLT, Int.reduceLE, Int.reduceNeg, Int.reduceAdd, Int.reduceSub, Int.reduceToNat, hil', hse])
          refine AWP_while [3, 5, 8] (fun i : Nat => T.cs.length - i) (fun i => [.ptr tid 0 0 0, .list (T.cs.map CON.cells), .int .i64 i])
            (fun i u => Kp t u ∧ i ≤ T.cs.length) 0 ⟨.refl _, by omega⟩ ?_ ?_
          · try simp only [SS, argList, aPut, aFill, ↓reduceIte, Nat.reduceEqDiff, Nat.reduceAdd, Nat.reduceLeDiff, reduceCtorEq, Int.reduceEq, Int.reduceLT, Int.reduceLE, Int.reduceNeg, Int.reduceAdd, Int.reduceSub, Int.reduceToNat]
            repeat ((with_reducible first | refine AWP_seq ?_ | refine AWP_block ?_ | refine AWP_scope ?_ | refine AWP_reg ?_ | refine AWP_draw ?_ | refine AWP_skip ?_ | refine AWP_ret ?_ | refine AWP_exit ?_ | (refine AWP_cond_true ?_ ?_; · simp only [SS, argList, aPut, aFill, ↓reduceIte, Nat.reduceEqDiff, Nat.reduceAdd, Nat.reduceLeDiff, reduceCtorEq, Int.reduceEq, Int.reduceLT, Int.reduceLE, Int.reduceNeg, Int.reduceAdd, Int.reduceSub, Int.reduceToNat]) | (refine AWP_cond_false ?_ ?_; · simp only [SS, argList, aPut, aFill, ↓reduceIte, Nat.reduceEqDiff, Nat.reduceAdd, Nat.reduceLeDiff, reduceCtorEq, Int.reduceEq, Int.reduceLT, Int.reduceLE, Int.reduceNeg, Int.reduceAdd, Int.reduceSub, Int.reduceToNat])); try simp only [SS, argList, aPut, aFill, ↓reduceIte, Nat.reduceEqDiff, Nat.reduceAdd, Nat.reduceLeDiff, reduceCtorEq, Int.reduceEq, Int.reduceLT, Int.reduceLE, Int.reduceNeg, Int.reduceAdd, Int.reduceSub, Int.reduceToNat])
            rfl
          · clear hil hil' hse hmono hi
            rintro i u ⟨hk, hi⟩
            by_cases hil : i < T.cs.length
            · have hil' : (i : Int) < (T.cs.length : Int) := by omega
              obtain ⟨c, hc⟩ : ∃ c, T.cs[i]? = some c := ⟨_, List.getElem?_eq_getElem hil⟩
              have hcm := List.mem_of_getElem? hc
              have hg : (T.cs.map CON.cells)[i]? = some c.cells := by simp [hc]
              obtain ⟨j, hj, htg⟩ := htag c hcm
              have hjl := (List.getElem?_eq_some_iff.mp hj).1
              try simp only [SS, argList, aPut, aFill, ↓reduceIte, Nat.reduceEqDiff, Nat.reduceAdd, Nat.reduceLeDiff, reduceCtorEq, Int.reduceEq, Int.reduceLT, Int.reduceLE, Int.reduceNeg, Int.reduceAdd, Int.reduceSub, Int.reduceToNat, hil', hg, CON.cells, CON.cellsV]
              repeat ((with_reducible first | refine AWP_seq ?_ | refine AWP_block ?_ | refine AWP_scope ?_ | refine AWP_reg ?_ | refine AWP_draw ?_ | refine AWP_skip ?_ | refine AWP_ret ?_ | refine AWP_exit ?_ | (refine AWP_cond_true ?_ ?_; · simp only [SS, argList, aPut, aFill, ↓reduceIte, Nat.reduceEqDiff, Nat.reduceAdd, Nat.reduceLeDiff, reduceCtorEq, Int.reduceEq, Int.reduceLT, Int.reduceLE, Int.reduceNeg, Int.reduceAdd, Int.reduceSub, Int.reduceToNat, hil', hg, CON.cells, CON.cellsV]) | (refine AWP_cond_false ?_ ?_; · simp only [SS, argList, aPut, aFill, ↓reduceIte, Nat.reduceEqDiff, Nat.reduceAdd, Nat.reduceLeDiff, reduceCtorEq, Int.reduceEq, Int.reduceLT, Int.reduceLE, Int.reduceNeg, Int.reduceAdd, Int.reduceSub, Int.reduceToNat, hil', hg, CON.cells, CON.cellsV])); try simp only [SS, argList, aPut, aFill, ↓reduceIte, Nat.reduceEqDiff, Nat.reduceAdd, Nat.reduceLeDiff, reduceCtorEq, Int.reduceEq, Int.reduceLT, Int.reduceLE, Int.reduceNeg, Int.reduceAdd, Int.reduceSub, Int.reduceToNat, hil', hg, CON.cells, CON.cellsV])
              refine (conG_ok (hA1.kp hk) tT.sm c.name).mono ?_
              rintro r u2 ⟨rfl, rfl⟩
              rw [DT.find_of tT.nd hcm]
              simp only [conR]
              try simp only [SS, argList, aPut, aFill, ↓reduceIte, Nat.reduceEqDiff, Nat.reduceAdd, Nat.reduceLeDiff, reduceCtorEq, Int.reduceEq, Int.reduceLT, Int.reduceLE, Int.reduceNeg, Int.reduceAdd, Int.reduceSub, Int.reduceToNat, CON.cells, CON.cellsV, hil', hg]
              repeat ((with_reducible first | refine AWP_seq ?_ | refine AWP_block ?_ | refine AWP_scope ?_ | refine AWP_reg ?_ | refine AWP_draw ?_ | refine AWP_skip ?_ | refine AWP_ret ?_ | refine AWP_exit ?_ | (refine AWP_cond_true ?_ ?_; · simp only [SS, argList, aPut, aFill, ↓reduceIte, Nat.reduceEqDiff, Nat.reduceAdd, Nat.reduceLeDiff, reduceCtorEq, Int.reduceEq, Int.reduceLT, Int.reduceLE, Int.reduceNeg, Int.reduceAdd, Int.reduceSub, Int.reduceToNat, CON.cells, CON.cellsV, hil', hg]) | (refine AWP_cond_false ?_ ?_; · simp only [SS, argList, aPut, aFill, ↓reduceIte, Nat.reduceEqDiff, Nat.reduceAdd, Nat.reduceLeDiff, reduceCtorEq, Int.reduceEq, Int.reduceLT, Int.reduceLE, Int.reduceNeg, Int.reduceAdd, Int.reduceSub, Int.reduceToNat, CON.cells, CON.cellsV, hil', hg])); try simp only [SS, argList, aPut, aFill, ↓reduceIte, Nat.reduceEqDiff, Nat.reduceAdd, Nat.reduceLeDiff, reduceCtorEq, Int.reduceEq, Int.reduceLT, Int.reduceLE, Int.reduceNeg, Int.reduceAdd, Int.reduceSub, Int.reduceToNat, CON.cells, CON.cellsV, hil', hg])
              refine (cons_ok (hA1.kp (hk.push _)) tT (by omega) c.data).mono ?_
              rintro r u3 ⟨rfl, rfl⟩
              have hw := wrap_succ (i := i) (by omega)
              have c1 : ((i : Int) ≤ ((i + 1 : Nat) : Int)) = True := by simp; omega
              have c2 : (((i + 1 : Nat) : Int) ≤ (T.cs.length : Int)) = True := by simp; omega
              have c3 : (∀ (q : List AV), q ∈ List.map CON.cells T.cs → q.length = 5) = True := by simp [CON.len]
              have hone : ((T.cs.map CON.cells).take (i + 1)).drop i = [c].map CON.cells := by
                rw [← List.map_take, ← List.map_drop]
                congr 1
                have e : T.cs[i] = c := by rw [List.getElem?_eq_getElem hil] at hc; exact Option.some.inj hc
                rw [List.drop_take, List.drop_eq_getElem_cons hil, e, show i + 1 - i = 1 by omega]
                simp
              try simp only [SS, argList, aPut, aFill, ↓reduceIte, Nat.reduceEqDiff, Nat.reduceAdd, Nat.reduceLeDiff, reduceCtorEq, Int.reduceEq, Int.reduceLT, Int.reduceLE, Int.reduceNeg, Int.reduceAdd, Int.reduceSub, Int.reduceToNat, CON.cells, CON.cellsV, hw, c1, c2, c3, hone]
              repeat ((with_reducible first | refine AWP_seq ?_ | refine AWP_block ?_ | refine AWP_scope ?_ | refine AWP_reg ?_ | refine AWP_draw ?_ | refine AWP_skip ?_ | refine AWP_ret ?_ | refine AWP_exit ?_ | (refine AWP_cond_true ?_ ?_; · simp only [SS, argList, aPut, aFill, ↓reduceIte, Nat.reduceEqDiff, Nat.reduceAdd, Nat.reduceLeDiff, reduceCtorEq, Int.reduceEq, Int.reduceLT, Int.reduceLE, Int.reduceNeg, Int.reduceAdd, Int.reduceSub, Int.reduceToNat, CON.cells, CON.cellsV, hw, c1, c2, c3, hone]) | (refine AWP_cond_false ?_ ?_; · simp only [SS, argList, aPut, aFill, ↓reduceIte, Nat.reduceEqDiff, Nat.reduceAdd, Nat.reduceLeDiff, reduceCtorEq, Int.reduceEq, Int.reduceLT, Int.reduceLE, Int.reduceNeg, Int.reduceAdd, Int.reduceSub, Int.reduceToNat, CON.cells, CON.cellsV, hw, c1, c2, c3, hone])); try simp only [SS, argList, aPut, aFill, ↓reduceIte, Nat.reduceEqDiff, Nat.reduceAdd, Nat.reduceLeDiff, reduceCtorEq, Int.reduceEq, Int.reduceLT, Int.reduceLE, Int.reduceNeg, Int.reduceAdd, Int.reduceSub, Int.reduceToNat, CON.cells, CON.cellsV, hw, c1, c2, c3, hone])
              refine (same_ok' [c] [c] _).mono ?_
              rintro r u3 ⟨rfl, rfl⟩
              have hsd : @decide ([c] = [c]) (Classical.propDecidable _) = true := by simp
              have t1 : ((c.tag : Int) < 0) = False := by rw [htg]; simp
              have t2 : (((T.of c.data).length : Int) ≤ c.tag) = False := by rw [htg]; simp; omega
              have t3 : ((0 : Int) ≤ c.tag) = True := by rw [htg]; simp
              have t4 : ((T.of c.data).map CON.cells)[c.tag.toNat]? = some c.cells := by rw [htg]; simp [hj]
              try simp only [SS, argList, aPut, aFill, ↓reduceIte, Nat.reduceEqDiff, Nat.reduceAdd, Nat.reduceLeDiff, reduceCtorEq, Int.reduceEq, Int.reduceLT, Int.reduceLE, Int.reduceNeg, Int.reduceAdd, Int.reduceSub, Int.reduceToNat, hsd, CON.cells, CON.cellsV, t1, t2, t3, t4, hw]
              repeat ((with_reducible first | refine AWP_seq ?_ | refine AWP_block ?_ | refine AWP_scope ?_ | refine AWP_reg ?_ | refine AWP_draw ?_ | refine AWP_skip ?_ | refine AWP_ret ?_ | refine AWP_exit ?_ | (refine AWP_cond_true ?_ ?_; · simp only [SS, argList, aPut, aFill, ↓reduceIte, Nat.reduceEqDiff, Nat.reduceAdd, Nat.reduceLeDiff, reduceCtorEq, Int.reduceEq, Int.reduceLT, Int.reduceLE, Int.reduceNeg, Int.reduceAdd, Int.reduceSub, Int.reduceToNat, hsd, CON.cells, CON.cellsV, t1, t2, t3, t4, hw]) | (refine AWP_cond_false ?_ ?_; · simp only [SS, argList, aPut, aFill, ↓reduceIte, Nat.reduceEqDiff, Nat.reduceAdd, Nat.reduceLeDiff, reduceCtorEq, Int.reduceEq, Int.reduceLT, Int.reduceLE, Int.reduceNeg, Int.reduceAdd, Int.reduceSub, Int.reduceToNat, hsd, CON.cells, CON.cellsV, t1, t2, t3, t4, hw])); try simp only [SS, argList, aPut, aFill, ↓reduceIte, Nat.reduceEqDiff, Nat.reduceAdd, Nat.reduceLeDiff, reduceCtorEq, Int.reduceEq, Int.reduceLT, Int.reduceLE, Int.reduceNeg, Int.reduceAdd, Int.reduceSub, Int.reduceToNat, hsd, CON.cells, CON.cellsV, t1, t2, t3, t4, hw])
              exact ⟨i + 1, rfl, ⟨hk.push _, by omega⟩, by omega⟩
            · have hil' : ¬ (i : Int) < (T.cs.length : Int) := by omega
              try simp only [SS, argList, aPut, aFill, ↓reduceIte, Nat.reduceEqDiff, Nat.reduceAdd, Nat.reduceLeDiff, reduceCtorEq, Int.reduceEq, Int.reduceLT, Int.reduceLE, Int.reduceNeg, Int.reduceAdd, Int.reduceSub, Int.reduceToNat, hil']
              repeat ((with_reducible first | refine AWP_seq ?_ | refine AWP_block ?_ | refine AWP_scope ?_ | refine AWP_reg ?_ | refine AWP_draw ?_ | refine AWP_skip ?_ | refine AWP_ret ?_ | refine AWP_exit ?_ | (refine AWP_cond_true ?_ ?_; · simp only [SS, argList, aPut, aFill, ↓reduceIte, Nat.reduceEqDiff, Nat.reduceAdd, Nat.reduceLeDiff, reduceCtorEq, Int.reduceEq, Int.reduceLT, Int.reduceLE, Int.reduceNeg, Int.reduceAdd, Int.reduceSub, Int.reduceToNat, hil']) | (refine AWP_cond_false ?_ ?_; · simp only [SS, argList, aPut, aFill, ↓reduceIte, Nat.reduceEqDiff, Nat.reduceAdd, Nat.reduceLeDiff, reduceCtorEq, Int.reduceEq, Int.reduceLT, Int.reduceLE, Int.reduceNeg, Int.reduceAdd, Int.reduceSub, Int.reduceToNat, hil'])); try simp only [SS, argList, aPut, aFill, ↓reduceIte, Nat.reduceEqDiff, Nat.reduceAdd, Nat.reduceLeDiff, reduceCtorEq, Int.reduceEq, Int.reduceLT, Int.reduceLE, Int.reduceNeg, Int.reduceAdd, Int.reduceSub, Int.reduceToNat, hil'])
              refine known_kp' _ fun s _ => ?_
              try simp only [SS, argList, aPut, aFill, ↓reduceIte, Nat.reduceEqDiff, Nat.reduceAdd, Nat.reduceLeDiff, reduceCtorEq, Int.reduceEq, Int.reduceLT, Int.reduceLE, Int.reduceNeg, Int.reduceAdd, Int.reduceSub, Int.reduceToNat]
              repeat ((with_reducible first | refine AWP_seq ?_ | refine AWP_block ?_ | refine AWP_scope ?_ | refine AWP_reg ?_ | refine AWP_draw ?_ | refine AWP_skip ?_ | refine AWP_ret ?_ | refine AWP_exit ?_ | (refine AWP_cond_true ?_ ?_; · simp only [SS, argList, aPut, aFill, ↓reduceIte, Nat.reduceEqDiff, Nat.reduceAdd, Nat.reduceLeDiff, reduceCtorEq, Int.reduceEq, Int.reduceLT, Int.reduceLE, Int.reduceNeg, Int.reduceAdd, Int.reduceSub, Int.reduceToNat]) | (refine AWP_cond_false ?_ ?_; · simp only [SS, argList, aPut, aFill, ↓reduceIte, Nat.reduceEqDiff, Nat.reduceAdd, Nat.reduceLeDiff, reduceCtorEq, Int.reduceEq, Int.reduceLT, Int.reduceLE, Int.reduceNeg, Int.reduceAdd, Int.reduceSub, Int.reduceToNat])); try simp only [SS, argList, aPut, aFill, ↓reduceIte, Nat.reduceEqDiff, Nat.reduceAdd, Nat.reduceLeDiff, reduceCtorEq, Int.reduceEq, Int.reduceLT, Int.reduceLE, Int.reduceNeg, Int.reduceAdd, Int.reduceSub, Int.reduceToNat])
    · have hz : (e = 0) = False := by simpa using he
      try simp only [SS, argList, aPut, aFill, ↓reduceIte, Nat.reduceEqDiff, Nat.reduceAdd, Nat.reduceLeDiff, reduceCtorEq, Int.reduceEq, Int.reduceLT, Int.reduceLE, Int.reduceNeg, Int.reduceAdd, Int.reduceSub, Int.reduceToNat, hz]
      repeat ((with_reducible first | refine AWP_seq ?_ | refine AWP_block ?_ | refine AWP_scope ?_ | refine AWP_reg ?_ | refine AWP_draw ?_ | refine AWP_skip ?_ | refine AWP_ret ?_ | refine AWP_exit ?_ | (refine AWP_cond_true ?_ ?_; · simp only [SS, argList, aPut, aFill, ↓reduceIte, Nat.reduceEqDiff, Nat.reduceAdd, Nat.reduceLeDiff, reduceCtorEq, Int.reduceEq, Int.reduceLT, Int.reduceLE, Int.reduceNeg, Int.reduceAdd, Int.reduceSub, Int.reduceToNat, hz]) | (refine AWP_cond_false ?_ ?_; · simp only [SS, argList, aPut, aFill, ↓reduceIte, Nat.reduceEqDiff, Nat.reduceAdd, Nat.reduceLeDiff, reduceCtorEq, Int.reduceEq, Int.reduceLT, Int.reduceLE, Int.reduceNeg, Int.reduceAdd, Int.reduceSub, Int.reduceToNat, hz])); try simp only [SS, argList, aPut, aFill, ↓reduceIte, Nat.reduceEqDiff, Nat.reduceAdd, Nat.reduceLeDiff, reduceCtorEq, Int.reduceEq, Int.reduceLT, Int.reduceLE, Int.reduceNeg, Int.reduceAdd, Int.reduceSub, Int.reduceToNat, hz])
      refine known_kp' _ fun s _ => ?_
      try simp only [SS, argList, aPut, aFill, ↓reduceIte, Nat.reduceEqDiff, Nat.reduceAdd, Nat.reduceLeDiff, reduceCtorEq, Int.reduceEq, Int.reduceLT, Int.reduceLE, Int.reduceNeg, Int.reduceAdd, Int.reduceSub, Int.reduceToNat]
      repeat ((with_reducible first | refine AWP_seq ?_ | refine AWP_block ?_ | refine AWP_scope ?_ | refine AWP_reg ?_ | refine AWP_draw ?_ | refine AWP_skip ?_ | refine AWP_ret ?_ | refine AWP_exit ?_ | (refine AWP_cond_true ?_ ?_; · simp only [SS, argList, aPut, aFill, ↓reduceIte, Nat.reduceEqDiff, Nat.reduceAdd, Nat.reduceLeDiff, reduceCtorEq, Int.reduceEq, Int.reduceLT, Int.reduceLE, Int.reduceNeg, Int.reduceAdd, Int.reduceSub, Int.reduceToNat]) | (refine AWP_cond_false ?_ ?_; · simp only [SS, argList, aPut, aFill, ↓reduceIte, Nat.reduceEqDiff, Nat.reduceAdd, Nat.reduceLeDiff, reduceCtorEq, Int.reduceEq, Int.reduceLT, Int.reduceLE, Int.reduceNeg, Int.reduceAdd, Int.reduceSub, Int.reduceToNat])); try simp only [SS, argList, aPut, aFill, ↓reduceIte, Nat.reduceEqDiff, Nat.reduceAdd, Nat.reduceLeDiff, reduceCtorEq, Int.reduceEq, Int.reduceLT, Int.reduceLE, Int.reduceNeg, Int.reduceAdd, Int.reduceSub, Int.reduceToNat])
  · try simp only [SS, argList, aPut, aFill, ↓reduceIte, Nat.reduceEqDiff, Nat.reduceAdd, Nat.reduceLeDiff, reduceCtorEq, Int.reduceEq, Int.reduceLT, Int.reduceLE, Int.reduceNeg, Int.reduceAdd, Int.reduceSub, Int.reduceToNat, hl]
    repeat ((with_reducible first | refine AWP_seq ?_ | refine AWP_block ?_ | refine AWP_scope ?_ | refine AWP_reg ?_ | refine AWP_draw ?_ | refine AWP_skip ?_ | refine AWP_ret ?_ | refine AWP_exit ?_ | (refine AWP_cond_true ?_ ?_; · simp only [SS, argList, aPut, aFill, ↓reduceIte, Nat.reduceEqDiff, Nat.reduceAdd, Nat.reduceLeDiff, reduceCtorEq, Int.reduceEq, Int.reduceLT, Int.reduceLE, Int.reduceNeg, Int.reduceAdd, Int.reduceSub, Int.reduceToNat, hl]) | (refine AWP_cond_false ?_ ?_; · simp only [SS, argList, aPut, aFill, ↓reduceIte, Nat.reduceEqDiff, Nat.reduceAdd, Nat.reduceLeDiff, reduceCtorEq, Int.reduceEq, Int.reduceLT, Int.reduceLE, Int.reduceNeg, Int.reduceAdd, Int.reduceSub, Int.reduceToNat, hl])); try simp only [SS, argList, aPut, aFill, ↓reduceIte, Nat.reduceEqDiff, Nat.reduceAdd, Nat.reduceLeDiff, reduceCtorEq, Int.reduceEq, Int.reduceLT, Int.reduceLE, Int.reduceNeg, Int.reduceAdd, Int.reduceSub, Int.reduceToNat, hl])
    refine known_kp' _ fun s _ => ?_
    try simp only [SS, argList, aPut, aFill, ↓reduceIte, Nat.reduceEqDiff, Nat.reduceAdd, Nat.reduceLeDiff, reduceCtorEq, Int.reduceEq, Int.reduceLT, Int.reduceLE, Int.reduceNeg, Int.reduceAdd, Int.reduceSub, Int.reduceToNat]
    repeat ((with_reducible first | refine AWP_seq ?_ | refine AWP_block ?_ | refine AWP_scope ?_ | refine AWP_reg ?_ | refine AWP_draw ?_ | refine AWP_skip ?_ | refine AWP_ret ?_ | refine AWP_exit ?_ | (refine AWP_cond_true ?_ ?_; · simp only [SS, argList, aPut, aFill, ↓reduceIte, Nat.reduceEqDiff, Nat.reduceAdd, Nat.reduceLeDiff, reduceCtorEq, Int.reduceEq, Int.reduceLT, Int.reduceLE, Int.reduceNeg, Int.reduceAdd, Int.reduceSub, Int.reduceToNat]) | (refine AWP_cond_false ?_ ?_; · simp only [SS, argList, aPut, aFill, ↓reduceIte, Nat.reduceEqDiff, Nat.reduceAdd, Nat.reduceLeDiff, reduceCtorEq, Int.reduceEq, Int.reduceLT, Int.reduceLE, Int.reduceNeg, Int.reduceAdd, Int.reduceSub, Int.reduceToNat])); try simp only [SS, argList, aPut, aFill, ↓reduceIte, Nat.reduceEqDiff, Nat.reduceAdd, Nat.reduceLeDiff, reduceCtorEq, Int.reduceEq, Int.reduceLT, Int.reduceLE, Int.reduceNeg, Int.reduceAdd, Int.reduceSub, Int.reduceToNat])
end Go.Proofs.Ytoejjhehpbmgbaa
