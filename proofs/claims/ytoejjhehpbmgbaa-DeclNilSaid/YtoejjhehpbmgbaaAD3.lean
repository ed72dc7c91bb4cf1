/- A table of declarations in a store; what put and name make of it. -/
import Derived.Test.YtoejjhehpbmgbaaAD2
set_option linter.unusedVariables false
set_option linter.unusedSimpArgs false
namespace Go.AL
/-- A constructor. -/
structure CON where
  name : ByteArray
  data : ByteArray
  tag : Int
  ps : Int
  fields : List Ty
/-- A table. -/
structure DT where
  ps : List (ByteArray × Int)
  cs : List CON
def DT.find (T : DT) (k : ByteArray) : Option CON := mget (T.cs.map fun c => (c.name, c)) k
def CON.cellsV (c : CON) (fv : AV) : List AV := [.str c.name, .str c.data, .int .i64 c.tag, .int .i64 c.ps, fv]
def CON.cells (c : CON) : List AV := c.cellsV (.list (c.fields.map Ty.cells))
/-- A value that is a constructor. -/
def ConV (c : CON) (v : AV) : Prop := ∃ fv, v = .agg (c.cellsV fv) ∧ InL fv (c.fields.map Ty.cells)
abbrev psV (ps : List (ByteArray × Int)) : List (AV × AV) := ps.map fun p => (.str p.1, .int .i64 p.2)
structure TblAt (σ : Store) (tid pm cm : Nat) (ces : List (AV × AV)) (ov : AV) (T : DT) : Prop where
  hd : σ.get tid = some (.cells 112 0 3 [[.map pm, .map cm, ov]])
  gpm : σ.get pm = some (.map (psV T.ps))
  gcm : σ.get cm = some (.map ces)
  ne : pm ≠ cm
  len : ces.length = T.cs.length
  con : ∀ (j : Nat) c e, T.cs[j]? = some c → ces[j]? = some e → e.1 = .str c.name ∧ ConV c e.2
  gov : SliceAt σ ov 9 1 (T.cs.map fun c => [.str c.name])
def TF (tid pm cm : Nat) (ov : AV) : List Nat := tid :: pm :: cm :: slIds ov
theorem TblAt.keep {σ s : Store} {tid pm cm : Nat} {ces : List (AV × AV)} {ov : AV} {T : DT} (h : TblAt σ tid pm cm ces ov T) (k : ∀ i, i ∈ TF tid pm cm ov → s.get i = σ.get i) : TblAt s tid pm cm ces ov T :=
  ⟨by rw [k _ (by simp [TF])]; exact h.hd, by rw [k _ (by simp [TF])]; exact h.gpm, by rw [k _ (by simp [TF])]; exact h.gcm, h.ne, h.len, h.con, h.gov.keep fun i hi => k i (by simp [TF, hi])⟩
theorem TblAt.lt {σ : Store} {tid pm cm : Nat} {ces : List (AV × AV)} {ov : AV} {T : DT} (h : TblAt σ tid pm cm ces ov T) {i : Nat} (hi : i ∈ TF tid pm cm ov) : i < σ.next := by
  simp [TF] at hi
  rcases hi with rfl | rfl | rfl | hi
  · exact σ.lt h.hd
  · exact σ.lt h.gpm
  · exact σ.lt h.gcm
  · exact h.gov.lt hi
theorem TblAt.kp {σ s : Store} {tid pm cm : Nat} {ces : List (AV × AV)} {ov : AV} {T : DT} (h : TblAt σ tid pm cm ces ov T) (k : Kp σ s) : TblAt s tid pm cm ces ov T := h.keep fun i hi => k.keep i (h.lt hi)
theorem TblAt.tp {σ : Store} {tid pm cm : Nat} {ces : List (AV × AV)} {ov : AV} {T : DT} (h : TblAt σ tid pm cm ces ov T) : TP σ tid T.ps := ⟨pm, _, ov, 112, h.hd, h.gpm⟩
/-- The object of the order is none of the others. -/
theorem TblAt.ovne {σ : Store} {tid pm cm : Nat} {ces : List (AV × AV)} {ov : AV} {T : DT} (h : TblAt σ tid pm cm ces ov T) {i : Nat} (hi : i ∈ slIds ov) : i ≠ tid ∧ i ≠ pm ∧ i ≠ cm := by
  obtain ⟨_, _, e⟩ := h.gov.ids hi
  refine ⟨?_, ?_, ?_⟩ <;> rintro rfl
  · rw [h.hd] at e; simp at e
  · rw [h.gpm] at e; simp at e
  · rw [h.gcm] at e; simp at e
theorem TblAt.hne {σ : Store} {tid pm cm : Nat} {ces : List (AV × AV)} {ov : AV} {T : DT} (h : TblAt σ tid pm cm ces ov T) : tid ≠ pm ∧ tid ≠ cm := by
  refine ⟨?_, ?_⟩ <;> rintro rfl
  · have := h.hd; rw [h.gpm] at this; simp at this
  · have := h.hd; rw [h.gcm] at this; simp at this
/-- The search for a constructor. -/
theorem TblAt.find {σ : Store} {tid pm cm : Nat} {ces : List (AV × AV)} {ov : AV} {T : DT} (h : TblAt σ tid pm cm ces ov T) (k : ByteArray) :
    (T.find k = none ∧ aFind .str (.str k) ces 0 = some none) ∨ ∃ c v j, T.find k = some c ∧ ConV c v ∧ aFind .str (.str k) ces 0 = some (some (j, v)) :=
  aFind_str (α := CON) k ConV (T.cs.map fun c : CON => (c.name, c)) ces 0 (by simp [h.len]) fun j p e a b => by
    rw [List.getElem?_map] at a
    cases hc : T.cs[j]? with
    | none => rw [hc] at a; simp at a
    | some c => rw [hc] at a; simp at a; subst a; exact h.con j c e hc b
/-- Behind a step a table stands in a store. -/
def TblTo (σ : Store) (tid : Nat) (old : List Nat) (T : DT) (s : Store) : Prop := ∃ pm cm ces ov, TblAt s tid pm cm ces ov T ∧ Fr σ s old (TF tid pm cm ov)
theorem CON.cellsV_co (c : CON) (fv : AV) : (AV.agg (c.cellsV fv)).cellsOf = some (c.cellsV fv) := (rfl)
theorem Fr.kpl {σ0 σ s : Store} {a b : List Nat} (k : Kp σ0 σ) (h : Fr σ s a b) : Fr σ0 s a b := ⟨Nat.le_trans k.next h.next, fun i hi hn => by rw [h.keep i (Nat.lt_of_lt_of_le hi k.next) hn, k.keep i hi], fun i hi => (h.fresh i hi).elim .inl fun h => .inr (Nat.le_trans k.next h)⟩
/-- A declaration. -/
structure CDM where
  name : ByteArray
  fields : List Ty
  line : Int
  col : Int
structure DDM where
  name : ByteArray
  params : List ByteArray
  cons : List CDM
  line : Int
  col : Int
def CDM.cells (c : CDM) : List AV := [.str c.name, .list (c.fields.map Ty.cells), .int .i64 c.line, .int .i64 c.col]
def DDM.cells (d : DDM) : List AV := [.str d.name, strs d.params, .list (d.cons.map CDM.cells), .int .i64 d.line, .int .i64 d.col]
def nameM (ps : List (ByteArray × Int)) (d : DDM) : Int := if (mget ps d.name).isSome = true then 80 else if d.params.Nodup then 0 else 80
end Go.AL
namespace Go.Proofs.Ytoejjhehpbmgbaa
open Go.AL
theorem put_ok {σ : Store} {tid pm cm : Nat} {ces : List (AV × AV)} {ov : AV} {T : DT} (h : TblAt σ tid pm cm ces ov T) (hl : T.cs.length ≤ 1000000) (c : CON) {fv : AV} (hfv : InL fv (c.fields.map Ty.cells)) (hno : T.find c.name = none) :
    ACalls Try.prog 57 [.ptr tid 0 0 0, .agg (c.cellsV fv)] σ fun r σ' => r = .tuple [] ∧ TblTo σ tid (TF tid pm cm ov) { T with cs := T.cs ++ [c] } σ' := by
  refine in57 (by simp) ?_
  unfold c57
  have hco := hfv.co
  have hf : aFind .str (.str c.name) ces 0 = some none := by
    rcases h.find c.name with ⟨_, e⟩ | ⟨_, _, _, e, _⟩
    · exact e
    · rw [hno] at e; cases e
  have hb := h.kp (Kp.pushed σ (.cells 78 0 5 [c.cellsV fv]))
  have q1 := lt_ne (σ.lt h.hd)
  have q2 := lt_ne (σ.lt h.gcm)
  have m2 : cm < (σ.push (.cells 78 0 5 [[.str c.name, .str c.data, .int .i64 c.tag, .int .i64 c.ps, fv]])).next := by simp only [Store.push_next]; have := σ.lt h.gcm; omega
  have q3 : (tid = cm) = False := by simpa using h.hne.2
  have q4 : (σ.next = cm) = False := by have := σ.lt h.gcm; simp; omega
  try simp only [SS, argList, aPut, aFill, ↓reduceIte, Nat.reduceEqDiff, Nat.reduceAdd, Nat.reduceLeDiff, reduceCtorEq, Int.reduceEq, Int.reduceLT, Int.reduceLE, Int.reduceNeg, Int.reduceAdd, Int.reduceSub, Int.reduceToNat, CON.cellsV, h.hd, h.gcm, hf, hco, q1, q2, q3, q4, Store.get_upd _ _ (σ.lt h.gcm), mapPut]
  repeat ((with_reducible first | refine AWP_seq ?_ | refine AWP_block ?_ | refine AWP_scope ?_ | refine AWP_reg ?_ | refine AWP_draw ?_ | refine AWP_skip ?_ | refine AWP_ret ?_ | refine AWP_exit ?_ | (refine AWP_cond_true ?_ ?_; · simp only [SS, argList, aPut, aFill, ↓reduceIte, Nat.reduceEqDiff, Nat.reduceAdd, Nat.reduceLeDiff, reduceCtorEq, Int.reduceEq, Int.reduceLT, Int.reduceLE, Int.reduceNeg, Int.reduceAdd, Int.reduceSub, Int.reduceToNat, CON.cellsV, h.hd, h.gcm, hf, hco, q1, q2, q3, q4, Store.get_upd _ _ (σ.lt h.gcm), mapPut]) | (refine AWP_cond_false ?_ ?_; · simp only [SS, argList, aPut, aFill, ↓reduceIte, Nat.reduceEqDiff, Nat.reduceAdd, Nat.reduceLeDiff, reduceCtorEq, Int.reduceEq, Int.reduceLT, Int.reduceLE, Int.reduceNeg, Int.reduceAdd, Int.reduceSub, Int.reduceToNat, CON.cellsV, h.hd, h.gcm, hf, hco, q1, q2, q3, q4, Store.get_upd _ _ (σ.lt h.gcm), mapPut])); try simp only [SS, argList, aPut, aFill, ↓reduceIte, Nat.reduceEqDiff, Nat.reduceAdd, Nat.reduceLeDiff, reduceCtorEq, Int.reduceEq, Int.reduceLT, Int.reduceLE, Int.reduceNeg, Int.reduceAdd, Int.reduceSub, Int.reduceToNat, CON.cellsV, h.hd, h.gcm, hf, hco, q1, q2, q3, q4, Store.get_upd _ _ (σ.lt h.gcm), mapPut])
  generalize ht : Store.push _ _ = t
  have k1 : ∀ j, j < σ.next → j ≠ cm → t.get j = σ.get j := fun j h1 h2 => by rw [← ht, Store.push_get, if_neg (by simp only [Store.upd_next]; omega), Store.get_upd_ne _ _ h2]
  have n1 : t.next = σ.next + 1 := by rw [← ht]; rfl
  have gcm : t.get cm = some (.map (ces ++ [(.str c.name, .agg (c.cellsV fv))])) := by rw [← ht, Store.push_get, if_neg (by simp only [Store.upd_next]; have := σ.lt h.gcm; omega), Store.get_upd_self _ _ (σ.lt h.gcm)]; rfl
  clear ht
  have hov : SliceAt t ov 9 1 (T.cs.map fun c => [.str c.name]) := h.gov.keep fun i hi => k1 i (h.gov.lt hi) (h.ovne hi).2.2
  refine ok_app hov (by simp) (by simp; omega) (by simp [maxLen]; omega) ?_
  intro v' s hS hF
  have htd : t.get tid = some (.cells 112 0 3 [[.map pm, .map cm, ov]]) := by rw [k1 _ (σ.lt h.hd) h.hne.2]; exact h.hd
  have hsd : s.get tid = _ := (hF.keep tid (by have := σ.lt h.hd; omega) (fun hm => (h.ovne hm).1 rfl)).trans htd
  have mt : tid < s.next := s.lt hsd
  try simp only [SS, argList, aPut, aFill, ↓reduceIte, Nat.reduceEqDiff, Nat.reduceAdd, Nat.reduceLeDiff, reduceCtorEq, Int.reduceEq, Int.reduceLT, Int.reduceLE, Int.reduceNeg, Int.reduceAdd, Int.reduceSub, Int.reduceToNat, hsd, hS.co]
  repeat ((with_reducible first | refine AWP_seq ?_ | refine AWP_block ?_ | refine AWP_scope ?_ | refine AWP_reg ?_ | refine AWP_draw ?_ | refine AWP_skip ?_ | refine AWP_ret ?_ | refine AWP_exit ?_ | (refine AWP_cond_true ?_ ?_; · simp only [SS, argList, aPut, aFill, ↓reduceIte, Nat.reduceEqDiff, Nat.reduceAdd, Nat.reduceLeDiff, reduceCtorEq, Int.reduceEq, Int.reduceLT, Int.reduceLE, Int.reduceNeg, Int.reduceAdd, Int.reduceSub, Int.reduceToNat, hsd, hS.co]) | (refine AWP_cond_false ?_ ?_; · simp only [SS, argList, aPut, aFill, ↓reduceIte, Nat.reduceEqDiff, Nat.reduceAdd, Nat.reduceLeDiff, reduceCtorEq, Int.reduceEq, Int.reduceLT, Int.reduceLE, Int.reduceNeg, Int.reduceAdd, Int.reduceSub, Int.reduceToNat, hsd, hS.co])); try simp only [SS, argList, aPut, aFill, ↓reduceIte, Nat.reduceEqDiff, Nat.reduceAdd, Nat.reduceLeDiff, reduceCtorEq, Int.reduceEq, Int.reduceLT, Int.reduceLE, Int.reduceNeg, Int.reduceAdd, Int.reduceSub, Int.reduceToNat, hsd, hS.co])
  refine ⟨pm, cm, ces ++ [(.str c.name, .agg (c.cellsV fv))], v', ⟨Store.get_upd_self _ _ mt, ?_, ?_, h.ne, by simp [h.len], ?_, ?_⟩, ?_⟩
  · rw [Store.get_upd_ne _ _ h.hne.1.symm, hF.keep pm (by have := σ.lt h.gpm; omega) (fun hm => (h.ovne hm).2.1 rfl), k1 _ (σ.lt h.gpm) h.ne]; exact h.gpm
  · rw [Store.get_upd_ne _ _ h.hne.2.symm, hF.keep cm (by have := σ.lt h.gcm; omega) (fun hm => (h.ovne hm).2.2 rfl)]; exact gcm
  · intro j c' e hc he
    by_cases hj : j < T.cs.length
    · rw [List.getElem?_append_left hj] at hc
      rw [List.getElem?_append_left (by rw [h.len]; exact hj)] at he
      exact h.con j c' e hc he
    · rw [List.getElem?_append_right (by omega)] at hc
      rw [List.getElem?_append_right (by rw [h.len]; omega), h.len] at he
      have : j - T.cs.length = 0 := by
        have := (List.getElem?_eq_some_iff.mp hc).1
        simp at this; omega
      rw [this] at hc he
      simp at hc he
      subst hc; subst he
      exact ⟨rfl, fv, rfl, hfv⟩
  · have := hS.keep (σ' := s.upd tid (.cells 112 0 3 [[.map pm, .map cm, v']])) fun i hi => Store.get_upd_ne _ _ fun e => by
      subst e
      obtain ⟨_, _, e⟩ := hS.ids hi
      rw [hsd] at e; simp at e
    simpa using this
  · refine ⟨by simp only [Store.upd_next]; have := hF.next; omega, fun i hi hn => ?_, fun i hi => ?_⟩
    · simp [TF] at hn
      rw [Store.get_upd_ne _ _ hn.1, hF.keep i (by omega) hn.2.2.2, k1 i hi hn.2.2.1]
    · simp only [TF, List.mem_cons] at hi ⊢
      rcases hi with rfl | rfl | rfl | hi
      · exact .inl (.inl rfl)
      · exact .inl (.inr (.inl rfl))
      · exact .inl (.inr (.inr (.inl rfl)))
      · rcases hF.fresh i hi with hh | hh
        · exact .inl (.inr (.inr (.inr hh)))
        · right; omega
theorem name_ok {σ : Store} {tid pm cm : Nat} {ces : List (AV × AV)} {ov : AV} {T : DT} (h : TblAt σ tid pm cm ces ov T) (d : DDM) (hd : d.params.length ≤ 1000000) :
    ACalls Try.prog 49 [.ptr tid 0 0 0, .agg d.cells] σ fun r σ' => r = .int .i64 (nameM T.ps d) ∧ TblTo σ tid (TF tid pm cm ov) (if nameM T.ps d = 0 then { T with ps := T.ps ++ [(d.name, (d.params.length : Int))] } else T) σ' := by
  refine in49 (by simp) ?_
  unfold c49
  have q1 := lt_ne (σ.lt h.hd)
  have q2 := lt_ne (σ.lt h.gpm)
  obtain ⟨fr, hf1, hf2, hf3⟩ := aFind_ps T.ps d.name
  have same : ∀ s, Kp σ s → TblTo σ tid (TF tid pm cm ov) T s := fun s k => ⟨pm, cm, ces, ov, h.kp k, ⟨k.next, fun i hi _ => k.keep i hi, fun i hi => .inl hi⟩⟩
  cases hm : mget T.ps d.name with
  | some n =>
    rw [hm] at hf2 hf3
    have hM : nameM T.ps d = 80 := by simp [nameM, hm]
    try simp only [SS, argList, aPut, aFill, ↓reduceIte, Nat.reduceEqDiff, Nat.reduceAdd, Nat.reduceLeDiff, reduceCtorEq, Int.reduceEq, Int.reduceLT, Int.reduceLE, Int.reduceNeg, Int.reduceAdd, Int.reduceSub, Int.reduceToNat, DDM.cells, h.hd, h.gpm, q1, q2, hf1, hf2, hf3]
    repeat ((with_reducible first | refine AWP_seq ?_ | refine AWP_block ?_ | refine AWP_scope ?_ | refine AWP_reg ?_ | refine AWP_draw ?_ | refine AWP_skip ?_ | refine AWP_ret ?_ | refine AWP_exit ?_ | (refine AWP_cond_true ?_ ?_; · simp only [SS, argList, aPut, aFill, ↓reduceIte, Nat.reduceEqDiff, Nat.reduceAdd, Nat.reduceLeDiff, reduceCtorEq, Int.reduceEq, Int.reduceLT, Int.reduceLE, Int.reduceNeg, Int.reduceAdd, Int.reduceSub, Int.reduceToNat, DDM.cells, h.hd, h.gpm, q1, q2, hf1, hf2, hf3]) | (refine AWP_cond_false ?_ ?_; · simp only [SS, argList, aPut, aFill, ↓reduceIte, Nat.reduceEqDiff, Nat.reduceAdd, Nat.reduceLeDiff, reduceCtorEq, Int.reduceEq, Int.reduceLT, Int.reduceLE, Int.reduceNeg, Int.reduceAdd, Int.reduceSub, Int.reduceToNat, DDM.cells, h.hd, h.gpm, q1, q2, hf1, hf2, hf3])); try simp only [SS, argList, aPut, aFill, ↓reduceIte, Nat.reduceEqDiff, Nat.reduceAdd, Nat.reduceLeDiff, reduceCtorEq, Int.reduceEq, Int.reduceLT, Int.reduceLE, Int.reduceNeg, Int.reduceAdd, Int.reduceSub, Int.reduceToNat, DDM.cells, h.hd, h.gpm, q1, q2, hf1, hf2, hf3])
    rw [hM]
    exact ⟨rfl, by rw [if_neg (by decide)]; exact same _ (.pushed _ _)⟩
  | none =>
    rw [hm] at hf2 hf3
    have hnone : fr = none := by
      cases fr with
      | none => rfl
      | some p => simp at hf2
    subst hnone
    try simp only [SS, argList, aPut, aFill, ↓reduceIte, Nat.reduceEqDiff, Nat.reduceAdd, Nat.reduceLeDiff, reduceCtorEq, Int.reduceEq, Int.reduceLT, Int.reduceLE, Int.reduceNeg, Int.reduceAdd, Int.reduceSub, Int.reduceToNat, DDM.cells, h.hd, h.gpm, q1, q2, hf1, hf2, hf3]
    repeat ((with_reducible first | refine AWP_seq ?_ | refine AWP_block ?_ | refine AWP_scope ?_ | refine AWP_reg ?_ | refine AWP_draw ?_ | refine AWP_skip ?_ | refine AWP_ret ?_ | refine AWP_exit ?_ | (refine AWP_cond_true ?_ ?_; · simp only [SS, argList, aPut, aFill, ↓reduceIte, Nat.reduceEqDiff, Nat.reduceAdd, Nat.reduceLeDiff, reduceCtorEq, Int.reduceEq, Int.reduceLT, Int.reduceLE, Int.reduceNeg, Int.reduceAdd, Int.reduceSub, Int.reduceToNat, DDM.cells, h.hd, h.gpm, q1, q2, hf1, hf2, hf3]) | (refine AWP_cond_false ?_ ?_; · simp only [SS, argList, aPut, aFill, ↓reduceIte, Nat.reduceEqDiff, Nat.reduceAdd, Nat.reduceLeDiff, reduceCtorEq, Int.reduceEq, Int.reduceLT, Int.reduceLE, Int.reduceNeg, Int.reduceAdd, Int.reduceSub, Int.reduceToNat, DDM.cells, h.hd, h.gpm, q1, q2, hf1, hf2, hf3])); try simp only [SS, argList, aPut, aFill, ↓reduceIte, Nat.reduceEqDiff, Nat.reduceAdd, Nat.reduceLeDiff, reduceCtorEq, Int.reduceEq, Int.reduceLT, Int.reduceLE, Int.reduceNeg, Int.reduceAdd, Int.reduceSub, Int.reduceToNat, DDM.cells, h.hd, h.gpm, q1, q2, hf1, hf2, hf3])
    have k0 := Kp.pushed σ (.cells 65 0 5 [d.cells])
    refine AWP_while [0, 3, 21, 22, 23] (fun i : Nat => d.params.length - i) (fun i => [.ptr tid 0 0 0, .ptr σ.next 0 0 0, strs d.params, .int .i64 d.params.length, .int .i64 i])
      (fun i s => s = σ.push (.cells 65 0 5 [d.cells]) ∧ i ≤ d.params.length ∧ (d.params.take i).Nodup) 0 ⟨rfl, by omega, by simp⟩ ?_ ?_
    · try simp only [SS, argList, aPut, aFill, ↓reduceIte, Nat.reduceEqDiff, Nat.reduceAdd, Nat.reduceLeDiff, reduceCtorEq, Int.reduceEq, Int.reduceLT, Int.reduceLE, Int.reduceNeg, Int.reduceAdd, Int.reduceSub, Int.reduceToNat]
      repeat ((with_reducible first | refine AWP_seq ?_ | refine AWP_block ?_ | refine AWP_scope ?_ | refine AWP_reg ?_ | refine AWP_draw ?_ | refine AWP_skip ?_ | refine AWP_ret ?_ | refine AWP_exit ?_ | (refine AWP_cond_true ?_ ?_; · simp only [SS, argList, aPut, aFill, ↓reduceIte, Nat.reduceEqDiff, Nat.reduceAdd, Nat.reduceLeDiff, reduceCtorEq, Int.reduceEq, Int.reduceLT, Int.reduceLE, Int.reduceNeg, Int.reduceAdd, Int.reduceSub, Int.reduceToNat]) | (refine AWP_cond_false ?_ ?_; · simp only [SS, argList, aPut, aFill, ↓reduceIte, Nat.reduceEqDiff, Nat.reduceAdd, Nat.reduceLeDiff, reduceCtorEq, Int.reduceEq, Int.reduceLT, Int.reduceLE, Int.reduceNeg, Int.reduceAdd, Int.reduceSub, Int.reduceToNat])); try simp only [SS, argList, aPut, aFill, ↓reduceIte, Nat.reduceEqDiff, Nat.reduceAdd, Nat.reduceLeDiff, reduceCtorEq, Int.reduceEq, Int.reduceLT, Int.reduceLE, Int.reduceNeg, Int.reduceAdd, Int.reduceSub, Int.reduceToNat])
      rfl
    · rintro i s ⟨rfl, hi, hnd⟩
      by_cases hil : i < d.params.length
      · have hil' : (i : Int) < (d.params.length : Int) := by omega
        obtain ⟨x, hx⟩ : ∃ x, d.params[i]? = some x := ⟨_, List.getElem?_eq_getElem hil⟩
        have hg : (d.params.map fun s => [AV.str s])[i]? = some [.str x] := by simp [hx]
        have c1 : (i : Int) ≤ (d.params.length : Int) := by omega
        have c2 : (∀ (q : List AV), q ∈ List.map (fun s => [AV.str s]) d.params → q.length = 1) = True := by simp
        try simp only [SS, argList, aPut, aFill, ↓reduceIte, Nat.reduceEqDiff, Nat.reduceAdd, Nat.reduceLeDiff, reduceCtorEq, Int.reduceEq, Int.reduceLT, Int.reduceLE, Int.reduceNeg, Int.reduceAdd, Int.reduceSub, Int.reduceToNat, hil', hg, DDM.cells, c1, c2, ← List.map_take]
        repeat ((with_reducible first | refine AWP_seq ?_ | refine AWP_block ?_ | refine AWP_scope ?_ | refine AWP_reg ?_ | refine AWP_draw ?_ | refine AWP_skip ?_ | refine AWP_ret ?_ | refine AWP_exit ?_ | (refine AWP_cond_true ?_ ?_; · simp only [SS, argList, aPut, aFill, ↓reduceIte, Nat.reduceEqDiff, Nat.reduceAdd, Nat.reduceLeDiff, reduceCtorEq, Int.reduceEq, Int.reduceLT, Int.reduceLE, Int.reduceNeg, Int.reduceAdd, Int.reduceSub, Int.reduceToNat, hil', hg, DDM.cells, c1, c2, ← List.map_take]) | (refine AWP_cond_false ?_ ?_; · simp only [SS, argList, aPut, aFill, ↓reduceIte, Nat.reduceEqDiff, Nat.reduceAdd, Nat.reduceLeDiff, reduceCtorEq, Int.reduceEq, Int.reduceLT, Int.reduceLE, Int.reduceNeg, Int.reduceAdd, Int.reduceSub, Int.reduceToNat, hil', hg, DDM.cells, c1, c2, ← List.map_take])); try simp only [SS, argList, aPut, aFill, ↓reduceIte, Nat.reduceEqDiff, Nat.reduceAdd, Nat.reduceLeDiff, reduceCtorEq, Int.reduceEq, Int.reduceLT, Int.reduceLE, Int.reduceNeg, Int.reduceAdd, Int.reduceSub, Int.reduceToNat, hil', hg, DDM.cells, c1, c2, ← List.map_take])
        refine (place_ok _ (Rds.list _ fun q hq => by obtain ⟨y, _, rfl⟩ := List.mem_map.1 hq; rfl) (by simp; omega) x).mono ?_
        rintro r s ⟨rfl, rfl⟩
        by_cases hxi : x ∈ d.params.take i
        · have hp : 0 ≤ placeM (d.params.take i) x := by
            have := (placeM_lt (l := d.params.take i) (s := x)).1
            have : ¬ placeM (d.params.take i) x < 0 := fun h => this h hxi
            omega
          have hM : nameM T.ps d = 80 := by
            have : ¬ d.params.Nodup := fun hn => by
              rw [← List.take_append_drop i d.params, List.drop_eq_getElem_cons hil] at hn
              have e : d.params[i] = x := by rw [List.getElem?_eq_getElem hil] at hx; exact Option.some.inj hx
              rw [e, List.nodup_append] at hn
              exact hn.2.2 x hxi x (by simp) rfl
            simp [nameM, hm, this]
          try simp only [SS, argList, aPut, aFill, ↓reduceIte, Nat.reduceEqDiff, Nat.reduceAdd, Nat.reduceLeDiff, reduceCtorEq, Int.reduceEq, Int.reduceLT, Int.reduceLE, Int.reduceNeg, Int.reduceAdd, Int.reduceSub, Int.reduceToNat, hp]
          repeat ((with_reducible first | refine AWP_seq ?_ | refine AWP_block ?_ | refine AWP_scope ?_ | refine AWP_reg ?_ | refine AWP_draw ?_ | refine AWP_skip ?_ | refine AWP_ret ?_ | refine AWP_exit ?_ | (refine AWP_cond_true ?_ ?_; · simp only [SS, argList, aPut, aFill, ↓reduceIte, Nat.reduceEqDiff, Nat.reduceAdd, Nat.reduceLeDiff, reduceCtorEq, Int.reduceEq, Int.reduceLT, Int.reduceLE, Int.reduceNeg, Int.reduceAdd, Int.reduceSub, Int.reduceToNat, hp]) | (refine AWP_cond_false ?_ ?_; · simp only [SS, argList, aPut, aFill, ↓reduceIte, Nat.reduceEqDiff, Nat.reduceAdd, Nat.reduceLeDiff, reduceCtorEq, Int.reduceEq, Int.reduceLT, Int.reduceLE, Int.reduceNeg, Int.reduceAdd, Int.reduceSub, Int.reduceToNat, hp])); try simp only [SS, argList, aPut, aFill, ↓reduceIte, Nat.reduceEqDiff, Nat.reduceAdd, Nat.reduceLeDiff, reduceCtorEq, Int.reduceEq, Int.reduceLT, Int.reduceLE, Int.reduceNeg, Int.reduceAdd, Int.reduceSub, Int.reduceToNat, hp])
          rw [hM]
          exact ⟨rfl, by rw [if_neg (by decide)]; exact same _ (.pushed _ _)⟩
        · have hp : ¬ 0 ≤ placeM (d.params.take i) x := by
            have := (placeM_lt (l := d.params.take i) (s := x)).2 hxi
            omega
          try simp only [SS, argList, aPut, aFill, ↓reduceIte, Nat.reduceEqDiff, Nat.reduceAdd, Nat.reduceLeDiff, reduceCtorEq, Int.reduceEq, Int.reduceLT, Int.reduceLE, Int.reduceNeg, Int.reduceAdd, Int.reduceSub, Int.reduceToNat, hp, wrap_succ (i := i) (by omega)]
          repeat ((with_reducible first | refine AWP_seq ?_ | refine AWP_block ?_ | refine AWP_scope ?_ | refine AWP_reg ?_ | refine AWP_draw ?_ | refine AWP_skip ?_ | refine AWP_ret ?_ | refine AWP_exit ?_ | (refine AWP_cond_true ?_ ?_; · simp only [SS, argList, aPut, aFill, ↓reduceIte, Nat.reduceEqDiff, Nat.reduceAdd, Nat.reduceLeDiff, reduceCtorEq, Int.reduceEq, Int.reduceLT, Int.reduceLE, Int.reduceNeg, Int.reduceAdd, Int.reduceSub, Int.reduceToNat, hp, wrap_succ (i := i) (by omega)]) | (refine AWP_cond_false ?_ ?_; · simp only [SS, argList, aPut, aFill, ↓reduceIte, Nat.reduceEqDiff, Nat.reduceAdd, Nat.reduceLeDiff, reduceCtorEq, Int.reduceEq, Int.reduceLT, Int.reduceLE, Int.reduceNeg, Int.reduceAdd, Int.reduceSub, Int.reduceToNat, hp, wrap_succ (i := i) (by omega)])); try simp only [SS, argList, aPut, aFill, ↓reduceIte, Nat.reduceEqDiff, Nat.reduceAdd, Nat.reduceLeDiff, reduceCtorEq, Int.reduceEq, Int.reduceLT, Int.reduceLE, Int.reduceNeg, Int.reduceAdd, Int.reduceSub, Int.reduceToNat, hp, wrap_succ (i := i) (by omega)])
          refine ⟨i + 1, rfl, ⟨by omega, ?_⟩, by omega⟩
          rw [List.take_add_one, hx]
          rw [List.nodup_append]
          exact ⟨hnd, by simp, fun a ha b hb e => by simp at hb; subst hb; subst e; exact hxi ha⟩
      · have hil' : ¬ (i : Int) < (d.params.length : Int) := by omega
        rw [List.take_of_length_le (by omega)] at hnd
        have hM : nameM T.ps d = 0 := by simp [nameM, hm, hnd]
        have m1 : pm < (σ.push (.cells 65 0 5 [d.cells])).next := by simp only [Store.push_next]; have := σ.lt h.gpm; omega
        have m2 : pm < (σ.push (.cells 65 0 5 [[.str d.name, .list (d.params.map fun s => [AV.str s]), .list (d.cons.map CDM.cells), .int .i64 d.line, .int .i64 d.col]])).next := m1
        try simp only [SS, argList, aPut, aFill, ↓reduceIte, Nat.reduceEqDiff, Nat.reduceAdd, Nat.reduceLeDiff, reduceCtorEq, Int.reduceEq, Int.reduceLT, Int.reduceLE, Int.reduceNeg, Int.reduceAdd, Int.reduceSub, Int.reduceToNat, hil', h.hd, h.gpm, q1, q2, DDM.cells, hf1, mapPut]
        repeat ((with_reducible first | refine AWP_seq ?_ | refine AWP_block ?_ | refine AWP_scope ?_ | refine AWP_reg ?_ | refine AWP_draw ?_ | refine AWP_skip ?_ | refine AWP_ret ?_ | refine AWP_exit ?_ | (refine AWP_cond_true ?_ ?_; · simp only [SS, argList, aPut, aFill, ↓reduceIte, Nat.reduceEqDiff, Nat.reduceAdd, Nat.reduceLeDiff, reduceCtorEq, Int.reduceEq, Int.reduceLT, Int.reduceLE, Int.reduceNeg, Int.reduceAdd, Int.reduceSub, Int.reduceToNat, hil', h.hd, h.gpm, q1, q2, DDM.cells, hf1, mapPut]) | (refine AWP_cond_false ?_ ?_; · simp only [SS, argList, aPut, aFill, ↓reduceIte, Nat.reduceEqDiff, Nat.reduceAdd, Nat.reduceLeDiff, reduceCtorEq, Int.reduceEq, Int.reduceLT, Int.reduceLE, Int.reduceNeg, Int.reduceAdd, Int.reduceSub, Int.reduceToNat, hil', h.hd, h.gpm, q1, q2, DDM.cells, hf1, mapPut])); try simp only [SS, argList, aPut, aFill, ↓reduceIte, Nat.reduceEqDiff, Nat.reduceAdd, Nat.reduceLeDiff, reduceCtorEq, Int.reduceEq, Int.reduceLT, Int.reduceLE, Int.reduceNeg, Int.reduceAdd, Int.reduceSub, Int.reduceToNat, hil', h.hd, h.gpm, q1, q2, DDM.cells, hf1, mapPut])
        rw [hM, if_pos rfl]
        refine ⟨rfl, pm, cm, ces, ov, ?_, ?_⟩
        · have hp := σ.lt h.gpm
          have kk : ∀ j o o', j < σ.next → j ≠ pm → ((σ.push o).upd pm o').get j = σ.get j := fun j o o' h1 h2 => by rw [Store.get_upd_ne _ _ h2, Store.push_get, if_neg (by omega)]
          have e1 : ∀ o o', (σ.upd pm o').push o = (σ.push o).upd pm o' := fun o o' => (Store.upd_push_lt σ o o' hp).symm
          rw [e1]
          refine ⟨by rw [kk _ _ _ (σ.lt h.hd) h.hne.1]; exact h.hd, ?_, by rw [kk _ _ _ (σ.lt h.gcm) h.ne.symm]; exact h.gcm, h.ne, h.len, h.con, h.gov.keep fun i hi => kk _ _ _ (h.gov.lt hi) (h.ovne hi).2.1⟩
          rw [Store.get_upd_self _ _ (by simp only [Store.push_next]; omega)]
          simp [psV]
        · have hp := σ.lt h.gpm
          refine ⟨by simp only [Store.push_next, Store.upd_next]; omega, fun i hi hn => ?_, fun i hi => .inl hi⟩
          simp [TF] at hn
          rw [Store.push_get, if_neg (by simp only [Store.upd_next]; omega), Store.get_upd_ne _ _ hn.2.1]
end Go.Proofs.Ytoejjhehpbmgbaa
