/- What New makes of declarations. -/
import Derived.Test.YtoejjhehpbmgbaaAD4
set_option linter.unusedVariables false
set_option linter.unusedSimpArgs false
namespace Go.AL
theorem fold_next {α β : Type} (f : β → α → Option β) (b : β) {l : List α} {i : Nat} {x : α} (hx : l[i]? = some x) {b' : β} (h : (l.take i).foldlM f b = some b') : (l.take (i + 1)).foldlM f b = f b' x := by
  rw [List.take_add_one, hx, List.foldlM_append, h]
  simp
theorem fold_fail {α β : Type} (f : β → α → Option β) (b : β) {l : List α} {i : Nat} {x : α} (hx : l[i]? = some x) {b' : β} (h : (l.take i).foldlM f b = some b') (hf : f b' x = none) : l.foldlM f b = none := by
  have hil := (List.getElem?_eq_some_iff.mp hx).1
  have hsp : l = l.take i ++ x :: l.drop (i + 1) := by
    have := List.take_append_drop i l
    rw [List.drop_eq_getElem_cons hil] at this
    have e : l[i] = x := by rw [List.getElem?_eq_getElem hil] at hx; exact Option.some.inj hx
    rw [e] at this; exact this.symm
  rw [hsp, List.foldlM_append, h]
  simp [hf]
def stepN (T : DT) (d : DDM) : Option DT := if nameM T.ps d = 0 then some { T with ps := T.ps ++ [(d.name, (d.params.length : Int))] } else none
def stepC (d : DDM) (T : DT) (p : CDM × Nat) : Option DT := if (conM T d p.2 p.1).2 = 0 then some (conM T d p.2 p.1).1 else none
def stepD (T : DT) (d : DDM) : Option DT := d.cons.zipIdx.foldlM (stepC d) T
abbrev sInt : ByteArray := ⟨#[73, 110, 116]⟩
abbrev sBool : ByteArray := ⟨#[66, 111, 111, 108]⟩
abbrev sFalse : ByteArray := ⟨#[70, 97, 108, 115, 101]⟩
abbrev sTrue : ByteArray := ⟨#[84, 114, 117, 101]⟩
def cFalse : CON := ⟨sFalse, sBool, 0, 0, []⟩
def cTrue : CON := ⟨sTrue, sBool, 1, 0, []⟩
def baseT : DT := ⟨[(sInt, 0), (sBool, 0)], [cFalse, cTrue]⟩
def newM (l : List DDM) : Option DT := (l.foldlM stepN baseT).bind fun T => l.foldlM stepD T
/-- Declarations are few. -/
structure Few (l : List DDM) : Prop where
  len : l.length ≤ 31
  each : ∀ d, d ∈ l → d.cons.length ≤ 30 ∧ d.params.length ≤ 30 ∧ ∀ c, c ∈ d.cons → c.fields.length ≤ 30
def DT.okp (T : DT) : Prop := ∀ p, p ∈ T.ps → 0 ≤ p.2 ∧ p.2 ≤ 1000000
theorem okp_base : baseT.okp := by intro p hp; simp [baseT] at hp; rcases hp with rfl | rfl <;> simp
theorem okp_step {T T' : DT} {d : DDM} (h : T.okp) (hd : d.params.length ≤ 30) (hs : stepN T d = some T') : T'.okp ∧ T'.cs = T.cs := by
  unfold stepN at hs
  split at hs
  · cases hs
    refine ⟨fun p hp => ?_, rfl⟩
    simp at hp
    rcases hp with hp | rfl
    · exact h p hp
    · simp only; omega
  · cases hs
theorem conM_cases (T : DT) (d : DDM) (tag : Int) (c : CDM) : (∃ l, T.find c.name = none ∧ fieldsL T.ps d.params c.fields = (l, 0) ∧ conM T d tag c = ({ T with cs := T.cs ++ [⟨c.name, d.name, tag, d.params.length, l⟩] }, 0)) ∨ ((conM T d tag c).2 ≠ 0 ∧ (conM T d tag c).1 = T) := by
  unfold conM
  cases hf : T.find c.name with
  | some x => right; simp
  | none =>
    generalize fieldsL T.ps d.params c.fields = q
    obtain ⟨l, e⟩ := q
    by_cases he : e = 0
    · subst he; left; exact ⟨l, rfl, rfl, by simp⟩
    · right
      simp only [Option.isSome_none, Bool.false_eq_true, if_false]
      first
        | exact ⟨he, trivial⟩
        | (split
           · rename_i h; simp only [Prod.mk.injEq] at h; exact absurd h.2 he
           · rename_i h; simp only [Prod.mk.injEq] at h; obtain ⟨_, rfl⟩ := h; exact ⟨he, rfl⟩)
theorem stepC_ok {T T' : DT} {d : DDM} {p : CDM × Nat} (hs : stepC d T p = some T') : ∃ l, T.find p.1.name = none ∧ fieldsL T.ps d.params p.1.fields = (l, 0) ∧ conM T d p.2 p.1 = (T', 0) ∧ T' = { T with cs := T.cs ++ [⟨p.1.name, d.name, (p.2 : Int), d.params.length, l⟩] } := by
  unfold stepC at hs
  split at hs
  · rename_i h0
    cases hs
    rcases conM_cases T d p.2 p.1 with ⟨l, h1, h2, h3⟩ | ⟨h1, _⟩
    · exact ⟨l, h1, h2, by rw [h3], by rw [h3]⟩
    · exact absurd h0 h1
  · cases hs
theorem foldC_ok {d : DDM} : ∀ (l : List (CDM × Nat)) {T T' : DT}, l.foldlM (stepC d) T = some T' → T'.ps = T.ps ∧ T'.cs.length = T.cs.length + l.length
  | [], T, T', h => by simp at h; subst h; simp
  | p :: l, T, T', h => by
    rw [List.foldlM_cons] at h
    cases hs : stepC d T p with
    | none => rw [hs] at h; cases h
    | some T1 =>
      rw [hs] at h
      obtain ⟨_, _, _, _, rfl⟩ := stepC_ok hs
      obtain ⟨h1, h2⟩ := foldC_ok l h
      exact ⟨h1, by rw [h2]; simp; omega⟩
theorem foldD_ok : ∀ (l : List DDM) {T T' : DT}, (∀ d, d ∈ l → d.cons.length ≤ 30) → l.foldlM stepD T = some T' → T'.ps = T.ps ∧ T'.cs.length ≤ T.cs.length + 30 * l.length
  | [], T, T', _, h => by simp at h; subst h; simp
  | d :: l, T, T', hl, h => by
    rw [List.foldlM_cons] at h
    cases hs : stepD T d with
    | none => rw [hs] at h; cases h
    | some T1 =>
      rw [hs] at h
      obtain ⟨h3, h4⟩ := foldC_ok _ hs
      obtain ⟨h1, h2⟩ := foldD_ok l (fun x hx => hl x (by simp [hx])) h
      have := hl d (by simp)
      simp at h4
      exact ⟨h1.trans h3, by simp only [List.length_cons]; omega⟩
theorem foldN_ok : ∀ (l : List DDM) {T T' : DT}, (∀ d, d ∈ l → d.params.length ≤ 30) → T.okp → l.foldlM stepN T = some T' → T'.okp ∧ T'.cs = T.cs
  | [], T, T', _, h0, h => by simp at h; subst h; exact ⟨h0, rfl⟩
  | d :: l, T, T', hl, h0, h => by
    rw [List.foldlM_cons] at h
    cases hs : stepN T d with
    | none => rw [hs] at h; cases h
    | some T1 =>
      rw [hs] at h
      obtain ⟨h3, h4⟩ := okp_step h0 (hl d (by simp)) hs
      obtain ⟨h1, h2⟩ := foldN_ok l (fun x hx => hl x (by simp [hx])) h3 h
      exact ⟨h1, h2.trans h4⟩
theorem Fr.kp2 {σ s s' : Store} {a b : List Nat} (h : Fr σ s a b) (k : Kp s s') : Fr σ s' a b := ⟨Nat.le_trans h.next k.next, fun i hi hn => by rw [k.keep i (Nat.lt_of_lt_of_le hi h.next), h.keep i hi hn], h.fresh⟩
theorem TblTo.start {σ s : Store} {tid pm cm : Nat} {ces : List (AV × AV)} {ov : AV} {T : DT} (h : TblAt s tid pm cm ces ov T) (k : Kp σ s) (hf : ∀ i, i ∈ TF tid pm cm ov → σ.next ≤ i) : TblTo σ tid [] T s := ⟨pm, cm, ces, ov, h, ⟨k.next, fun i hi _ => k.keep i hi, fun i hi => .inr (hf i hi)⟩⟩
theorem TblTo.kept {σ s : Store} {tid : Nat} {T : DT} (h : TblTo σ tid [] T s) : Kp σ s := by
  obtain ⟨_, _, _, _, _, h2⟩ := h
  exact ⟨h2.next, fun j hj => h2.keep j hj (by simp)⟩
/-- A step more. -/
theorem TblTo.step {σ s s' s2 : Store} {tid pm cm : Nat} {ov : AV} {T' : DT} (hF : Fr σ s [] (TF tid pm cm ov)) (k : Kp s s') (h : TblTo s' tid (TF tid pm cm ov) T' s2) : TblTo σ tid [] T' s2 := by
  obtain ⟨pm', cm', ces', ov', h1, h2⟩ := h
  exact ⟨pm', cm', ces', ov', h1, (hF.kp2 k).trans h2⟩
end Go.AL
namespace Go.Proofs.Ytoejjhehpbmgbaa
open Go.AL
theorem basic_ok (σ : Store) : ACalls Try.prog 48 [] σ fun r σ' => ∃ tid, r = .ptr tid 0 0 0 ∧ TblTo σ tid [] baseT σ' := by
  refine in48 (by simp) ?_
  unfold c48
  have d1 : decide (sBool = sInt) = false := by decide
  have d2 : decide (sTrue = sFalse) = false := by decide
  try simp only [SS, argList, aPut, aFill, ↓reduceIte, Nat.reduceEqDiff, Nat.reduceAdd, Nat.reduceLeDiff, reduceCtorEq, Int.reduceEq, Int.reduceLT, Int.reduceLE, Int.reduceNeg, Int.reduceAdd, Int.reduceSub, Int.reduceToNat, aFind, keyEq_str, d1, mapPut]
  repeat ((with_reducible first | refine AWP_seq ?_ | refine AWP_block ?_ | refine AWP_scope ?_ | refine AWP_reg ?_ | refine AWP_draw ?_ | refine AWP_skip ?_ | refine AWP_ret ?_ | refine AWP_exit ?_ | (refine AWP_cond_true ?_ ?_; · simp only [SS, argList, aPut, aFill, ↓reduceIte, Nat.reduceEqDiff, Nat.reduceAdd, Nat.reduceLeDiff, reduceCtorEq, Int.reduceEq, Int.reduceLT, Int.reduceLE, Int.reduceNeg, Int.reduceAdd, Int.reduceSub, Int.reduceToNat, aFind, keyEq_str, d1, mapPut]) | (refine AWP_cond_false ?_ ?_; · simp only [SS, argList, aPut, aFill, ↓reduceIte, Nat.reduceEqDiff, Nat.reduceAdd, Nat.reduceLeDiff, reduceCtorEq, Int.reduceEq, Int.reduceLT, Int.reduceLE, Int.reduceNeg, Int.reduceAdd, Int.reduceSub, Int.reduceToNat, aFind, keyEq_str, d1, mapPut])); try simp only [SS, argList, aPut, aFill, ↓reduceIte, Nat.reduceEqDiff, Nat.reduceAdd, Nat.reduceLeDiff, reduceCtorEq, Int.reduceEq, Int.reduceLT, Int.reduceLE, Int.reduceNeg, Int.reduceAdd, Int.reduceSub, Int.reduceToNat, aFind, keyEq_str, d1, mapPut])
  generalize hs0 : Store.push _ _ = s0
  have k0 : Kp σ s0 := by rw [← hs0]; exact (((Kp.refl σ).push _).push _).push _
  have hT0 : TblAt s0 (σ.next + 1 + 1) σ.next (σ.next + 1) [] .nils ⟨[(sInt, 0), (sBool, 0)], []⟩ := by
    refine ⟨by rw [← hs0]; simp [Store.push_get, Store.push_next], by rw [← hs0]; simp [Store.push_get, Store.push_next, self_ne2], by rw [← hs0]; simp [Store.push_get, Store.push_next], by omega, rfl, by simp, .nil _ _ _⟩
  clear hs0
  have hF0 : Fr σ s0 [] (TF (σ.next + 1 + 1) σ.next (σ.next + 1) .nils) := ⟨k0.next, fun i hi _ => k0.keep i hi, fun i hi => by simp [TF, slIds] at hi; right; omega⟩
  refine (put_ok hT0 (by simp) cFalse (fv := .nils) .nils rfl).mono ?_
  rintro r s1 ⟨rfl, hT1⟩
  obtain ⟨pm, cm, ces, ov, hA, hF1⟩ := hT1
  try simp only [SS, argList, aPut, aFill, ↓reduceIte, Nat.reduceEqDiff, Nat.reduceAdd, Nat.reduceLeDiff, reduceCtorEq, Int.reduceEq, Int.reduceLT, Int.reduceLE, Int.reduceNeg, Int.reduceAdd, Int.reduceSub, Int.reduceToNat]
  repeat ((with_reducible first | refine AWP_seq ?_ | refine AWP_block ?_ | refine AWP_scope ?_ | refine AWP_reg ?_ | refine AWP_draw ?_ | refine AWP_skip ?_ | refine AWP_ret ?_ | refine AWP_exit ?_ | (refine AWP_cond_true ?_ ?_; · simp only [SS, argList, aPut, aFill, ↓reduceIte, Nat.reduceEqDiff, Nat.reduceAdd, Nat.reduceLeDiff, reduceCtorEq, Int.reduceEq, Int.reduceLT, Int.reduceLE, Int.reduceNeg, Int.reduceAdd, Int.reduceSub, Int.reduceToNat]) | (refine AWP_cond_false ?_ ?_; · simp only [SS, argList, aPut, aFill, ↓reduceIte, Nat.reduceEqDiff, Nat.reduceAdd, Nat.reduceLeDiff, reduceCtorEq, Int.reduceEq, Int.reduceLT, Int.reduceLE, Int.reduceNeg, Int.reduceAdd, Int.reduceSub, Int.reduceToNat])); try simp only [SS, argList, aPut, aFill, ↓reduceIte, Nat.reduceEqDiff, Nat.reduceAdd, Nat.reduceLeDiff, reduceCtorEq, Int.reduceEq, Int.reduceLT, Int.reduceLE, Int.reduceNeg, Int.reduceAdd, Int.reduceSub, Int.reduceToNat])
  refine (put_ok hA (by simp) cTrue (fv := .nils) .nils (by decide)).mono ?_
  rintro r s2 ⟨rfl, hT2⟩
  try simp only [SS, argList, aPut, aFill, ↓reduceIte, Nat.reduceEqDiff, Nat.reduceAdd, Nat.reduceLeDiff, reduceCtorEq, Int.reduceEq, Int.reduceLT, Int.reduceLE, Int.reduceNeg, Int.reduceAdd, Int.reduceSub, Int.reduceToNat]
  repeat ((with_reducible first | refine AWP_seq ?_ | refine AWP_block ?_ | refine AWP_scope ?_ | refine AWP_reg ?_ | refine AWP_draw ?_ | refine AWP_skip ?_ | refine AWP_ret ?_ | refine AWP_exit ?_ | (refine AWP_cond_true ?_ ?_; · simp only [SS, argList, aPut, aFill, ↓reduceIte, Nat.reduceEqDiff, Nat.reduceAdd, Nat.reduceLeDiff, reduceCtorEq, Int.reduceEq, Int.reduceLT, Int.reduceLE, Int.reduceNeg, Int.reduceAdd, Int.reduceSub, Int.reduceToNat]) | (refine AWP_cond_false ?_ ?_; · simp only [SS, argList, aPut, aFill, ↓reduceIte, Nat.reduceEqDiff, Nat.reduceAdd, Nat.reduceLeDiff, reduceCtorEq, Int.reduceEq, Int.reduceLT, Int.reduceLE, Int.reduceNeg, Int.reduceAdd, Int.reduceSub, Int.reduceToNat])); try simp only [SS, argList, aPut, aFill, ↓reduceIte, Nat.reduceEqDiff, Nat.reduceAdd, Nat.reduceLeDiff, reduceCtorEq, Int.reduceEq, Int.reduceLT, Int.reduceLE, Int.reduceNeg, Int.reduceAdd, Int.reduceSub, Int.reduceToNat])
  exact ⟨_, rfl, hT2.step (hF0.trans hF1) (.refl _)⟩
/-- What New answers, and makes. -/
def NewR (σ : Store) (l : List DDM) (r : AV) (s : Store) : Prop :=
  (∃ T tid, newM l = some T ∧ r = .tuple [.ptr tid 0 0 0, .agg [.int .i64 0, .int .i64 0, .int .i64 0]] ∧ TblTo σ tid [] T s) ∨
  (newM l = none ∧ ∃ e a b, e ≠ 0 ∧ r = .tuple [.nilp, .agg [.int .i64 e, .int .i64 a, .int .i64 b]] ∧ Kp σ s)
@[congr] theorem NewR_congr {w : Prop} (hw : Visit = w) {σ : Store} {l : List DDM} {r r' : AV} {s s' : Store} (h : r = r') (h' : s = s') : NewR σ l r s = NewR σ l r' s' := by rw [h, h']
theorem new_ok' (σ : Store) (l : List DDM) (hf : Few l) : ACalls Try.prog 30 [.list (l.map DDM.cells)] σ (NewR σ l) := by
  have hlen := hf.len
  refine in30 (by simp) ?_
  unfold c30
  try simp only [SS, argList, aPut, aFill, ↓reduceIte, Nat.reduceEqDiff, Nat.reduceAdd, Nat.reduceLeDiff, reduceCtorEq, Int.reduceEq, Int.reduceLT, Int.reduceLE, Int.reduceNeg, Int.reduceAdd, Int.reduceSub, Int.reduceToNat]
  repeat ((with_reducible first | refine AWP_seq ?_ | refine AWP_block ?_ | refine AWP_scope ?_ | refine AWP_reg ?_ | refine AWP_draw ?_ | refine AWP_skip ?_ | refine AWP_ret ?_ | refine AWP_exit ?_ | (refine AWP_cond_true ?_ ?_; · simp only [SS, argList, aPut, aFill, ↓reduceIte, Nat.reduceEqDiff, Nat.reduceAdd, Nat.reduceLeDiff, reduceCtorEq, Int.reduceEq, Int.reduceLT, Int.reduceLE, Int.reduceNeg, Int.reduceAdd, Int.reduceSub, Int.reduceToNat]) | (refine AWP_cond_false ?_ ?_; · simp only [SS, argList, aPut, aFill, ↓reduceIte, Nat.reduceEqDiff, Nat.reduceAdd, Nat.reduceLeDiff, reduceCtorEq, Int.reduceEq, Int.reduceLT, Int.reduceLE, Int.reduceNeg, Int.reduceAdd, Int.reduceSub, Int.reduceToNat])); try simp only [SS, argList, aPut, aFill, ↓reduceIte, Nat.reduceEqDiff, Nat.reduceAdd, Nat.reduceLeDiff, reduceCtorEq, Int.reduceEq, Int.reduceLT, Int.reduceLE, Int.reduceNeg, Int.reduceAdd, Int.reduceSub, Int.reduceToNat])
  refine (basic_ok _).mono ?_
  rintro r s0 ⟨tid, rfl, hT0⟩
  have ks0 := hT0.kept
  try simp only [SS, argList, aPut, aFill, ↓reduceIte, Nat.reduceEqDiff, Nat.reduceAdd, Nat.reduceLeDiff, reduceCtorEq, Int.reduceEq, Int.reduceLT, Int.reduceLE, Int.reduceNeg, Int.reduceAdd, Int.reduceSub, Int.reduceToNat]
  repeat ((with_reducible first | refine AWP_seq ?_ | refine AWP_block ?_ | refine AWP_scope ?_ | refine AWP_reg ?_ | refine AWP_draw ?_ | refine AWP_skip ?_ | refine AWP_ret ?_ | refine AWP_exit ?_ | (refine AWP_cond_true ?_ ?_; · simp only [SS, argList, aPut, aFill, ↓reduceIte, Nat.reduceEqDiff, Nat.reduceAdd, Nat.reduceLeDiff, reduceCtorEq, Int.reduceEq, Int.reduceLT, Int.reduceLE, Int.reduceNeg, Int.reduceAdd, Int.reduceSub, Int.reduceToNat]) | (refine AWP_cond_false ?_ ?_; · simp only [SS, argList, aPut, aFill, ↓reduceIte, Nat.reduceEqDiff, Nat.reduceAdd, Nat.reduceLeDiff, reduceCtorEq, Int.reduceEq, Int.reduceLT, Int.reduceLE, Int.reduceNeg, Int.reduceAdd, Int.reduceSub, Int.reduceToNat])); try simp only [SS, argList, aPut, aFill, ↓reduceIte, Nat.reduceEqDiff, Nat.reduceAdd, Nat.reduceLeDiff, reduceCtorEq, Int.reduceEq, Int.reduceLT, Int.reduceLE, Int.reduceNeg, Int.reduceAdd, Int.reduceSub, Int.reduceToNat])
  refine AWP_while [0, 3, 4, 14, 15, 16] (fun y : DT × Nat => l.length - y.2) (fun y => [.list (l.map DDM.cells), .ptr σ.next 0 0 0, .ptr tid 0 0 0, .list (l.map DDM.cells), .int .i64 l.length, .int .i64 y.2])
    (fun y s => y.2 ≤ l.length ∧ (l.take y.2).foldlM stepN baseT = some y.1 ∧ TblTo (σ.push (.cells 69 0 3 [[.int .i64 0, .int .i64 0, .int .i64 0]])) tid [] y.1 s) (baseT, 0) ⟨by simp, by simp, hT0⟩ ?_ ?_
  · try simp only [SS, argList, aPut, aFill, ↓reduceIte, Nat.reduceEqDiff, Nat.reduceAdd, Nat.reduceLeDiff, reduceCtorEq, Int.reduceEq, Int.reduceLT, Int.reduceLE, Int.reduceNeg, Int.reduceAdd, Int.reduceSub, Int.reduceToNat]
    repeat ((with_reducible first | refine AWP_seq ?_ | refine AWP_block ?_ | refine AWP_scope ?_ | refine AWP_reg ?_ | refine AWP_draw ?_ | refine AWP_skip ?_ | refine AWP_ret ?_ | refine AWP_exit ?_ | (refine AWP_cond_true ?_ ?_; · simp only [SS, argList, aPut, aFill, ↓reduceIte, Nat.reduceEqDiff, Nat.reduceAdd, Nat.reduceLeDiff, reduceCtorEq, Int.reduceEq, Int.reduceLT, Int.reduceLE, Int.reduceNeg, Int.reduceAdd, Int.reduceSub, Int.reduceToNat]) | (refine AWP_cond_false ?_ ?_; · simp only [SS, argList, aPut, aFill, ↓reduceIte, Nat.reduceEqDiff, Nat.reduceAdd, Nat.reduceLeDiff, reduceCtorEq, Int.reduceEq, Int.reduceLT, Int.reduceLE, Int.reduceNeg, Int.reduceAdd, Int.reduceSub, Int.reduceToNat])); try simp only [SS, argList, aPut, aFill, ↓reduceIte, Nat.reduceEqDiff, Nat.reduceAdd, Nat.reduceLeDiff, reduceCtorEq, Int.reduceEq, Int.reduceLT, Int.reduceLE, Int.reduceNeg, Int.reduceAdd, Int.reduceSub, Int.reduceToNat])
    rfl
  · rintro ⟨T, i⟩ s ⟨hi, hfold, hT⟩
    simp only at hi hfold hT
    have hks := hT.kept
    obtain ⟨hb, hlt, hk0⟩ := hks.box
    obtain ⟨hokp, hcs⟩ := foldN_ok _ (fun d hd => (hf.each d (List.mem_of_mem_take hd)).2.1) okp_base hfold
    by_cases hil : i < l.length
    · have hil' : (i : Int) < (l.length : Int) := by omega
      obtain ⟨d, hd⟩ : ∃ d, l[i]? = some d := ⟨_, List.getElem?_eq_getElem hil⟩
      have hg : (l.map DDM.cells)[i]? = some d.cells := by simp [hd]
      have hfd := hf.each d (List.mem_of_getElem? hd)
      obtain ⟨pm, cm, ces, ov, hA, hF⟩ := hT
      have hnx := lt_ne hlt
      try simp only [SS, argList, aPut, aFill, ↓reduceIte, Nat.reduceEqDiff, Nat.reduceAdd, Nat.reduceLeDiff, reduceCtorEq, Int.reduceEq, Int.reduceLT, Int.reduceLE, Int.reduceNeg, Int.reduceAdd, Int.reduceSub, Int.reduceToNat, hil', hg, DDM.cells]
      repeat ((with_reducible first | refine AWP_seq ?_ | refine AWP_block ?_ | refine AWP_scope ?_ | refine AWP_reg ?_ | refine AWP_draw ?_ | refine AWP_skip ?_ | refine AWP_ret ?_ | refine AWP_exit ?_ | (refine AWP_cond_true ?_ ?_; · simp only [SS, argList, aPut, aFill, ↓reduceIte, Nat.reduceEqDiff, Nat.reduceAdd, Nat.reduceLeDiff, reduceCtorEq, Int.reduceEq, Int.reduceLT, Int.reduceLE, Int.reduceNeg, Int.reduceAdd, Int.reduceSub, Int.reduceToNat, hil', hg, DDM.cells]) | (refine AWP_cond_false ?_ ?_; · simp only [SS, argList, aPut, aFill, ↓reduceIte, Nat.reduceEqDiff, Nat.reduceAdd, Nat.reduceLeDiff, reduceCtorEq, Int.reduceEq, Int.reduceLT, Int.reduceLE, Int.reduceNeg, Int.reduceAdd, Int.reduceSub, Int.reduceToNat, hil', hg, DDM.cells])); try simp only [SS, argList, aPut, aFill, ↓reduceIte, Nat.reduceEqDiff, Nat.reduceAdd, Nat.reduceLeDiff, reduceCtorEq, Int.reduceEq, Int.reduceLT, Int.reduceLE, Int.reduceNeg, Int.reduceAdd, Int.reduceSub, Int.reduceToNat, hil', hg, DDM.cells])
      refine (name_ok (hA.kp (.pushed s (.cells 65 0 5 [d.cells]))) d (by omega)).mono ?_
      rintro r s2 ⟨rfl, hT2⟩
      have hT3 := hT2.step hF (.pushed s _)
      by_cases hz : nameM T.ps d = 0
      · rw [if_pos hz] at hT3
        try simp only [SS, argList, aPut, aFill, ↓reduceIte, Nat.reduceEqDiff, Nat.reduceAdd, Nat.reduceLeDiff, reduceCtorEq, Int.reduceEq, Int.reduceLT, Int.reduceLE, Int.reduceNeg, Int.reduceAdd, Int.reduceSub, Int.reduceToNat, hz, wrap_succ (i := i) (by omega)]
        repeat ((with_reducible first | refine AWP_seq ?_ | refine AWP_block ?_ | refine AWP_scope ?_ | refine AWP_reg ?_ | refine AWP_draw ?_ | refine AWP_skip ?_ | refine AWP_ret ?_ | refine AWP_exit ?_ | (refine AWP_cond_true ?_ ?_; · simp only [SS, argList, aPut, aFill, ↓reduceIte, Nat.reduceEqDiff, Nat.reduceAdd, Nat.reduceLeDiff, reduceCtorEq, Int.reduceEq, Int.reduceLT, Int.reduceLE, Int.reduceNeg, Int.reduceAdd, Int.reduceSub, Int.reduceToNat, hz, wrap_succ (i := i) (by omega)]) | (refine AWP_cond_false ?_ ?_; · simp only [SS, argList, aPut, aFill, ↓reduceIte, Nat.reduceEqDiff, Nat.reduceAdd, Nat.reduceLeDiff, reduceCtorEq, Int.reduceEq, Int.reduceLT, Int.reduceLE, Int.reduceNeg, Int.reduceAdd, Int.reduceSub, Int.reduceToNat, hz, wrap_succ (i := i) (by omega)])); try simp only [SS, argList, aPut, aFill, ↓reduceIte, Nat.reduceEqDiff, Nat.reduceAdd, Nat.reduceLeDiff, reduceCtorEq, Int.reduceEq, Int.reduceLT, Int.reduceLE, Int.reduceNeg, Int.reduceAdd, Int.reduceSub, Int.reduceToNat, hz, wrap_succ (i := i) (by omega)])
        exact ⟨(_, i + 1), rfl, ⟨by simp only; omega, by simp only; rw [fold_next stepN baseT hd hfold]; unfold stepN; rw [if_pos hz], hT3⟩, by simp only; omega⟩
      · rw [if_neg hz] at hT3 hT2
        obtain ⟨_, _, _, _, _, hF2⟩ := hT2
        have hb2 : s2.get s.next = some (.cells 65 0 5 [d.cells]) := by
          rw [hF2.keep _ (by simp [Store.push_next]) (fun hm => by have := hA.lt hm; omega)]
          simp [Store.push_get]
        obtain ⟨hb3, hlt3, hk3⟩ := hT3.kept.box
        try simp only [SS, argList, aPut, aFill, ↓reduceIte, Nat.reduceEqDiff, Nat.reduceAdd, Nat.reduceLeDiff, reduceCtorEq, Int.reduceEq, Int.reduceLT, Int.reduceLE, Int.reduceNeg, Int.reduceAdd, Int.reduceSub, Int.reduceToNat, hz, hb2, hb3, DDM.cells, Store.get_upd _ _ hlt3]
        repeat ((with_reducible first | refine AWP_seq ?_ | refine AWP_block ?_ | refine AWP_scope ?_ | refine AWP_reg ?_ | refine AWP_draw ?_ | refine AWP_skip ?_ | refine AWP_ret ?_ | refine AWP_exit ?_ | (refine AWP_cond_true ?_ ?_; · simp only [SS, argList, aPut, aFill, ↓reduceIte, Nat.reduceEqDiff, Nat.reduceAdd, Nat.reduceLeDiff, reduceCtorEq, Int.reduceEq, Int.reduceLT, Int.reduceLE, Int.reduceNeg, Int.reduceAdd, Int.reduceSub, Int.reduceToNat, hz, hb2, hb3, DDM.cells, Store.get_upd _ _ hlt3]) | (refine AWP_cond_false ?_ ?_; · simp only [SS, argList, aPut, aFill, ↓reduceIte, Nat.reduceEqDiff, Nat.reduceAdd, Nat.reduceLeDiff, reduceCtorEq, Int.reduceEq, Int.reduceLT, Int.reduceLE, Int.reduceNeg, Int.reduceAdd, Int.reduceSub, Int.reduceToNat, hz, hb2, hb3, DDM.cells, Store.get_upd _ _ hlt3])); try simp only [SS, argList, aPut, aFill, ↓reduceIte, Nat.reduceEqDiff, Nat.reduceAdd, Nat.reduceLeDiff, reduceCtorEq, Int.reduceEq, Int.reduceLT, Int.reduceLE, Int.reduceNeg, Int.reduceAdd, Int.reduceSub, Int.reduceToNat, hz, hb2, hb3, DDM.cells, Store.get_upd _ _ hlt3])
        refine .inr ⟨?_, _, _, _, hz, rfl, hk3.upd (Nat.le_refl _) _⟩
        have : l.foldlM stepN baseT = none := fold_fail stepN baseT hd hfold (by unfold stepN; rw [if_neg hz])
        unfold newM; rw [this]; rfl
    · have hil' : ¬ (i : Int) < (l.length : Int) := by omega
      rw [List.take_of_length_le (by omega)] at hfold
      try simp only [SS, argList, aPut, aFill, ↓reduceIte, Nat.reduceEqDiff, Nat.reduceAdd, Nat.reduceLeDiff, reduceCtorEq, Int.reduceEq, Int.reduceLT, Int.reduceLE, Int.reduceNeg, Int.reduceAdd, Int.reduceSub, Int.reduceToNat, hil']
      repeat ((with_reducible first | refine AWP_seq ?_ | refine AWP_block ?_ | refine AWP_scope ?_ | refine AWP_reg ?_ | refine AWP_draw ?_ | refine AWP_skip ?_ | refine AWP_ret ?_ | refine AWP_exit ?_ | (refine AWP_cond_true ?_ ?_; · simp only [SS, argList, aPut, aFill, ↓reduceIte, Nat.reduceEqDiff, Nat.reduceAdd, Nat.reduceLeDiff, reduceCtorEq, Int.reduceEq, Int.reduceLT, Int.reduceLE, Int.reduceNeg, Int.reduceAdd, Int.reduceSub, Int.reduceToNat, hil']) | (refine AWP_cond_false ?_ ?_; · simp only [SS, argList, aPut, aFill, ↓reduceIte, Nat.reduceEqDiff, Nat.reduceAdd, Nat.reduceLeDiff, reduceCtorEq, Int.reduceEq, Int.reduceLT, Int.reduceLE, Int.reduceNeg, Int.reduceAdd, Int.reduceSub, Int.reduceToNat, hil'])); try simp only [SS, argList, aPut, aFill, ↓reduceIte, Nat.reduceEqDiff, Nat.reduceAdd, Nat.reduceLeDiff, reduceCtorEq, Int.reduceEq, Int.reduceLT, Int.reduceLE, Int.reduceNeg, Int.reduceAdd, Int.reduceSub, Int.reduceToNat, hil'])
      clear hb hlt hk0 hks
      refine AWP_while [3, 4, 30, 31, 32] (fun y : DT × Nat => l.length - y.2) (fun y => [.ptr σ.next 0 0 0, .ptr tid 0 0 0, .list (l.map DDM.cells), .int .i64 l.length, .int .i64 y.2])
        (fun y s => y.2 ≤ l.length ∧ (l.take y.2).foldlM stepD T = some y.1 ∧ TblTo (σ.push (.cells 69 0 3 [[.int .i64 0, .int .i64 0, .int .i64 0]])) tid [] y.1 s) (T, 0) ⟨by simp, by simp, hT⟩ ?_ ?_
      · try simp only [SS, argList, aPut, aFill, ↓reduceIte, Nat.reduceEqDiff, Nat.reduceAdd, Nat.reduceLeDiff, reduceCtorEq, Int.reduceEq, Int.reduceLT, Int.reduceLE, Int.reduceNeg, Int.reduceAdd, Int.reduceSub, Int.reduceToNat]
        repeat ((with_reducible first | refine AWP_seq ?_ | refine AWP_block ?_ | refine AWP_scope ?_ | refine AWP_reg ?_ | refine AWP_draw ?_ | refine AWP_skip ?_ | refine AWP_ret ?_ | refine AWP_exit ?_ | (refine AWP_cond_true ?_ ?_; · simp only [SS, argList, aPut, aFill, ↓reduceIte, Nat.reduceEqDiff, Nat.reduceAdd, Nat.reduceLeDiff, reduceCtorEq, Int.reduceEq, Int.reduceLT, Int.reduceLE, Int.reduceNeg, Int.reduceAdd, Int.reduceSub, Int.reduceToNat]) | (refine AWP_cond_false ?_ ?_; · simp only [SS, argList, aPut, aFill, ↓reduceIte, Nat.reduceEqDiff, Nat.reduceAdd, Nat.reduceLeDiff, reduceCtorEq, Int.reduceEq, Int.reduceLT, Int.reduceLE, Int.reduceNeg, Int.reduceAdd, Int.reduceSub, Int.reduceToNat])); try simp only [SS, argList, aPut, aFill, ↓reduceIte, Nat.reduceEqDiff, Nat.reduceAdd, Nat.reduceLeDiff, reduceCtorEq, Int.reduceEq, Int.reduceLT, Int.reduceLE, Int.reduceNeg, Int.reduceAdd, Int.reduceSub, Int.reduceToNat])
        rfl
      · clear hT hi hil hil'
        rintro ⟨T1, j⟩ s ⟨hj, hfold1, hT⟩
        simp only at hj hfold1 hT
        obtain ⟨hb, hlt, hk0⟩ := hT.kept.box
        obtain ⟨hps1, hcl1⟩ := foldD_ok _ (fun d hd => (hf.each d (List.mem_of_mem_take hd)).1) hfold1
        have hcs1 : T1.cs.length ≤ 2 + 30 * l.length := by
          rw [hcs] at hcl1
          have : baseT.cs.length = 2 := rfl
          simp at hcl1
          omega
        have hokp1 : T1.okp := by unfold DT.okp; rw [hps1]; exact hokp
        by_cases hjl : j < l.length
        · have hjl' : (j : Int) < (l.length : Int) := by omega
          obtain ⟨d, hd⟩ : ∃ d, l[j]? = some d := ⟨_, List.getElem?_eq_getElem hjl⟩
          have hg : (l.map DDM.cells)[j]? = some d.cells := by simp [hd]
          have hfd := hf.each d (List.mem_of_getElem? hd)
          have hT1 : TblTo (σ.push (.cells 69 0 3 [[.int .i64 0, .int .i64 0, .int .i64 0]])) tid [] T1 (s.push (.cells 65 0 5 [d.cells])) := hT.kp (.pushed _ _)
          have hnt : ∀ pm cm ces ov, TblAt (s.push (.cells 65 0 5 [d.cells])) tid pm cm ces ov T1 → True := fun _ _ _ _ _ => trivial
          try simp only [SS, argList, aPut, aFill, ↓reduceIte, Nat.reduceEqDiff, Nat.reduceAdd, Nat.reduceLeDiff, reduceCtorEq, Int.reduceEq, Int.reduceLT, Int.reduceLE, Int.reduceNeg, Int.reduceAdd, Int.reduceSub, Int.reduceToNat, hjl', hg, DDM.cells]
          repeat ((with_reducible first | refine AWP_seq ?_ | refine AWP_block ?_ | refine AWP_scope ?_ | refine AWP_reg ?_ | refine AWP_draw ?_ | refine AWP_skip ?_ | refine AWP_ret ?_ | refine AWP_exit ?_ | (refine AWP_cond_true ?_ ?_; · simp only [SS, argList, aPut, aFill, ↓reduceIte, Nat.reduceEqDiff, Nat.reduceAdd, Nat.reduceLeDiff, reduceCtorEq, Int.reduceEq, Int.reduceLT, Int.reduceLE, Int.reduceNeg, Int.reduceAdd, Int.reduceSub, Int.reduceToNat, hjl', hg, DDM.cells]) | (refine AWP_cond_false ?_ ?_; · simp only [SS, argList, aPut, aFill, ↓reduceIte, Nat.reduceEqDiff, Nat.reduceAdd, Nat.reduceLeDiff, reduceCtorEq, Int.reduceEq, Int.reduceLT, Int.reduceLE, Int.reduceNeg, Int.reduceAdd, Int.reduceSub, Int.reduceToNat, hjl', hg, DDM.cells])); try simp only [SS, argList, aPut, aFill, ↓reduceIte, Nat.reduceEqDiff, Nat.reduceAdd, Nat.reduceLeDiff, reduceCtorEq, Int.reduceEq, Int.reduceLT, Int.reduceLE, Int.reduceNeg, Int.reduceAdd, Int.reduceSub, Int.reduceToNat, hjl', hg, DDM.cells])
          refine AWP_while [3, 4, 9, 30, 31, 32, 37, 38, 39] (fun y : DT × Nat => d.cons.length - y.2) (fun y => [.ptr σ.next 0 0 0, .ptr tid 0 0 0, .ptr s.next 0 0 0, .list (l.map DDM.cells), .int .i64 l.length, .int .i64 j, .list (d.cons.map CDM.cells), .int .i64 d.cons.length, .int .i64 y.2])
            (fun y t => y.2 ≤ d.cons.length ∧ (d.cons.zipIdx.take y.2).foldlM (stepC d) T1 = some y.1 ∧ TblTo (σ.push (.cells 69 0 3 [[.int .i64 0, .int .i64 0, .int .i64 0]])) tid [] y.1 t ∧ t.get s.next = some (.cells 65 0 5 [d.cells]) ∧ s.next < t.next ∧ ∃ pm cm ces ov, TblAt t tid pm cm ces ov y.1 ∧ ¬ s.next ∈ TF tid pm cm ov ∧ Fr (σ.push (.cells 69 0 3 [[.int .i64 0, .int .i64 0, .int .i64 0]])) t [] (TF tid pm cm ov))
            (T1, 0) ⟨by simp, by simp, hT1, by simp [Store.push_get, DDM.cells], by simp [Store.push_next], ?_⟩ ?_ ?_
          · obtain ⟨pm, cm, ces, ov, hA, hF⟩ := hT
            exact ⟨pm, cm, ces, ov, hA.kp (.pushed _ _), fun hm => by have := hA.lt hm; omega, hF.kp2 (.pushed _ _)⟩
          · try simp only [SS, argList, aPut, aFill, ↓reduceIte, Nat.reduceEqDiff, Nat.reduceAdd, Nat.reduceLeDiff, reduceCtorEq, Int.reduceEq, Int.reduceLT, Int.reduceLE, Int.reduceNeg, Int.reduceAdd, Int.reduceSub, Int.reduceToNat]
            repeat ((with_reducible first | refine AWP_seq ?_ | refine AWP_block ?_ | refine AWP_scope ?_ | refine AWP_reg ?_ | refine AWP_draw ?_ | refine AWP_skip ?_ | refine AWP_ret ?_ | refine AWP_exit ?_ | (refine AWP_cond_true ?_ ?_; · simp only [SS, argList, aPut, aFill, ↓reduceIte, Nat.reduceEqDiff, Nat.reduceAdd, Nat.reduceLeDiff, reduceCtorEq, Int.reduceEq, Int.reduceLT, Int.reduceLE, Int.reduceNeg, Int.reduceAdd, Int.reduceSub, Int.reduceToNat]) | (refine AWP_cond_false ?_ ?_; · simp only [SS, argList, aPut, aFill, ↓reduceIte, Nat.reduceEqDiff, Nat.reduceAdd, Nat.reduceLeDiff, reduceCtorEq, Int.reduceEq, Int.reduceLT, Int.reduceLE, Int.reduceNeg, Int.reduceAdd, Int.reduceSub, Int.reduceToNat])); try simp only [SS, argList, aPut, aFill, ↓reduceIte, Nat.reduceEqDiff, Nat.reduceAdd, Nat.reduceLeDiff, reduceCtorEq, Int.reduceEq, Int.reduceLT, Int.reduceLE, Int.reduceNeg, Int.reduceAdd, Int.reduceSub, Int.reduceToNat])
            rfl
          · rintro ⟨T2, k⟩ t ⟨hk, hfold2, hT2, hbd, hsn, pm, cm, ces, ov, hA, hno, hF⟩
            simp only at hk hfold2 hT2 hA
            obtain ⟨hps2, hcl2⟩ := foldC_ok _ hfold2
            obtain ⟨hb2, hlt2, hk2⟩ := hT2.kept.box
            by_cases hkl : k < d.cons.length
            · have hkl' : (k : Int) < (d.cons.length : Int) := by omega
              obtain ⟨c, hc⟩ : ∃ c, d.cons[k]? = some c := ⟨_, List.getElem?_eq_getElem hkl⟩
              have hgc : (d.cons.map CDM.cells)[k]? = some c.cells := by simp [hc]
              have hcz : d.cons.zipIdx[k]? = some (c, k) := by simp [hc]
              have hfc := hfd.2.2 c (List.mem_of_getElem? hc)
              have hx1 := lt_ne hsn
              try simp only [SS, argList, aPut, aFill, ↓reduceIte, Nat.reduceEqDiff, Nat.reduceAdd, Nat.reduceLeDiff, reduceCtorEq, Int.reduceEq, Int.reduceLT, Int.reduceLE, Int.reduceNeg, Int.reduceAdd, Int.reduceSub, Int.reduceToNat, hkl', hgc, CDM.cells, hbd, hx1, DDM.cells]
              repeat ((with_reducible first | refine AWP_seq ?_ | refine AWP_block ?_ | refine AWP_scope ?_ | refine AWP_reg ?_ | refine AWP_draw ?_ | refine AWP_skip ?_ | refine AWP_ret ?_ | refine AWP_exit ?_ | (refine AWP_cond_true ?_ ?_; · simp only [SS, argList, aPut, aFill, ↓reduceIte, Nat.reduceEqDiff, Nat.reduceAdd, Nat.reduceLeDiff, reduceCtorEq, Int.reduceEq, Int.reduceLT, Int.reduceLE, Int.reduceNeg, Int.reduceAdd, Int.reduceSub, Int.reduceToNat, hkl', hgc, CDM.cells, hbd, hx1, DDM.cells]) | (refine AWP_cond_false ?_ ?_; · simp only [SS, argList, aPut, aFill, ↓reduceIte, Nat.reduceEqDiff, Nat.reduceAdd, Nat.reduceLeDiff, reduceCtorEq, Int.reduceEq, Int.reduceLT, Int.reduceLE, Int.reduceNeg, Int.reduceAdd, Int.reduceSub, Int.reduceToNat, hkl', hgc, CDM.cells, hbd, hx1, DDM.cells])); try simp only [SS, argList, aPut, aFill, ↓reduceIte, Nat.reduceEqDiff, Nat.reduceAdd, Nat.reduceLeDiff, reduceCtorEq, Int.reduceEq, Int.reduceLT, Int.reduceLE, Int.reduceNeg, Int.reduceAdd, Int.reduceSub, Int.reduceToNat, hkl', hgc, CDM.cells, hbd, hx1, DDM.cells])
              have hokp2 : T2.okp := by unfold DT.okp; rw [hps2]; exact hokp1
              refine (con_ok (hA.kp (.pushed t (.cells 105 0 4 [c.cells]))) (by simp at hcl2; omega) hokp2 d (by omega) k c (by omega)).mono ?_
              rintro r t2 ⟨rfl, hT3⟩
              have hT4 := hT3.step hF (.pushed t _)
              obtain ⟨pm3, cm3, ces3, ov3, hA3, hF3⟩ := hT3
              have hbd3 : t2.get s.next = some (.cells 65 0 5 [d.cells]) := by rw [hF3.keep _ (by simp only [Store.push_next]; omega) hno, Store.push_get, if_neg (by omega)]; exact hbd
              have n3 := hF3.next
              simp only [Store.push_next] at n3
              by_cases hz : (conM T2 d k c).2 = 0
              · try simp only [SS, argList, aPut, aFill, ↓reduceIte, Nat.reduceEqDiff, Nat.reduceAdd, Nat.reduceLeDiff, reduceCtorEq, Int.reduceEq, Int.reduceLT, Int.reduceLE, Int.reduceNeg, Int.reduceAdd, Int.reduceSub, Int.reduceToNat, hz, wrap_succ (i := k) (by omega)]
                repeat ((with_reducible first | refine AWP_seq ?_ | refine AWP_block ?_ | refine AWP_scope ?_ | refine AWP_reg ?_ | refine AWP_draw ?_ | refine AWP_skip ?_ | refine AWP_ret ?_ | refine AWP_exit ?_ | (refine AWP_cond_true ?_ ?_; · simp only [SS, argList, aPut, aFill, ↓reduceIte, Nat.reduceEqDiff, Nat.reduceAdd, Nat.reduceLeDiff, reduceCtorEq, Int.reduceEq, Int.reduceLT, Int.reduceLE, Int.reduceNeg, Int.reduceAdd, Int.reduceSub, Int.reduceToNat, hz, wrap_succ (i := k) (by omega)]) | (refine AWP_cond_false ?_ ?_; · simp only [SS, argList, aPut, aFill, ↓reduceIte, Nat.reduceEqDiff, Nat.reduceAdd, Nat.reduceLeDiff, reduceCtorEq, Int.reduceEq, Int.reduceLT, Int.reduceLE, Int.reduceNeg, Int.reduceAdd, Int.reduceSub, Int.reduceToNat, hz, wrap_succ (i := k) (by omega)])); try simp only [SS, argList, aPut, aFill, ↓reduceIte, Nat.reduceEqDiff, Nat.reduceAdd, Nat.reduceLeDiff, reduceCtorEq, Int.reduceEq, Int.reduceLT, Int.reduceLE, Int.reduceNeg, Int.reduceAdd, Int.reduceSub, Int.reduceToNat, hz, wrap_succ (i := k) (by omega)])
                refine ⟨(_, k + 1), rfl, ⟨by simp only; omega, by simp only; rw [fold_next (stepC d) T1 hcz hfold2]; unfold stepC; rw [if_pos hz], hT4, hbd3, by omega, pm3, cm3, ces3, ov3, hA3, fun hm => ?_, (hF.kp2 (.pushed t _)).trans hF3⟩, by simp only; omega⟩
                rcases hF3.fresh _ hm with hh | hh
                · exact hno hh
                · simp only [Store.push_next] at hh; omega
              · have hbc : t2.get t.next = some (.cells 105 0 4 [c.cells]) := by
                  rw [hF3.keep _ (by simp [Store.push_next]) (fun hm => by have := hA.lt hm; omega)]
                  simp [Store.push_get]
                obtain ⟨hb3, hlt3, hk3⟩ := hT4.kept.box
                try simp only [SS, argList, aPut, aFill, ↓reduceIte, Nat.reduceEqDiff, Nat.reduceAdd, Nat.reduceLeDiff, reduceCtorEq, Int.reduceEq, Int.reduceLT, Int.reduceLE, Int.reduceNeg, Int.reduceAdd, Int.reduceSub, Int.reduceToNat, hz, hbc, hb3, CDM.cells, Store.get_upd _ _ hlt3]
                repeat ((with_reducible first | refine AWP_seq ?_ | refine AWP_block ?_ | refine AWP_scope ?_ | refine AWP_reg ?_ | refine AWP_draw ?_ | refine AWP_skip ?_ | refine AWP_ret ?_ | refine AWP_exit ?_ | (refine AWP_cond_true ?_ ?_; · simp only [SS, argList, aPut, aFill, ↓reduceIte, Nat.reduceEqDiff, Nat.reduceAdd, Nat.reduceLeDiff, reduceCtorEq, Int.reduceEq, Int.reduceLT, Int.reduceLE, Int.reduceNeg, Int.reduceAdd, Int.reduceSub, Int.reduceToNat, hz, hbc, hb3, CDM.cells, Store.get_upd _ _ hlt3]) | (refine AWP_cond_false ?_ ?_; · simp only [SS, argList, aPut, aFill, ↓reduceIte, Nat.reduceEqDiff, Nat.reduceAdd, Nat.reduceLeDiff, reduceCtorEq, Int.reduceEq, Int.reduceLT, Int.reduceLE, Int.reduceNeg, Int.reduceAdd, Int.reduceSub, Int.reduceToNat, hz, hbc, hb3, CDM.cells, Store.get_upd _ _ hlt3])); try simp only [SS, argList, aPut, aFill, ↓reduceIte, Nat.reduceEqDiff, Nat.reduceAdd, Nat.reduceLeDiff, reduceCtorEq, Int.reduceEq, Int.reduceLT, Int.reduceLE, Int.reduceNeg, Int.reduceAdd, Int.reduceSub, Int.reduceToNat, hz, hbc, hb3, CDM.cells, Store.get_upd _ _ hlt3])
                refine .inr ⟨?_, _, _, _, hz, rfl, hk3.upd (Nat.le_refl _) _⟩
                have h1 : stepD T1 d = none := fold_fail (stepC d) T1 hcz hfold2 (by unfold stepC; rw [if_neg hz])
                have h2 : l.foldlM stepD T = none := fold_fail stepD T hd hfold1 h1
                unfold newM; rw [hfold]; exact h2
            · have hkl' : ¬ (k : Int) < (d.cons.length : Int) := by omega
              rw [List.take_of_length_le (by simp; omega)] at hfold2
              try simp only [SS, argList, aPut, aFill, ↓reduceIte, Nat.reduceEqDiff, Nat.reduceAdd, Nat.reduceLeDiff, reduceCtorEq, Int.reduceEq, Int.reduceLT, Int.reduceLE, Int.reduceNeg, Int.reduceAdd, Int.reduceSub, Int.reduceToNat, hkl', wrap_succ (i := j) (by omega)]
              repeat ((with_reducible first | refine AWP_seq ?_ | refine AWP_block ?_ | refine AWP_scope ?_ | refine AWP_reg ?_ | refine AWP_draw ?_ | refine AWP_skip ?_ | refine AWP_ret ?_ | refine AWP_exit ?_ | (refine AWP_cond_true ?_ ?_; · simp only [SS, argList, aPut, aFill, ↓reduceIte, Nat.reduceEqDiff, Nat.reduceAdd, Nat.reduceLeDiff, reduceCtorEq, Int.reduceEq, Int.reduceLT, Int.reduceLE, Int.reduceNeg, Int.reduceAdd, Int.reduceSub, Int.reduceToNat, hkl', wrap_succ (i := j) (by omega)]) | (refine AWP_cond_false ?_ ?_; · simp only [SS, argList, aPut, aFill, ↓reduceIte, Nat.reduceEqDiff, Nat.reduceAdd, Nat.reduceLeDiff, reduceCtorEq, Int.reduceEq, Int.reduceLT, Int.reduceLE, Int.reduceNeg, Int.reduceAdd, Int.reduceSub, Int.reduceToNat, hkl', wrap_succ (i := j) (by omega)])); try simp only [SS, argList, aPut, aFill, ↓reduceIte, Nat.reduceEqDiff, Nat.reduceAdd, Nat.reduceLeDiff, reduceCtorEq, Int.reduceEq, Int.reduceLT, Int.reduceLE, Int.reduceNeg, Int.reduceAdd, Int.reduceSub, Int.reduceToNat, hkl', wrap_succ (i := j) (by omega)])
              exact ⟨(T2, j + 1), rfl, ⟨by simp only; omega, by simp only; rw [fold_next stepD T hd hfold1]; exact hfold2, hT2⟩, by simp only; omega⟩
        · have hjl' : ¬ (j : Int) < (l.length : Int) := by omega
          rw [List.take_of_length_le (by omega)] at hfold1
          try simp only [SS, argList, aPut, aFill, ↓reduceIte, Nat.reduceEqDiff, Nat.reduceAdd, Nat.reduceLeDiff, reduceCtorEq, Int.reduceEq, Int.reduceLT, Int.reduceLE, Int.reduceNeg, Int.reduceAdd, Int.reduceSub, Int.reduceToNat, hjl', hb, Store.get_upd _ _ hlt]
          repeat ((with_reducible first | refine AWP_seq ?_ | refine AWP_block ?_ | refine AWP_scope ?_ | refine AWP_reg ?_ | refine AWP_draw ?_ | refine AWP_skip ?_ | refine AWP_ret ?_ | refine AWP_exit ?_ | (refine AWP_cond_true ?_ ?_; · simp only [SS, argList, aPut, aFill, ↓reduceIte, Nat.reduceEqDiff, Nat.reduceAdd, Nat.reduceLeDiff, reduceCtorEq, Int.reduceEq, Int.reduceLT, Int.reduceLE, Int.reduceNeg, Int.reduceAdd, Int.reduceSub, Int.reduceToNat, hjl', hb, Store.get_upd _ _ hlt]) | (refine AWP_cond_false ?_ ?_; · simp only [SS, argList, aPut, aFill, ↓reduceIte, Nat.reduceEqDiff, Nat.reduceAdd, Nat.reduceLeDiff, reduceCtorEq, Int.reduceEq, Int.reduceLT, Int.reduceLE, Int.reduceNeg, Int.reduceAdd, Int.reduceSub, Int.reduceToNat, hjl', hb, Store.get_upd _ _ hlt])); try simp only [SS, argList, aPut, aFill, ↓reduceIte, Nat.reduceEqDiff, Nat.reduceAdd, Nat.reduceLeDiff, reduceCtorEq, Int.reduceEq, Int.reduceLT, Int.reduceLE, Int.reduceNeg, Int.reduceAdd, Int.reduceSub, Int.reduceToNat, hjl', hb, Store.get_upd _ _ hlt])
          refine .inl ⟨T1, tid, by unfold newM; rw [hfold]; exact hfold1, rfl, ?_⟩
          obtain ⟨pm, cm, ces, ov, hA, hF⟩ := hT
          have hft : ∀ i, i ∈ TF tid pm cm ov → σ.next + 1 ≤ i := fun i hi => by
            rcases hF.fresh i hi with hh | hh
            · simp at hh
            · simpa only [Store.push_next] using hh
          refine ⟨pm, cm, ces, ov, hA.keep fun i hi => Store.get_upd_ne _ _ (by have := hft i hi; omega), ⟨by simp only [Store.upd_next]; exact hk0.next, fun i hi _ => by rw [Store.get_upd_ne _ _ (by omega), hk0.keep i hi], fun i hi => .inr (by have := hft i hi; omega)⟩⟩
end Go.Proofs.Ytoejjhehpbmgbaa
