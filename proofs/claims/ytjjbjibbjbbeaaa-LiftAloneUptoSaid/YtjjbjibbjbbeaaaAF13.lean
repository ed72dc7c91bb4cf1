/- The lifter: an expression's parts. -/
import Derived.Test.YtjjbjibbjbbeaaaAF12
set_option linter.unusedVariables false
set_option linter.unusedSimpArgs false
namespace Go.AL
def supC (p : Sup) : List AV := .str p.nm :: strs p.ps :: p.bd.cells
theorem Cr.drop9 (x : Cr) : List.drop 9 x.cells = [] := List.drop_of_length_le (by rw [x.len]; omega)
structure LiftAt (σ : Store) (fid : Nat) (v : AV) (df : ByteArray) (es : List (List AV)) : Prop where
  hd : σ.get fid = some (.cells 120 0 2 [[.str df, v]])
  sl : SliceAt σ v 71 11 es
  nv : fid ∉ slIds v
/-- The lifter behind a call. -/
def LPost (σ : Store) (fid : Nat) (v : AV) (df : ByteArray) (es : List (List AV)) (s : Store) : Prop :=
  ∃ v', LiftAt s fid v' df es ∧ σ.next ≤ s.next ∧ (∀ j, j < σ.next → j ≠ fid → j ∉ slIds v → s.get j = σ.get j) ∧ (∀ j, j ∈ slIds v' → j ∈ slIds v ∨ σ.next ≤ j)
@[congr] theorem LPost_congr {w : Prop} (hw : Visit = w) {σ : Store} {fid : Nat} {v : AV} {df : ByteArray} {es : List (List AV)} {s s' : Store} (h : s = s') : LPost σ fid v df es s = LPost σ fid v df es s' := by rw [h]
/-- The lifter amid a function's own variables (those from N on are newer). -/
structure MS (σ s : Store) (N fid : Nat) (v v' : AV) (df : ByteArray) (es : List (List AV)) : Prop where
  la : LiftAt s fid v' df es
  le : σ.next ≤ N
  next : N ≤ s.next
  keep : ∀ j, j < σ.next → j ≠ fid → j ∉ slIds v → s.get j = σ.get j
  fresh : ∀ j, j ∈ slIds v' → (j ∈ slIds v ∧ j < σ.next) ∨ N ≤ j
  fid : fid < σ.next
theorem MS.start {σ s : Store} {N fid : Nat} {v : AV} {df : ByteArray} {es : List (List AV)} (h : LiftAt σ fid v df es) (k : Kp σ s) (hN : N = s.next) : MS σ s N fid v v df es :=
  ⟨⟨k.get h.hd, h.sl.keep fun i hi => k.keep i (h.sl.lt hi), h.nv⟩, by have := k.next; omega, by omega, fun j hj _ _ => k.keep j hj, fun j hj => .inl ⟨hj, h.sl.lt hj⟩, σ.lt h.hd⟩
section
variable {σ s s2 : Store} {N fid : Nat} {v v' : AV} {df : ByteArray} {es es2 : List (List AV)}
theorem MS.out (h : MS σ s N fid v v' df es) : LPost σ fid v df es s := ⟨v', h.la, by have := h.le; have := h.next; omega, h.keep, fun j hj => (h.fresh j hj).elim (fun a => .inl a.1) (fun a => .inr (by have := h.le; omega))⟩
theorem MS.push (h : MS σ s N fid v v' df es) (o : AObj) : MS σ (s.push o) N fid v v' df es :=
  ⟨⟨(Kp.pushed s o).get h.la.hd, h.la.sl.keep fun i hi => (Kp.pushed s o).keep i (h.la.sl.lt hi), h.la.nv⟩, h.le, by rw [Store.push_next]; have := h.next; omega, fun j hj h1 h2 => by rw [(Kp.pushed s o).keep j (by have := h.le; have := h.next; omega), h.keep j hj h1 h2], h.fresh, h.fid⟩
theorem MS.chg (h : MS σ s N fid v v' df es) {s2 : Store} {id : Nat} (h1 : σ.next ≤ id) (h2 : id ∉ slIds v') (hn : s2.next = s.next) (hg : ∀ j, j ≠ id → s2.get j = s.get j) : MS σ s2 N fid v v' df es :=
  ⟨⟨by rw [hg _ (by have := h.fid; omega)]; exact h.la.hd, h.la.sl.keep fun i hi => hg i (fun e => h2 (e ▸ hi)), h.la.nv⟩, h.le, by rw [hn]; exact h.next, fun j hj a b => by rw [hg j (by omega), h.keep j hj a b], h.fresh, h.fid⟩
theorem MS.upd (h : MS σ s N fid v v' df es) {id : Nat} (o : AObj) (h1 : σ.next ≤ id) (h2 : id ∉ slIds v') : MS σ (s.upd id o) N fid v v' df es :=
  h.chg h1 h2 rfl fun j hj => Store.get_upd_ne _ _ hj
theorem MS.call (h : MS σ s N fid v v' df es) (k : LPost s fid v' df es2 s2) : ∃ v2, MS σ s2 N fid v v2 df es2 ∧ (∀ j, j < s.next → j ≠ fid → j ∉ slIds v' → s2.get j = s.get j) ∧ (∀ j, j ∈ slIds v2 → j ∈ slIds v' ∨ s.next ≤ j) ∧ s.next ≤ s2.next := by
  obtain ⟨v2, hl, hn, hk, hf⟩ := k
  refine ⟨v2, ⟨hl, h.le, by have := h.next; omega, fun j hj a b => ?_, fun j hj => ?_, h.fid⟩, hk, hf, hn⟩
  · rw [hk j (by have := h.le; have := h.next; omega) a (fun hm => (h.fresh j hm).elim (fun q => b q.1) (fun q => by have := h.le; omega)), h.keep j hj a b]
  · rcases hf j hj with q | q
    · exact h.fresh j q
    · exact .inr (by have := h.next; omega)
/-- An own variable is none of the lifter's. -/
theorem MS.loc (h : MS σ s N fid v v' df es) {j : Nat} (h1 : σ.next ≤ j) (h2 : j < N) : j ∉ slIds v' := fun hm => (h.fresh j hm).elim (fun q => by omega) (fun q => by omega)
/-- A slice that is built beside. -/
structure Bes (s : Store) (N : Nat) (v' u : AV) (ty sz : Nat) (us : List (List AV)) : Prop where
  sl : SliceAt s u ty sz us
  new : ∀ j, j ∈ slIds u → N ≤ j
  dj : ∀ j, j ∈ slIds u → j ∉ slIds v'
theorem Bes.start (s : Store) (N : Nat) (v' : AV) (ty sz : Nat) : Bes s N v' .nils ty sz [] := ⟨.nil _ _ _, by simp [slIds], by simp [slIds]⟩
theorem ok_bes {u : AV} {ty sz bytes : Nat} {us us2 : List (List AV)} {K : AV → Store → Prop} (h : MS σ s N fid v v' df es) (hB : Bes s N v' u ty sz us) (h2 : ∀ q, q ∈ us2 → q.length = sz) (hb : (us.length + us2.length) * bytes ≤ 140737488355328) (hm : us.length + us2.length ≤ maxLen)
    (hk : ∀ u' s', MS σ s' N fid v v' df es → Bes s' N v' u' ty sz (us ++ us2) → (∀ j, j < s.next → j ∉ slIds u → s'.get j = s.get j) → s.next ≤ s'.next → K u' s') : ok (eApp ty sz bytes u (some us2) s) K := by
  refine ok_app hB.sl h2 hb hm fun u' s' h3 h4 => hk u' s' ?_ ⟨h3, fun j hj => ?_, fun j hj => ?_⟩ h4.keep h4.next
  · have hle := h.le
    have hf := h.fid
    have hne : ∀ j, j < σ.next → j ∉ slIds u := fun j hj hm => by have := hB.new j hm; omega
    refine ⟨⟨?_, h.la.sl.keep fun i hi => h4.keep i (h.la.sl.lt hi) (fun hm => hB.dj i hm hi), h.la.nv⟩, h.le, by have := h.next; have := h4.next; omega, fun j hj a b => ?_, h.fresh, h.fid⟩
    · rw [h4.keep _ (s.lt h.la.hd) (hne _ hf)]; exact h.la.hd
    · rw [h4.keep j (by have := h.next; omega) (hne j hj), h.keep j hj a b]
  · rcases h4.fresh j hj with q | q
    · exact hB.new j q
    · have := h.next; omega
  · rcases h4.fresh j hj with q | q
    · exact hB.dj j q
    · intro hm
      have := h.la.sl.lt hm
      omega
theorem Bes.call {u : AV} {ty sz : Nat} {us : List (List AV)} (hB : Bes s N v' u ty sz us) {v2 : AV} (hf : N > fid) (hk : ∀ j, j < s.next → j ≠ fid → j ∉ slIds v' → s2.get j = s.get j) (hfr : ∀ j, j ∈ slIds v2 → j ∈ slIds v' ∨ s.next ≤ j) : Bes s2 N v2 u ty sz us :=
  ⟨hB.sl.keep fun j hj => hk j (hB.sl.lt hj) (by have := hB.new j hj; omega) (hB.dj j hj), hB.new, fun j hj hm => (hfr j hm).elim (hB.dj j hj) (fun q => by have := hB.sl.lt hj; omega)⟩
theorem Bes.push {u : AV} {ty sz : Nat} {us : List (List AV)} (hB : Bes s N v' u ty sz us) (o : AObj) : Bes (s.push o) N v' u ty sz us :=
  ⟨hB.sl.keep fun j hj => (Kp.pushed s o).keep j (hB.sl.lt hj), hB.new, hB.dj⟩
theorem Bes.upd {u : AV} {ty sz : Nat} {us : List (List AV)} (hB : Bes s N v' u ty sz us) {id : Nat} (o : AObj) (h : id ∉ slIds u) : Bes (s.upd id o) N v' u ty sz us :=
  ⟨hB.sl.keep fun j hj => Store.get_upd_ne _ _ (fun e => h (e ▸ hj)), hB.new, hB.dj⟩
/-- Such a slice becomes a value. -/
theorem AWP_bes {P : Program} {n : Nat} {Q : AEx → (Nat → AV) → Store → Prop} {tm : Nat → AV} {c : ACode} (d : Nat) {u : AV} {ty sz : Nat} {us : List (List AV)} (hv : tm d = u) (h : MS σ s N fid v v' df es) (hB : Bes s N v' u ty sz us)
    (hk : ∀ s2 : Store, MS σ s2 N fid v v' df es → s2.next = s.next → (∀ j, j < N → s2.get j = s.get j) → AWP P n c Q (put tm (some d) (.list us)) s2) : AWP P n c Q tm s :=
  AWP_frozen d hv hB.sl fun s2 hn hg => hk s2 ⟨⟨by rw [hg _ (fun hm => by have := hB.new _ hm; have := h.fid; have := h.le; omega)]; exact h.la.hd, h.la.sl.keep fun i hi => hg i (fun hm => hB.dj i hm hi), h.la.nv⟩, h.le, by rw [hn]; exact h.next,
    fun j hj a b => by rw [hg j (fun hm => by have := hB.new _ hm; have := h.le; omega), h.keep j hj a b], h.fresh, h.fid⟩ hn fun j hj => hg j (fun hm => by have := hB.new _ hm; omega)
end
end Go.AL
namespace Go.Proofs.Ytjjbjibbjbbeaaa
open Go.AL
def fnL (b : Bool) : Nat := if b then 48 else 89
/-- What is made of an expression. -/
abbrev LiftC (b : Bool) (x : Cr) : Prop := ∀ (σ : Store) (fid : Nat) (v : AV) (df : ByteArray) (es : List (List AV)), LiftAt σ fid v df es → df.size ≤ 1000000000 → es.length + 2 * x.bulk ≤ 20000000 + b.toNat →
  ACalls Try.prog (fnL b) [.ptr fid 0 0 0, .agg x.cells] σ fun r s => (∃ z : Unit, r = .agg (liftS df textOf b es.length x).1.cells ∧ LPost σ fid v df (es ++ (liftS df textOf b es.length x).2.map supC) s)
theorem mapped_ok (b : Bool) (k : Int) (nm : ByteArray) (m ar : Int) (ps : List ByteArray) (gs : List Cr) (al : List (AltH × Cr)) (bs : List (ByteArray × Cr)) (pk : List (Int × Cr))
    (ih1 : ∀ x, x ∈ gs → ∀ b, LiftC b x) (ih2 : ∀ x, x ∈ al → ∀ b, LiftC b x.2) (ih3 : ∀ x, x ∈ bs → ∀ b, LiftC b x.2) (ih4 : ∀ x, x ∈ pk → ∀ b, LiftC b x.2)
    (σ : Store) (fid : Nat) (v : AV) (df : ByteArray) (es : List (List AV)) (h : LiftAt σ fid v df es) (hdf : df.size ≤ 1000000000) (hb : es.length + 2 * (Cr.bulkL gs + Cr.bulkA al + Cr.bulkB bs + Cr.bulkP pk) ≤ 20000000) :
    ACalls Try.prog 88 [.ptr fid 0 0 0, .agg (Cr.mk k nm m ar ps gs al bs pk).cells, .fn (.func (fnL b)) [.ptr fid 0 0 0] [], .fn (.func 89) [.ptr fid 0 0 0] []] σ
      fun r s => (∃ z : Unit, r = .agg (mapS df textOf b es.length (Cr.mk k nm m ar ps gs al bs pk)).1.cells ∧ LPost σ fid v df (es ++ (mapS df textOf b es.length (Cr.mk k nm m ar ps gs al bs pk)).2.map supC) s) := by
  refine in88 (by simp) ?_
  unfold c88
  rw [Cr.cells_eq]
  have l1 := Cr.lenL gs; have l2 := Cr.lenA al; have l3 := Cr.lenB bs; have l4 := Cr.lenP pk
  try simp only [SS, argList, aPut, aFill, ↓reduceIte, Nat.reduceEqDiff, Nat.reduceAdd, Nat.reduceLeDiff, reduceCtorEq, Int.reduceEq, Int.reduceLT, Int.reduceLE, Int.reduceNeg, Int.reduceAdd, Int.reduceSub, Int.reduceToNat]
  iterate 4 ((with_reducible first | refine AWP_seq ?_ | refine AWP_block ?_ | refine AWP_scope ?_ | refine AWP_reg ?_ | refine AWP_draw ?_ | refine AWP_skip ?_ | refine AWP_ret ?_ | refine AWP_exit ?_ | (refine AWP_cond_true ?_ ?_; · simp only [SS, argList, aPut, aFill, ↓reduceIte, Nat.reduceEqDiff, Nat.reduceAdd, Nat.reduceLeDiff, reduceCtorEq, Int.reduceEq, Int.reduceLT, Int.reduceLE, Int.reduceNeg, Int.reduceAdd, Int.reduceSub, Int.reduceToNat]) | (refine AWP_cond_false ?_ ?_; · simp only [SS, argList, aPut, aFill, ↓reduceIte, Nat.reduceEqDiff, Nat.reduceAdd, Nat.reduceLeDiff, reduceCtorEq, Int.reduceEq, Int.reduceLT, Int.reduceLE, Int.reduceNeg, Int.reduceAdd, Int.reduceSub, Int.reduceToNat])); try simp only [SS, argList, aPut, aFill, ↓reduceIte, Nat.reduceEqDiff, Nat.reduceAdd, Nat.reduceLeDiff, reduceCtorEq, Int.reduceEq, Int.reduceLT, Int.reduceLE, Int.reduceNeg, Int.reduceAdd, Int.reduceSub, Int.reduceToNat])
  generalize hs : Store.push _ _ = s1
  have k1 : Kp σ s1 := by rw [← hs]; exact (Kp.pushed _ _).push _
  have hn1 : s1.next = σ.next + 2 := by rw [← hs]; rfl
  have M0 := MS.start h k1 (N := σ.next + 2) (by omega)
  have e1 : s1.get σ.next = some (.cells 54 0 9 [[.int .i64 k, .str nm, .int .i64 m, .int .i64 ar, strs ps, .list (gs.map Cr.cells), .list (al.map altC), .list (bs.map bindC), .list (pk.map pickC)]]) := by rw [← hs]; simp [Store.push_get, Store.push_next]
  have e2 : s1.get (σ.next + 1) = some (.cells 54 0 9 [[.int .i64 0, .str ⟨#[]⟩, .int .i64 0, .int .i64 0, .nils, .nils, .nils, .nils, .nils]]) := by rw [← hs]; simp [Store.push_get, Store.push_next]
  clear hs
  have hi : ∀ j, σ.next ≤ j → j ≠ fid := fun j hj e => by have := σ.lt h.hd; omega
  refine AWP_cut [2, 3, 5, 8, 9] (fun _ : Unit => [.fn (.func (fnL b)) [.ptr fid 0 0 0] [], .fn (.func 89) [.ptr fid 0 0 0] [], .ptr σ.next 0 0 0, .ptr (σ.next + 1) 0 0 0, .fn (.func (fnL (b && k != 5))) [.ptr fid 0 0 0] []]) (fun _ s => s1 = s) ?_ ?_
  · by_cases hk : k = 5
    · try simp only [SS, argList, aPut, aFill, ↓reduceIte, Nat.reduceEqDiff, Nat.reduceAdd, Nat.reduceLeDiff, reduceCtorEq, Int.reduceEq, Int.reduceLT, Int.reduceLE, Int.reduceNeg, Int.reduceAdd, Int.reduceSub, Int.reduceToNat, e1, hk]
      repeat ((with_reducible first | refine AWP_seq ?_ | refine AWP_block ?_ | refine AWP_scope ?_ | refine AWP_reg ?_ | refine AWP_draw ?_ | refine AWP_skip ?_ | refine AWP_ret ?_ | refine AWP_exit ?_ | (refine AWP_cond_true ?_ ?_; · simp only [SS, argList, aPut, aFill, ↓reduceIte, Nat.reduceEqDiff, Nat.reduceAdd, Nat.reduceLeDiff, reduceCtorEq, Int.reduceEq, Int.reduceLT, Int.reduceLE, Int.reduceNeg, Int.reduceAdd, Int.reduceSub, Int.reduceToNat, e1, hk]) | (refine AWP_cond_false ?_ ?_; · simp only [SS, argList, aPut, aFill, ↓reduceIte, Nat.reduceEqDiff, Nat.reduceAdd, Nat.reduceLeDiff, reduceCtorEq, Int.reduceEq, Int.reduceLT, Int.reduceLE, Int.reduceNeg, Int.reduceAdd, Int.reduceSub, Int.reduceToNat, e1, hk])); try simp only [SS, argList, aPut, aFill, ↓reduceIte, Nat.reduceEqDiff, Nat.reduceAdd, Nat.reduceLeDiff, reduceCtorEq, Int.reduceEq, Int.reduceLT, Int.reduceLE, Int.reduceNeg, Int.reduceAdd, Int.reduceSub, Int.reduceToNat, e1, hk])
      have : (b && (5 : Int) != 5) = false := by simp
      exact ⟨(), by rw [this]; rfl⟩
    · try simp only [SS, argList, aPut, aFill, ↓reduceIte, Nat.reduceEqDiff, Nat.reduceAdd, Nat.reduceLeDiff, reduceCtorEq, Int.reduceEq, Int.reduceLT, Int.reduceLE, Int.reduceNeg, Int.reduceAdd, Int.reduceSub, Int.reduceToNat, e1, hk]
      repeat ((with_reducible first | refine AWP_seq ?_ | refine AWP_block ?_ | refine AWP_scope ?_ | refine AWP_reg ?_ | refine AWP_draw ?_ | refine AWP_skip ?_ | refine AWP_ret ?_ | refine AWP_exit ?_ | (refine AWP_cond_true ?_ ?_; · simp only [SS, argList, aPut, aFill, ↓reduceIte, Nat.reduceEqDiff, Nat.reduceAdd, Nat.reduceLeDiff, reduceCtorEq, Int.reduceEq, Int.reduceLT, Int.reduceLE, Int.reduceNeg, Int.reduceAdd, Int.reduceSub, Int.reduceToNat, e1, hk]) | (refine AWP_cond_false ?_ ?_; · simp only [SS, argList, aPut, aFill, ↓reduceIte, Nat.reduceEqDiff, Nat.reduceAdd, Nat.reduceLeDiff, reduceCtorEq, Int.reduceEq, Int.reduceLT, Int.reduceLE, Int.reduceNeg, Int.reduceAdd, Int.reduceSub, Int.reduceToNat, e1, hk])); try simp only [SS, argList, aPut, aFill, ↓reduceIte, Nat.reduceEqDiff, Nat.reduceAdd, Nat.reduceLeDiff, reduceCtorEq, Int.reduceEq, Int.reduceLT, Int.reduceLE, Int.reduceNeg, Int.reduceAdd, Int.reduceSub, Int.reduceToNat, e1, hk])
      have : (b && k != 5) = b := by simp [hk]
      exact ⟨(), by rw [this]⟩
  rintro _ _ rfl
  try simp only [SS, argList, aPut, aFill, ↓reduceIte, Nat.reduceEqDiff, Nat.reduceAdd, Nat.reduceLeDiff, reduceCtorEq, Int.reduceEq, Int.reduceLT, Int.reduceLE, Int.reduceNeg, Int.reduceAdd, Int.reduceSub, Int.reduceToNat]
  iterate 2 ((with_reducible first | refine AWP_seq ?_ | refine AWP_block ?_ | refine AWP_scope ?_ | refine AWP_reg ?_ | refine AWP_draw ?_ | refine AWP_skip ?_ | refine AWP_ret ?_ | refine AWP_exit ?_ | (refine AWP_cond_true ?_ ?_; · simp only [SS, argList, aPut, aFill, ↓reduceIte, Nat.reduceEqDiff, Nat.reduceAdd, Nat.reduceLeDiff, reduceCtorEq, Int.reduceEq, Int.reduceLT, Int.reduceLE, Int.reduceNeg, Int.reduceAdd, Int.reduceSub, Int.reduceToNat]) | (refine AWP_cond_false ?_ ?_; · simp only [SS, argList, aPut, aFill, ↓reduceIte, Nat.reduceEqDiff, Nat.reduceAdd, Nat.reduceLeDiff, reduceCtorEq, Int.reduceEq, Int.reduceLT, Int.reduceLE, Int.reduceNeg, Int.reduceAdd, Int.reduceSub, Int.reduceToNat])); try simp only [SS, argList, aPut, aFill, ↓reduceIte, Nat.reduceEqDiff, Nat.reduceAdd, Nat.reduceLeDiff, reduceCtorEq, Int.reduceEq, Int.reduceLT, Int.reduceLE, Int.reduceNeg, Int.reduceAdd, Int.reduceSub, Int.reduceToNat])
  refine AWP_cut [2, 3, 5, 8, 10] (fun y : AV × AV => [.fn (.func (fnL b)) [.ptr fid 0 0 0] [], .fn (.func 89) [.ptr fid 0 0 0] [], .ptr σ.next 0 0 0, .ptr (σ.next + 1) 0 0 0, y.2])
    (fun y s => MS σ s (σ.next + 2) fid v y.1 df ((es) ++ (liftL df textOf (b && k != 5) (es).length gs).2.map supC) ∧ Bes s (σ.next + 2) y.1 y.2 54 9 ((liftL df textOf (b && k != 5) (es).length gs).1.map Cr.cells) ∧ s.get σ.next = some (.cells 54 0 9 [[.int .i64 k, .str nm, .int .i64 m, .int .i64 ar, strs ps, .list (gs.map Cr.cells), .list (al.map altC), .list (bs.map bindC), .list (pk.map pickC)]]) ∧ s.get (σ.next + 1) = some (.cells 54 0 9 [[.int .i64 0, .str ⟨#[]⟩, .int .i64 0, .int .i64 0, .nils, .nils, .nils, .nils, .nils]])) ?_ ?_
  · try simp only [SS, argList, aPut, aFill, ↓reduceIte, Nat.reduceEqDiff, Nat.reduceAdd, Nat.reduceLeDiff, reduceCtorEq, Int.reduceEq, Int.reduceLT, Int.reduceLE, Int.reduceNeg, Int.reduceAdd, Int.reduceSub, Int.reduceToNat, e1]
    repeat ((with_reducible first | refine AWP_seq ?_ | refine AWP_block ?_ | refine AWP_scope ?_ | refine AWP_reg ?_ | refine AWP_draw ?_ | refine AWP_skip ?_ | refine AWP_ret ?_ | refine AWP_exit ?_ | (refine AWP_cond_true ?_ ?_; · simp only [SS, argList, aPut, aFill, ↓reduceIte, Nat.reduceEqDiff, Nat.reduceAdd, Nat.reduceLeDiff, reduceCtorEq, Int.reduceEq, Int.reduceLT, Int.reduceLE, Int.reduceNeg, Int.reduceAdd, Int.reduceSub, Int.reduceToNat, e1]) | (refine AWP_cond_false ?_ ?_; · simp only [SS, argList, aPut, aFill, ↓reduceIte, Nat.reduceEqDiff, Nat.reduceAdd, Nat.reduceLeDiff, reduceCtorEq, Int.reduceEq, Int.reduceLT, Int.reduceLE, Int.reduceNeg, Int.reduceAdd, Int.reduceSub, Int.reduceToNat, e1])); try simp only [SS, argList, aPut, aFill, ↓reduceIte, Nat.reduceEqDiff, Nat.reduceAdd, Nat.reduceLeDiff, reduceCtorEq, Int.reduceEq, Int.reduceLT, Int.reduceLE, Int.reduceNeg, Int.reduceAdd, Int.reduceSub, Int.reduceToNat, e1])
    refine AWP_while [2, 3, 5, 8, 9, 10, 28, 29, 30] (fun y : (AV × AV) × Nat => gs.length - y.2) (fun y => [.fn (.func (fnL b)) [.ptr fid 0 0 0] [], .fn (.func 89) [.ptr fid 0 0 0] [], .ptr σ.next 0 0 0, .ptr (σ.next + 1) 0 0 0, .fn (.func (fnL (b && k != 5))) [.ptr fid 0 0 0] [], y.1.2, .list (gs.map Cr.cells), .int .i64 gs.length, .int .i64 y.2])
      (fun y s => y.2 ≤ gs.length ∧ MS σ s (σ.next + 2) fid v y.1.1 df ((es) ++ (liftL df textOf (b && k != 5) (es).length (gs.take y.2)).2.map supC) ∧ Bes s (σ.next + 2) y.1.1 y.1.2 54 9 ((liftL df textOf (b && k != 5) (es).length (gs.take y.2)).1.map Cr.cells) ∧ s.get σ.next = some (.cells 54 0 9 [[.int .i64 k, .str nm, .int .i64 m, .int .i64 ar, strs ps, .list (gs.map Cr.cells), .list (al.map altC), .list (bs.map bindC), .list (pk.map pickC)]]) ∧ s.get (σ.next + 1) = some (.cells 54 0 9 [[.int .i64 0, .str ⟨#[]⟩, .int .i64 0, .int .i64 0, .nils, .nils, .nils, .nils, .nils]]))
      ((v, .nils), 0) ⟨by simp, by simpa [liftL] using M0, by simpa [liftL] using Bes.start _ _ _ _ _, e1, e2⟩ ?_ ?_
    · try simp only [SS, argList, aPut, aFill, ↓reduceIte, Nat.reduceEqDiff, Nat.reduceAdd, Nat.reduceLeDiff, reduceCtorEq, Int.reduceEq, Int.reduceLT, Int.reduceLE, Int.reduceNeg, Int.reduceAdd, Int.reduceSub, Int.reduceToNat]
      repeat ((with_reducible first | refine AWP_seq ?_ | refine AWP_block ?_ | refine AWP_scope ?_ | refine AWP_reg ?_ | refine AWP_draw ?_ | refine AWP_skip ?_ | refine AWP_ret ?_ | refine AWP_exit ?_ | (refine AWP_cond_true ?_ ?_; · simp only [SS, argList, aPut, aFill, ↓reduceIte, Nat.reduceEqDiff, Nat.reduceAdd, Nat.reduceLeDiff, reduceCtorEq, Int.reduceEq, Int.reduceLT, Int.reduceLE, Int.reduceNeg, Int.reduceAdd, Int.reduceSub, Int.reduceToNat]) | (refine AWP_cond_false ?_ ?_; · simp only [SS, argList, aPut, aFill, ↓reduceIte, Nat.reduceEqDiff, Nat.reduceAdd, Nat.reduceLeDiff, reduceCtorEq, Int.reduceEq, Int.reduceLT, Int.reduceLE, Int.reduceNeg, Int.reduceAdd, Int.reduceSub, Int.reduceToNat])); try simp only [SS, argList, aPut, aFill, ↓reduceIte, Nat.reduceEqDiff, Nat.reduceAdd, Nat.reduceLeDiff, reduceCtorEq, Int.reduceEq, Int.reduceLT, Int.reduceLE, Int.reduceNeg, Int.reduceAdd, Int.reduceSub, Int.reduceToNat])
      rfl
    rintro ⟨⟨w, u⟩, i⟩ s ⟨hil0, M, B, g1, g2⟩
    simp only at hil0 M B g1 g2
    have hw := wrap_succ (i := i) (by omega)
    by_cases hil : i < gs.length
    · have hil' : (i : Int) < (gs.length : Int) := by omega
      obtain ⟨x, hx⟩ : ∃ x, gs[i]? = some x := ⟨_, List.getElem?_eq_getElem hil⟩
      have hxm := List.mem_of_getElem? hx
      have hbx := Cr.bulkL_take hx
      have hll := liftL_len df textOf (gs.take i) (b && k != 5) (es).length
      have hl1 := liftL_l df textOf (b && k != 5) (es).length (gs.take i)
      have hlt : (gs.take i).length = i := by simp; omega
      have q1 := s.lt g1
      have q2 := s.lt g2
      have hnx := M.next
      have hgl := M.la.sl
      have hg : (gs.map Cr.cells)[i]? = some (Cr.cells x) := by simp [hx]
      try simp only [SS, argList, aPut, aFill, ↓reduceIte, Nat.reduceEqDiff, Nat.reduceAdd, Nat.reduceLeDiff, reduceCtorEq, Int.reduceEq, Int.reduceLT, Int.reduceLE, Int.reduceNeg, Int.reduceAdd, Int.reduceSub, Int.reduceToNat, hil', hg, Cr.len, Cr.take9, wp_callv, callvW_fn]
      repeat ((with_reducible first | refine AWP_seq ?_ | refine AWP_block ?_ | refine AWP_scope ?_ | refine AWP_reg ?_ | refine AWP_draw ?_ | refine AWP_skip ?_ | refine AWP_ret ?_ | refine AWP_exit ?_ | (refine AWP_cond_true ?_ ?_; · simp only [SS, argList, aPut, aFill, ↓reduceIte, Nat.reduceEqDiff, Nat.reduceAdd, Nat.reduceLeDiff, reduceCtorEq, Int.reduceEq, Int.reduceLT, Int.reduceLE, Int.reduceNeg, Int.reduceAdd, Int.reduceSub, Int.reduceToNat, hil', hg, Cr.len, Cr.take9, wp_callv, callvW_fn]) | (refine AWP_cond_false ?_ ?_; · simp only [SS, argList, aPut, aFill, ↓reduceIte, Nat.reduceEqDiff, Nat.reduceAdd, Nat.reduceLeDiff, reduceCtorEq, Int.reduceEq, Int.reduceLT, Int.reduceLE, Int.reduceNeg, Int.reduceAdd, Int.reduceSub, Int.reduceToNat, hil', hg, Cr.len, Cr.take9, wp_callv, callvW_fn])); try simp only [SS, argList, aPut, aFill, ↓reduceIte, Nat.reduceEqDiff, Nat.reduceAdd, Nat.reduceLeDiff, reduceCtorEq, Int.reduceEq, Int.reduceLT, Int.reduceLE, Int.reduceNeg, Int.reduceAdd, Int.reduceSub, Int.reduceToNat, hil', hg, Cr.len, Cr.take9, wp_callv, callvW_fn])
      refine (ih1 x hxm (b && k != 5) _ fid w df _ (M.push _).la hdf (by simp only [List.length_append, List.length_map]; omega)).mono ?_
      rintro _ s2 ⟨_, rfl, hP⟩
      obtain ⟨w2, M2, hk2, hf2, hn2⟩ := (M.push _).call hP
      have B2 := (B.push _).call (by have := M.le; have := M.fid; omega) hk2 hf2
      have g1' := hk2 σ.next (by rw [Store.push_next]; omega) (hi _ (Nat.le_refl _)) (M.loc (Nat.le_refl _) (by omega))
      have g2' := hk2 (σ.next + 1) (by rw [Store.push_next]; omega) (hi _ (by omega)) (M.loc (by omega) (by omega))
      rw [Store.push_get, if_neg (by omega), g1] at g1'
      rw [Store.push_get, if_neg (by omega), g2] at g2'
      have hlen : ((es) ++ List.map supC (liftL df textOf (b && k != 5) (es).length (gs.take i)).2).length = (es).length + (liftL df textOf (b && k != 5) (es).length (gs.take i)).2.length := by simp
      rw [hlen] at M2 ⊢
      have hone := liftL_app df textOf (b && k != 5) (es).length (gs.take i) [x]
      rw [liftL_one, ← take_succ_at hx] at hone
      generalize liftS df textOf (b && k != 5) ((es).length + (liftL df textOf (b && k != 5) (es).length (gs.take i)).2.length) x = z at M2 hone ⊢
      try simp only [SS, argList, aPut, aFill, ↓reduceIte, Nat.reduceEqDiff, Nat.reduceAdd, Nat.reduceLeDiff, reduceCtorEq, Int.reduceEq, Int.reduceLT, Int.reduceLE, Int.reduceNeg, Int.reduceAdd, Int.reduceSub, Int.reduceToNat, Cr.len]
      repeat ((with_reducible first | refine AWP_seq ?_ | refine AWP_block ?_ | refine AWP_scope ?_ | refine AWP_reg ?_ | refine AWP_draw ?_ | refine AWP_skip ?_ | refine AWP_ret ?_ | refine AWP_exit ?_ | (refine AWP_cond_true ?_ ?_; · simp only [SS, argList, aPut, aFill, ↓reduceIte, Nat.reduceEqDiff, Nat.reduceAdd, Nat.reduceLeDiff, reduceCtorEq, Int.reduceEq, Int.reduceLT, Int.reduceLE, Int.reduceNeg, Int.reduceAdd, Int.reduceSub, Int.reduceToNat, Cr.len]) | (refine AWP_cond_false ?_ ?_; · simp only [SS, argList, aPut, aFill, ↓reduceIte, Nat.reduceEqDiff, Nat.reduceAdd, Nat.reduceLeDiff, reduceCtorEq, Int.reduceEq, Int.reduceLT, Int.reduceLE, Int.reduceNeg, Int.reduceAdd, Int.reduceSub, Int.reduceToNat, Cr.len])); try simp only [SS, argList, aPut, aFill, ↓reduceIte, Nat.reduceEqDiff, Nat.reduceAdd, Nat.reduceLeDiff, reduceCtorEq, Int.reduceEq, Int.reduceLT, Int.reduceLE, Int.reduceNeg, Int.reduceAdd, Int.reduceSub, Int.reduceToNat, Cr.len])
      refine ok_bes M2 B2 (us2 := [z.1.cells]) (by simp [Cr.len]) (by simp; omega) (by simp [maxLen]; omega) ?_
      intro u' s3 M3 B3 hk3 hn3
      have a1 := hk3 σ.next (s2.lt g1') (fun hm => by have := B2.new _ hm; omega)
      have a2 := hk3 (σ.next + 1) (s2.lt g2') (fun hm => by have := B2.new _ hm; omega)
      try simp only [SS, argList, aPut, aFill, ↓reduceIte, Nat.reduceEqDiff, Nat.reduceAdd, Nat.reduceLeDiff, reduceCtorEq, Int.reduceEq, Int.reduceLT, Int.reduceLE, Int.reduceNeg, Int.reduceAdd, Int.reduceSub, Int.reduceToNat, hw]
      repeat ((with_reducible first | refine AWP_seq ?_ | refine AWP_block ?_ | refine AWP_scope ?_ | refine AWP_reg ?_ | refine AWP_draw ?_ | refine AWP_skip ?_ | refine AWP_ret ?_ | refine AWP_exit ?_ | (refine AWP_cond_true ?_ ?_; · simp only [SS, argList, aPut, aFill, ↓reduceIte, Nat.reduceEqDiff, Nat.reduceAdd, Nat.reduceLeDiff, reduceCtorEq, Int.reduceEq, Int.reduceLT, Int.reduceLE, Int.reduceNeg, Int.reduceAdd, Int.reduceSub, Int.reduceToNat, hw]) | (refine AWP_cond_false ?_ ?_; · simp only [SS, argList, aPut, aFill, ↓reduceIte, Nat.reduceEqDiff, Nat.reduceAdd, Nat.reduceLeDiff, reduceCtorEq, Int.reduceEq, Int.reduceLT, Int.reduceLE, Int.reduceNeg, Int.reduceAdd, Int.reduceSub, Int.reduceToNat, hw])); try simp only [SS, argList, aPut, aFill, ↓reduceIte, Nat.reduceEqDiff, Nat.reduceAdd, Nat.reduceLeDiff, reduceCtorEq, Int.reduceEq, Int.reduceLT, Int.reduceLE, Int.reduceNeg, Int.reduceAdd, Int.reduceSub, Int.reduceToNat, hw])
      refine ⟨((w2, u'), i + 1), rfl, ⟨by simp only; omega, ?_, ?_, by rw [a1, g1'], by rw [a2, g2']⟩, by simp only; omega⟩
      · simp only [hone, List.map_append, ← List.append_assoc]; simpa [List.append_assoc] using M3
      · simp only [hone, List.map_append]; exact B3
    · have hil' : ¬ (i : Int) < (gs.length : Int) := by omega
      rw [List.take_of_length_le (by omega)] at M B
      try simp only [SS, argList, aPut, aFill, ↓reduceIte, Nat.reduceEqDiff, Nat.reduceAdd, Nat.reduceLeDiff, reduceCtorEq, Int.reduceEq, Int.reduceLT, Int.reduceLE, Int.reduceNeg, Int.reduceAdd, Int.reduceSub, Int.reduceToNat, hil']
      repeat ((with_reducible first | refine AWP_seq ?_ | refine AWP_block ?_ | refine AWP_scope ?_ | refine AWP_reg ?_ | refine AWP_draw ?_ | refine AWP_skip ?_ | refine AWP_ret ?_ | refine AWP_exit ?_ | (refine AWP_cond_true ?_ ?_; · simp only [SS, argList, aPut, aFill, ↓reduceIte, Nat.reduceEqDiff, Nat.reduceAdd, Nat.reduceLeDiff, reduceCtorEq, Int.reduceEq, Int.reduceLT, Int.reduceLE, Int.reduceNeg, Int.reduceAdd, Int.reduceSub, Int.reduceToNat, hil']) | (refine AWP_cond_false ?_ ?_; · simp only [SS, argList, aPut, aFill, ↓reduceIte, Nat.reduceEqDiff, Nat.reduceAdd, Nat.reduceLeDiff, reduceCtorEq, Int.reduceEq, Int.reduceLT, Int.reduceLE, Int.reduceNeg, Int.reduceAdd, Int.reduceSub, Int.reduceToNat, hil'])); try simp only [SS, argList, aPut, aFill, ↓reduceIte, Nat.reduceEqDiff, Nat.reduceAdd, Nat.reduceLeDiff, reduceCtorEq, Int.reduceEq, Int.reduceLT, Int.reduceLE, Int.reduceNeg, Int.reduceAdd, Int.reduceSub, Int.reduceToNat, hil'])
      exact ⟨(w, u), rfl, M, B, g1, g2⟩
  rintro ⟨w0, u0⟩ s0 ⟨M, B, g1, g2⟩
  simp only at M B
  clear M0 e1 e2
  refine AWP_bes 10 rfl M B ?_
  intro t0 M' hn hg
  have hne := M.next
  have g1' := hg σ.next (by omega)
  have g2' := hg (σ.next + 1) (by omega)
  rw [g1] at g1'
  rw [g2] at g2'
  have hlt := t0.lt g1'
  simp only [List.zip_cons_cons, List.zip_nil_right]
  try simp only [SS, argList, aPut, aFill, ↓reduceIte, Nat.reduceEqDiff, Nat.reduceAdd, Nat.reduceLeDiff, reduceCtorEq, Int.reduceEq, Int.reduceLT, Int.reduceLE, Int.reduceNeg, Int.reduceAdd, Int.reduceSub, Int.reduceToNat, g1']
  iterate 2 ((with_reducible first | refine AWP_seq ?_ | refine AWP_block ?_ | refine AWP_scope ?_ | refine AWP_reg ?_ | refine AWP_draw ?_ | refine AWP_skip ?_ | refine AWP_ret ?_ | refine AWP_exit ?_ | (refine AWP_cond_true ?_ ?_; · simp only [SS, argList, aPut, aFill, ↓reduceIte, Nat.reduceEqDiff, Nat.reduceAdd, Nat.reduceLeDiff, reduceCtorEq, Int.reduceEq, Int.reduceLT, Int.reduceLE, Int.reduceNeg, Int.reduceAdd, Int.reduceSub, Int.reduceToNat, g1']) | (refine AWP_cond_false ?_ ?_; · simp only [SS, argList, aPut, aFill, ↓reduceIte, Nat.reduceEqDiff, Nat.reduceAdd, Nat.reduceLeDiff, reduceCtorEq, Int.reduceEq, Int.reduceLT, Int.reduceLE, Int.reduceNeg, Int.reduceAdd, Int.reduceSub, Int.reduceToNat, g1'])); try simp only [SS, argList, aPut, aFill, ↓reduceIte, Nat.reduceEqDiff, Nat.reduceAdd, Nat.reduceLeDiff, reduceCtorEq, Int.reduceEq, Int.reduceLT, Int.reduceLE, Int.reduceNeg, Int.reduceAdd, Int.reduceSub, Int.reduceToNat, g1'])
  have M1 := M'.upd (.cells 54 0 9 [[.int .i64 k, .str nm, .int .i64 m, .int .i64 ar, strs ps, .list ((liftL df textOf (b && k != 5) (es).length gs).1.map Cr.cells), .list (al.map altC), .list (bs.map bindC), .list (pk.map pickC)]]) (Nat.le_refl _) (M'.loc (Nat.le_refl _) (by omega))
  have e1 := Store.get_upd_self t0 (.cells 54 0 9 [[.int .i64 k, .str nm, .int .i64 m, .int .i64 ar, strs ps, .list ((liftL df textOf (b && k != 5) (es).length gs).1.map Cr.cells), .list (al.map altC), .list (bs.map bindC), .list (pk.map pickC)]]) hlt
  have e2 : (t0.upd σ.next (.cells 54 0 9 [[.int .i64 k, .str nm, .int .i64 m, .int .i64 ar, strs ps, .list ((liftL df textOf (b && k != 5) (es).length gs).1.map Cr.cells), .list (al.map altC), .list (bs.map bindC), .list (pk.map pickC)]])).get (σ.next + 1) = _ := (Store.get_upd_ne t0 _ (by omega)).trans g2'
  have hlx0 := liftL_len df textOf gs (b && k != 5) (es).length
  clear M M' B g1 g2 g1' g2' hg hne hlt hn
  have hE0 : ((es) ++ (liftL df textOf (b && k != 5) (es).length gs).2.map supC).length = (es).length + (liftL df textOf (b && k != 5) (es).length gs).2.length := by simp
  generalize hD0 : (es) ++ (liftL df textOf (b && k != 5) (es).length gs).2.map supC = E0 at M1 hE0
  try simp only [SS, argList, aPut, aFill, ↓reduceIte, Nat.reduceEqDiff, Nat.reduceAdd, Nat.reduceLeDiff, reduceCtorEq, Int.reduceEq, Int.reduceLT, Int.reduceLE, Int.reduceNeg, Int.reduceAdd, Int.reduceSub, Int.reduceToNat]
  iterate 2 ((with_reducible first | refine AWP_seq ?_ | refine AWP_block ?_ | refine AWP_scope ?_ | refine AWP_reg ?_ | refine AWP_draw ?_ | refine AWP_skip ?_ | refine AWP_ret ?_ | refine AWP_exit ?_ | (refine AWP_cond_true ?_ ?_; · simp only [SS, argList, aPut, aFill, ↓reduceIte, Nat.reduceEqDiff, Nat.reduceAdd, Nat.reduceLeDiff, reduceCtorEq, Int.reduceEq, Int.reduceLT, Int.reduceLE, Int.reduceNeg, Int.reduceAdd, Int.reduceSub, Int.reduceToNat]) | (refine AWP_cond_false ?_ ?_; · simp only [SS, argList, aPut, aFill, ↓reduceIte, Nat.reduceEqDiff, Nat.reduceAdd, Nat.reduceLeDiff, reduceCtorEq, Int.reduceEq, Int.reduceLT, Int.reduceLE, Int.reduceNeg, Int.reduceAdd, Int.reduceSub, Int.reduceToNat])); try simp only [SS, argList, aPut, aFill, ↓reduceIte, Nat.reduceEqDiff, Nat.reduceAdd, Nat.reduceLeDiff, reduceCtorEq, Int.reduceEq, Int.reduceLT, Int.reduceLE, Int.reduceNeg, Int.reduceAdd, Int.reduceSub, Int.reduceToNat])
  refine AWP_cut [2, 3, 5, 8, 13] (fun y : AV × AV => [.fn (.func (fnL b)) [.ptr fid 0 0 0] [], .fn (.func 89) [.ptr fid 0 0 0] [], .ptr σ.next 0 0 0, .ptr (σ.next + 1) 0 0 0, y.2])
    (fun y s => MS σ s (σ.next + 2) fid v y.1 df ((E0) ++ (liftA df textOf b (E0).length al).2.map supC) ∧ Bes s (σ.next + 2) y.1 y.2 113 13 ((liftA df textOf b (E0).length al).1.map altC) ∧ s.get σ.next = some (.cells 54 0 9 [[.int .i64 k, .str nm, .int .i64 m, .int .i64 ar, strs ps, .list ((liftL df textOf (b && k != 5) (es).length gs).1.map Cr.cells), .list (al.map altC), .list (bs.map bindC), .list (pk.map pickC)]]) ∧ s.get (σ.next + 1) = some (.cells 54 0 9 [[.int .i64 0, .str ⟨#[]⟩, .int .i64 0, .int .i64 0, .nils, .nils, .nils, .nils, .nils]])) ?_ ?_
  · try simp only [SS, argList, aPut, aFill, ↓reduceIte, Nat.reduceEqDiff, Nat.reduceAdd, Nat.reduceLeDiff, reduceCtorEq, Int.reduceEq, Int.reduceLT, Int.reduceLE, Int.reduceNeg, Int.reduceAdd, Int.reduceSub, Int.reduceToNat, e1]
    repeat ((with_reducible first | refine AWP_seq ?_ | refine AWP_block ?_ | refine AWP_scope ?_ | refine AWP_reg ?_ | refine AWP_draw ?_ | refine AWP_skip ?_ | refine AWP_ret ?_ | refine AWP_exit ?_ | (refine AWP_cond_true ?_ ?_; · simp only [SS, argList, aPut, aFill, ↓reduceIte, Nat.reduceEqDiff, Nat.reduceAdd, Nat.reduceLeDiff, reduceCtorEq, Int.reduceEq, Int.reduceLT, Int.reduceLE, Int.reduceNeg, Int.reduceAdd, Int.reduceSub, Int.reduceToNat, e1]) | (refine AWP_cond_false ?_ ?_; · simp only [SS, argList, aPut, aFill, ↓reduceIte, Nat.reduceEqDiff, Nat.reduceAdd, Nat.reduceLeDiff, reduceCtorEq, Int.reduceEq, Int.reduceLT, Int.reduceLE, Int.reduceNeg, Int.reduceAdd, Int.reduceSub, Int.reduceToNat, e1])); try simp only [SS, argList, aPut, aFill, ↓reduceIte, Nat.reduceEqDiff, Nat.reduceAdd, Nat.reduceLeDiff, reduceCtorEq, Int.reduceEq, Int.reduceLT, Int.reduceLE, Int.reduceNeg, Int.reduceAdd, Int.reduceSub, Int.reduceToNat, e1])
    refine AWP_while [2, 3, 5, 8, 13, 44, 45, 46] (fun y : (AV × AV) × Nat => al.length - y.2) (fun y => [.fn (.func (fnL b)) [.ptr fid 0 0 0] [], .fn (.func 89) [.ptr fid 0 0 0] [], .ptr σ.next 0 0 0, .ptr (σ.next + 1) 0 0 0, y.1.2, .list (al.map altC), .int .i64 al.length, .int .i64 y.2])
      (fun y s => y.2 ≤ al.length ∧ MS σ s (σ.next + 2) fid v y.1.1 df ((E0) ++ (liftA df textOf b (E0).length (al.take y.2)).2.map supC) ∧ Bes s (σ.next + 2) y.1.1 y.1.2 113 13 ((liftA df textOf b (E0).length (al.take y.2)).1.map altC) ∧ s.get σ.next = some (.cells 54 0 9 [[.int .i64 k, .str nm, .int .i64 m, .int .i64 ar, strs ps, .list ((liftL df textOf (b && k != 5) (es).length gs).1.map Cr.cells), .list (al.map altC), .list (bs.map bindC), .list (pk.map pickC)]]) ∧ s.get (σ.next + 1) = some (.cells 54 0 9 [[.int .i64 0, .str ⟨#[]⟩, .int .i64 0, .int .i64 0, .nils, .nils, .nils, .nils, .nils]]))
      ((w0, .nils), 0) ⟨by simp, by simpa [liftA] using M1, by simpa [liftA] using Bes.start _ _ _ _ _, e1, e2⟩ ?_ ?_
    · try simp only [SS, argList, aPut, aFill, ↓reduceIte, Nat.reduceEqDiff, Nat.reduceAdd, Nat.reduceLeDiff, reduceCtorEq, Int.reduceEq, Int.reduceLT, Int.reduceLE, Int.reduceNeg, Int.reduceAdd, Int.reduceSub, Int.reduceToNat]
      repeat ((with_reducible first | refine AWP_seq ?_ | refine AWP_block ?_ | refine AWP_scope ?_ | refine AWP_reg ?_ | refine AWP_draw ?_ | refine AWP_skip ?_ | refine AWP_ret ?_ | refine AWP_exit ?_ | (refine AWP_cond_true ?_ ?_; · simp only [SS, argList, aPut, aFill, ↓reduceIte, Nat.reduceEqDiff, Nat.reduceAdd, Nat.reduceLeDiff, reduceCtorEq, Int.reduceEq, Int.reduceLT, Int.reduceLE, Int.reduceNeg, Int.reduceAdd, Int.reduceSub, Int.reduceToNat]) | (refine AWP_cond_false ?_ ?_; · simp only [SS, argList, aPut, aFill, ↓reduceIte, Nat.reduceEqDiff, Nat.reduceAdd, Nat.reduceLeDiff, reduceCtorEq, Int.reduceEq, Int.reduceLT, Int.reduceLE, Int.reduceNeg, Int.reduceAdd, Int.reduceSub, Int.reduceToNat])); try simp only [SS, argList, aPut, aFill, ↓reduceIte, Nat.reduceEqDiff, Nat.reduceAdd, Nat.reduceLeDiff, reduceCtorEq, Int.reduceEq, Int.reduceLT, Int.reduceLE, Int.reduceNeg, Int.reduceAdd, Int.reduceSub, Int.reduceToNat])
      rfl
    rintro ⟨⟨w, u⟩, i⟩ s ⟨hil0, M, B, g1, g2⟩
    simp only at hil0 M B g1 g2
    have hw := wrap_succ (i := i) (by omega)
    by_cases hil : i < al.length
    · have hil' : (i : Int) < (al.length : Int) := by omega
      obtain ⟨x, hx⟩ : ∃ x, al[i]? = some x := ⟨_, List.getElem?_eq_getElem hil⟩
      have hxm := List.mem_of_getElem? hx
      have hbx := Cr.bulkA_take hx
      have hll := liftA_len df textOf (al.take i) b (E0).length
      have hl1 := liftA_l df textOf b (E0).length (al.take i)
      have hlt : (al.take i).length = i := by simp; omega
      have q1 := s.lt g1
      have q2 := s.lt g2
      have hnx := M.next
      have hgl := M.la.sl
      obtain ⟨hh, x⟩ := x
      simp only at hbx
      have hg : (al.map altC)[i]? = some (altC (hh, x)) := by simp [hx]
      try simp only [SS, argList, aPut, aFill, ↓reduceIte, Nat.reduceEqDiff, Nat.reduceAdd, Nat.reduceLeDiff, reduceCtorEq, Int.reduceEq, Int.reduceLT, Int.reduceLE, Int.reduceNeg, Int.reduceAdd, Int.reduceSub, Int.reduceToNat, hil', hg, altC, AltH.cells, Cr.len, Cr.take9, wp_callv, callvW_fn]
      repeat ((with_reducible first | refine AWP_seq ?_ | refine AWP_block ?_ | refine AWP_scope ?_ | refine AWP_reg ?_ | refine AWP_draw ?_ | refine AWP_skip ?_ | refine AWP_ret ?_ | refine AWP_exit ?_ | (refine AWP_cond_true ?_ ?_; · simp only [SS, argList, aPut, aFill, ↓reduceIte, Nat.reduceEqDiff, Nat.reduceAdd, Nat.reduceLeDiff, reduceCtorEq, Int.reduceEq, Int.reduceLT, Int.reduceLE, Int.reduceNeg, Int.reduceAdd, Int.reduceSub, Int.reduceToNat, hil', hg, altC, AltH.cells, Cr.len, Cr.take9, wp_callv, callvW_fn]) | (refine AWP_cond_false ?_ ?_; · simp only [SS, argList, aPut, aFill, ↓reduceIte, Nat.reduceEqDiff, Nat.reduceAdd, Nat.reduceLeDiff, reduceCtorEq, Int.reduceEq, Int.reduceLT, Int.reduceLE, Int.reduceNeg, Int.reduceAdd, Int.reduceSub, Int.reduceToNat, hil', hg, altC, AltH.cells, Cr.len, Cr.take9, wp_callv, callvW_fn])); try simp only [SS, argList, aPut, aFill, ↓reduceIte, Nat.reduceEqDiff, Nat.reduceAdd, Nat.reduceLeDiff, reduceCtorEq, Int.reduceEq, Int.reduceLT, Int.reduceLE, Int.reduceNeg, Int.reduceAdd, Int.reduceSub, Int.reduceToNat, hil', hg, altC, AltH.cells, Cr.len, Cr.take9, wp_callv, callvW_fn])
      refine (ih2 (hh, x) hxm b _ fid w df _ (M.push _).la hdf (by simp only [List.length_append, List.length_map]; omega)).mono ?_
      rintro _ s2 ⟨_, rfl, hP⟩
      obtain ⟨w2, M2, hk2, hf2, hn2⟩ := (M.push _).call hP
      have B2 := (B.push _).call (by have := M.le; have := M.fid; omega) hk2 hf2
      have g1' := hk2 σ.next (by rw [Store.push_next]; omega) (hi _ (Nat.le_refl _)) (M.loc (Nat.le_refl _) (by omega))
      have g2' := hk2 (σ.next + 1) (by rw [Store.push_next]; omega) (hi _ (by omega)) (M.loc (by omega) (by omega))
      have hsv : s.next ∉ slIds w := fun hm => by have := M.la.sl.lt hm; omega
      have hsu : s.next ∉ slIds u := fun hm => by have := B.sl.lt hm; omega
      have hsv2 : s.next ∉ slIds w2 := fun hm => (hf2 _ hm).elim hsv (fun hh => by rw [Store.push_next] at hh; omega)
      have g3' := hk2 s.next (by rw [Store.push_next]; omega) (hi _ (by have := M.le; omega)) hsv
      rw [Store.push_get, if_neg (by omega), g1] at g1'
      rw [Store.push_get, if_neg (by omega), g2] at g2'
      rw [Store.push_get, if_pos rfl] at g3'
      have hlen : ((E0) ++ List.map supC (liftA df textOf b (E0).length (al.take i)).2).length = (E0).length + (liftA df textOf b (E0).length (al.take i)).2.length := by simp
      rw [hlen] at M2 ⊢
      have hone := liftA_app df textOf b (E0).length (al.take i) [(hh, x)]
      rw [liftA_one, ← take_succ_at hx] at hone
      generalize liftS df textOf b ((E0).length + (liftA df textOf b (E0).length (al.take i)).2.length) x = z at M2 hone ⊢
      have hu3 : ∀ o, (s2.upd s.next o).get s.next = some o := fun o => Store.get_upd_self _ _ (s2.lt g3')
      try simp only [SS, argList, aPut, aFill, ↓reduceIte, Nat.reduceEqDiff, Nat.reduceAdd, Nat.reduceLeDiff, reduceCtorEq, Int.reduceEq, Int.reduceLT, Int.reduceLE, Int.reduceNeg, Int.reduceAdd, Int.reduceSub, Int.reduceToNat, Cr.len, g3', hu3, Cr.drop9, Cr.take9]
      repeat ((with_reducible first | refine AWP_seq ?_ | refine AWP_block ?_ | refine AWP_scope ?_ | refine AWP_reg ?_ | refine AWP_draw ?_ | refine AWP_skip ?_ | refine AWP_ret ?_ | refine AWP_exit ?_ | (refine AWP_cond_true ?_ ?_; · simp only [SS, argList, aPut, aFill, ↓reduceIte, Nat.reduceEqDiff, Nat.reduceAdd, Nat.reduceLeDiff, reduceCtorEq, Int.reduceEq, Int.reduceLT, Int.reduceLE, Int.reduceNeg, Int.reduceAdd, Int.reduceSub, Int.reduceToNat, Cr.len, g3', hu3, Cr.drop9, Cr.take9]) | (refine AWP_cond_false ?_ ?_; · simp only [SS, argList, aPut, aFill, ↓reduceIte, Nat.reduceEqDiff, Nat.reduceAdd, Nat.reduceLeDiff, reduceCtorEq, Int.reduceEq, Int.reduceLT, Int.reduceLE, Int.reduceNeg, Int.reduceAdd, Int.reduceSub, Int.reduceToNat, Cr.len, g3', hu3, Cr.drop9, Cr.take9])); try simp only [SS, argList, aPut, aFill, ↓reduceIte, Nat.reduceEqDiff, Nat.reduceAdd, Nat.reduceLeDiff, reduceCtorEq, Int.reduceEq, Int.reduceLT, Int.reduceLE, Int.reduceNeg, Int.reduceAdd, Int.reduceSub, Int.reduceToNat, Cr.len, g3', hu3, Cr.drop9, Cr.take9])
      refine ok_bes (M2.upd _ (by have := M.le; omega) hsv2) (B2.upd _ hsu) (us2 := [AV.int .i64 hh.k :: AV.str hh.nm :: AV.int .i64 hh.n :: strs hh.ps :: z.1.cells]) (by simp [Cr.len]) (by simp; omega) (by simp [maxLen]; omega) ?_
      intro u' s3 M3 B3 hk3 hn3
      have a1 := hk3 σ.next (s2.lt g1') (fun hm => by have := B2.new _ hm; omega)
      have a2 := hk3 (σ.next + 1) (s2.lt g2') (fun hm => by have := B2.new _ hm; omega)
      rw [Store.get_upd_ne _ _ (by have := M.le; omega)] at a1
      rw [Store.get_upd_ne _ _ (by have := M.le; omega)] at a2
      try simp only [SS, argList, aPut, aFill, ↓reduceIte, Nat.reduceEqDiff, Nat.reduceAdd, Nat.reduceLeDiff, reduceCtorEq, Int.reduceEq, Int.reduceLT, Int.reduceLE, Int.reduceNeg, Int.reduceAdd, Int.reduceSub, Int.reduceToNat, hw]
      repeat ((with_reducible first | refine AWP_seq ?_ | refine AWP_block ?_ | refine AWP_scope ?_ | refine AWP_reg ?_ | refine AWP_draw ?_ | refine AWP_skip ?_ | refine AWP_ret ?_ | refine AWP_exit ?_ | (refine AWP_cond_true ?_ ?_; · simp only [SS, argList, aPut, aFill, ↓reduceIte, Nat.reduceEqDiff, Nat.reduceAdd, Nat.reduceLeDiff, reduceCtorEq, Int.reduceEq, Int.reduceLT, Int.reduceLE, Int.reduceNeg, Int.reduceAdd, Int.reduceSub, Int.reduceToNat, hw]) | (refine AWP_cond_false ?_ ?_; · simp only [SS, argList, aPut, aFill, ↓reduceIte, Nat.reduceEqDiff, Nat.reduceAdd, Nat.reduceLeDiff, reduceCtorEq, Int.reduceEq, Int.reduceLT, Int.reduceLE, Int.reduceNeg, Int.reduceAdd, Int.reduceSub, Int.reduceToNat, hw])); try simp only [SS, argList, aPut, aFill, ↓reduceIte, Nat.reduceEqDiff, Nat.reduceAdd, Nat.reduceLeDiff, reduceCtorEq, Int.reduceEq, Int.reduceLT, Int.reduceLE, Int.reduceNeg, Int.reduceAdd, Int.reduceSub, Int.reduceToNat, hw])
      refine ⟨((w2, u'), i + 1), rfl, ⟨by simp only; omega, ?_, ?_, by rw [a1, g1'], by rw [a2, g2']⟩, by simp only; omega⟩
      · simp only [hone, List.map_append, ← List.append_assoc]; simpa [List.append_assoc] using M3
      · simp only [hone, List.map_append]; exact B3
    · have hil' : ¬ (i : Int) < (al.length : Int) := by omega
      rw [List.take_of_length_le (by omega)] at M B
      try simp only [SS, argList, aPut, aFill, ↓reduceIte, Nat.reduceEqDiff, Nat.reduceAdd, Nat.reduceLeDiff, reduceCtorEq, Int.reduceEq, Int.reduceLT, Int.reduceLE, Int.reduceNeg, Int.reduceAdd, Int.reduceSub, Int.reduceToNat, hil']
      repeat ((with_reducible first | refine AWP_seq ?_ | refine AWP_block ?_ | refine AWP_scope ?_ | refine AWP_reg ?_ | refine AWP_draw ?_ | refine AWP_skip ?_ | refine AWP_ret ?_ | refine AWP_exit ?_ | (refine AWP_cond_true ?_ ?_; · simp only [SS, argList, aPut, aFill, ↓reduceIte, Nat.reduceEqDiff, Nat.reduceAdd, Nat.reduceLeDiff, reduceCtorEq, Int.reduceEq, Int.reduceLT, Int.reduceLE, Int.reduceNeg, Int.reduceAdd, Int.reduceSub, Int.reduceToNat, hil']) | (refine AWP_cond_false ?_ ?_; · simp only [SS, argList, aPut, aFill, ↓reduceIte, Nat.reduceEqDiff, Nat.reduceAdd, Nat.reduceLeDiff, reduceCtorEq, Int.reduceEq, Int.reduceLT, Int.reduceLE, Int.reduceNeg, Int.reduceAdd, Int.reduceSub, Int.reduceToNat, hil'])); try simp only [SS, argList, aPut, aFill, ↓reduceIte, Nat.reduceEqDiff, Nat.reduceAdd, Nat.reduceLeDiff, reduceCtorEq, Int.reduceEq, Int.reduceLT, Int.reduceLE, Int.reduceNeg, Int.reduceAdd, Int.reduceSub, Int.reduceToNat, hil'])
      exact ⟨(w, u), rfl, M, B, g1, g2⟩
  rintro ⟨w1, u1⟩ s1 ⟨M, B, g1, g2⟩
  simp only at M B
  clear M1 e1 e2
  refine AWP_bes 13 rfl M B ?_
  intro t1 M' hn hg
  have hne := M.next
  have g1' := hg σ.next (by omega)
  have g2' := hg (σ.next + 1) (by omega)
  rw [g1] at g1'
  rw [g2] at g2'
  have hlt := t1.lt g1'
  simp only [List.zip_cons_cons, List.zip_nil_right]
  try simp only [SS, argList, aPut, aFill, ↓reduceIte, Nat.reduceEqDiff, Nat.reduceAdd, Nat.reduceLeDiff, reduceCtorEq, Int.reduceEq, Int.reduceLT, Int.reduceLE, Int.reduceNeg, Int.reduceAdd, Int.reduceSub, Int.reduceToNat, g1']
  iterate 2 ((with_reducible first | refine AWP_seq ?_ | refine AWP_block ?_ | refine AWP_scope ?_ | refine AWP_reg ?_ | refine AWP_draw ?_ | refine AWP_skip ?_ | refine AWP_ret ?_ | refine AWP_exit ?_ | (refine AWP_cond_true ?_ ?_; · simp only [SS, argList, aPut, aFill, ↓reduceIte, Nat.reduceEqDiff, Nat.reduceAdd, Nat.reduceLeDiff, reduceCtorEq, Int.reduceEq, Int.reduceLT, Int.reduceLE, Int.reduceNeg, Int.reduceAdd, Int.reduceSub, Int.reduceToNat, g1']) | (refine AWP_cond_false ?_ ?_; · simp only [SS, argList, aPut, aFill, ↓reduceIte, Nat.reduceEqDiff, Nat.reduceAdd, Nat.reduceLeDiff, reduceCtorEq, Int.reduceEq, Int.reduceLT, Int.reduceLE, Int.reduceNeg, Int.reduceAdd, Int.reduceSub, Int.reduceToNat, g1'])); try simp only [SS, argList, aPut, aFill, ↓reduceIte, Nat.reduceEqDiff, Nat.reduceAdd, Nat.reduceLeDiff, reduceCtorEq, Int.reduceEq, Int.reduceLT, Int.reduceLE, Int.reduceNeg, Int.reduceAdd, Int.reduceSub, Int.reduceToNat, g1'])
  have M2 := M'.upd (.cells 54 0 9 [[.int .i64 k, .str nm, .int .i64 m, .int .i64 ar, strs ps, .list ((liftL df textOf (b && k != 5) (es).length gs).1.map Cr.cells), .list ((liftA df textOf b (E0).length al).1.map altC), .list (bs.map bindC), .list (pk.map pickC)]]) (Nat.le_refl _) (M'.loc (Nat.le_refl _) (by omega))
  have e1 := Store.get_upd_self t1 (.cells 54 0 9 [[.int .i64 k, .str nm, .int .i64 m, .int .i64 ar, strs ps, .list ((liftL df textOf (b && k != 5) (es).length gs).1.map Cr.cells), .list ((liftA df textOf b (E0).length al).1.map altC), .list (bs.map bindC), .list (pk.map pickC)]]) hlt
  have e2 : (t1.upd σ.next (.cells 54 0 9 [[.int .i64 k, .str nm, .int .i64 m, .int .i64 ar, strs ps, .list ((liftL df textOf (b && k != 5) (es).length gs).1.map Cr.cells), .list ((liftA df textOf b (E0).length al).1.map altC), .list (bs.map bindC), .list (pk.map pickC)]])).get (σ.next + 1) = _ := (Store.get_upd_ne t1 _ (by omega)).trans g2'
  have hlx1 := liftA_len df textOf al b (E0).length
  clear M M' B g1 g2 g1' g2' hg hne hlt hn
  have hE1 : ((E0) ++ (liftA df textOf b (E0).length al).2.map supC).length = (E0).length + (liftA df textOf b (E0).length al).2.length := by simp
  generalize hD1 : (E0) ++ (liftA df textOf b (E0).length al).2.map supC = E1 at M2 hE1
  try simp only [SS, argList, aPut, aFill, ↓reduceIte, Nat.reduceEqDiff, Nat.reduceAdd, Nat.reduceLeDiff, reduceCtorEq, Int.reduceEq, Int.reduceLT, Int.reduceLE, Int.reduceNeg, Int.reduceAdd, Int.reduceSub, Int.reduceToNat]
  iterate 2 ((with_reducible first | refine AWP_seq ?_ | refine AWP_block ?_ | refine AWP_scope ?_ | refine AWP_reg ?_ | refine AWP_draw ?_ | refine AWP_skip ?_ | refine AWP_ret ?_ | refine AWP_exit ?_ | (refine AWP_cond_true ?_ ?_; · simp only [SS, argList, aPut, aFill, ↓reduceIte, Nat.reduceEqDiff, Nat.reduceAdd, Nat.reduceLeDiff, reduceCtorEq, Int.reduceEq, Int.reduceLT, Int.reduceLE, Int.reduceNeg, Int.reduceAdd, Int.reduceSub, Int.reduceToNat]) | (refine AWP_cond_false ?_ ?_; · simp only [SS, argList, aPut, aFill, ↓reduceIte, Nat.reduceEqDiff, Nat.reduceAdd, Nat.reduceLeDiff, reduceCtorEq, Int.reduceEq, Int.reduceLT, Int.reduceLE, Int.reduceNeg, Int.reduceAdd, Int.reduceSub, Int.reduceToNat])); try simp only [SS, argList, aPut, aFill, ↓reduceIte, Nat.reduceEqDiff, Nat.reduceAdd, Nat.reduceLeDiff, reduceCtorEq, Int.reduceEq, Int.reduceLT, Int.reduceLE, Int.reduceNeg, Int.reduceAdd, Int.reduceSub, Int.reduceToNat])
  refine AWP_cut [2, 3, 5, 8, 16] (fun y : AV × AV => [.fn (.func (fnL b)) [.ptr fid 0 0 0] [], .fn (.func 89) [.ptr fid 0 0 0] [], .ptr σ.next 0 0 0, .ptr (σ.next + 1) 0 0 0, y.2])
    (fun y s => MS σ s (σ.next + 2) fid v y.1 df ((E1) ++ (liftB df textOf false (E1).length bs).2.map supC) ∧ Bes s (σ.next + 2) y.1 y.2 114 10 ((liftB df textOf false (E1).length bs).1.map bindC) ∧ s.get σ.next = some (.cells 54 0 9 [[.int .i64 k, .str nm, .int .i64 m, .int .i64 ar, strs ps, .list ((liftL df textOf (b && k != 5) (es).length gs).1.map Cr.cells), .list ((liftA df textOf b (E0).length al).1.map altC), .list (bs.map bindC), .list (pk.map pickC)]]) ∧ s.get (σ.next + 1) = some (.cells 54 0 9 [[.int .i64 0, .str ⟨#[]⟩, .int .i64 0, .int .i64 0, .nils, .nils, .nils, .nils, .nils]])) ?_ ?_
  · try simp only [SS, argList, aPut, aFill, ↓reduceIte, Nat.reduceEqDiff, Nat.reduceAdd, Nat.reduceLeDiff, reduceCtorEq, Int.reduceEq, Int.reduceLT, Int.reduceLE, Int.reduceNeg, Int.reduceAdd, Int.reduceSub, Int.reduceToNat, e1]
    repeat ((with_reducible first | refine AWP_seq ?_ | refine AWP_block ?_ | refine AWP_scope ?_ | refine AWP_reg ?_ | refine AWP_draw ?_ | refine AWP_skip ?_ | refine AWP_ret ?_ | refine AWP_exit ?_ | (refine AWP_cond_true ?_ ?_; · simp only [SS, argList, aPut, aFill, ↓reduceIte, Nat.reduceEqDiff, Nat.reduceAdd, Nat.reduceLeDiff, reduceCtorEq, Int.reduceEq, Int.reduceLT, Int.reduceLE, Int.reduceNeg, Int.reduceAdd, Int.reduceSub, Int.reduceToNat, e1]) | (refine AWP_cond_false ?_ ?_; · simp only [SS, argList, aPut, aFill, ↓reduceIte, Nat.reduceEqDiff, Nat.reduceAdd, Nat.reduceLeDiff, reduceCtorEq, Int.reduceEq, Int.reduceLT, Int.reduceLE, Int.reduceNeg, Int.reduceAdd, Int.reduceSub, Int.reduceToNat, e1])); try simp only [SS, argList, aPut, aFill, ↓reduceIte, Nat.reduceEqDiff, Nat.reduceAdd, Nat.reduceLeDiff, reduceCtorEq, Int.reduceEq, Int.reduceLT, Int.reduceLE, Int.reduceNeg, Int.reduceAdd, Int.reduceSub, Int.reduceToNat, e1])
    refine AWP_while [2, 3, 5, 8, 16, 63, 64, 65] (fun y : (AV × AV) × Nat => bs.length - y.2) (fun y => [.fn (.func (fnL b)) [.ptr fid 0 0 0] [], .fn (.func 89) [.ptr fid 0 0 0] [], .ptr σ.next 0 0 0, .ptr (σ.next + 1) 0 0 0, y.1.2, .list (bs.map bindC), .int .i64 bs.length, .int .i64 y.2])
      (fun y s => y.2 ≤ bs.length ∧ MS σ s (σ.next + 2) fid v y.1.1 df ((E1) ++ (liftB df textOf false (E1).length (bs.take y.2)).2.map supC) ∧ Bes s (σ.next + 2) y.1.1 y.1.2 114 10 ((liftB df textOf false (E1).length (bs.take y.2)).1.map bindC) ∧ s.get σ.next = some (.cells 54 0 9 [[.int .i64 k, .str nm, .int .i64 m, .int .i64 ar, strs ps, .list ((liftL df textOf (b && k != 5) (es).length gs).1.map Cr.cells), .list ((liftA df textOf b (E0).length al).1.map altC), .list (bs.map bindC), .list (pk.map pickC)]]) ∧ s.get (σ.next + 1) = some (.cells 54 0 9 [[.int .i64 0, .str ⟨#[]⟩, .int .i64 0, .int .i64 0, .nils, .nils, .nils, .nils, .nils]]))
      ((w1, .nils), 0) ⟨by simp, by simpa [liftB] using M2, by simpa [liftB] using Bes.start _ _ _ _ _, e1, e2⟩ ?_ ?_
    · try simp only [SS, argList, aPut, aFill, ↓reduceIte, Nat.reduceEqDiff, Nat.reduceAdd, Nat.reduceLeDiff, reduceCtorEq, Int.reduceEq, Int.reduceLT, Int.reduceLE, Int.reduceNeg, Int.reduceAdd, Int.reduceSub, Int.reduceToNat]
      repeat ((with_reducible first | refine AWP_seq ?_ | refine AWP_block ?_ | refine AWP_scope ?_ | refine AWP_reg ?_ | refine AWP_draw ?_ | refine AWP_skip ?_ | refine AWP_ret ?_ | refine AWP_exit ?_ | (refine AWP_cond_true ?_ ?_; · simp only [SS, argList, aPut, aFill, ↓reduceIte, Nat.reduceEqDiff, Nat.reduceAdd, Nat.reduceLeDiff, reduceCtorEq, Int.reduceEq, Int.reduceLT, Int.reduceLE, Int.reduceNeg, Int.reduceAdd, Int.reduceSub, Int.reduceToNat]) | (refine AWP_cond_false ?_ ?_; · simp only [SS, argList, aPut, aFill, ↓reduceIte, Nat.reduceEqDiff, Nat.reduceAdd, Nat.reduceLeDiff, reduceCtorEq, Int.reduceEq, Int.reduceLT, Int.reduceLE, Int.reduceNeg, Int.reduceAdd, Int.reduceSub, Int.reduceToNat])); try simp only [SS, argList, aPut, aFill, ↓reduceIte, Nat.reduceEqDiff, Nat.reduceAdd, Nat.reduceLeDiff, reduceCtorEq, Int.reduceEq, Int.reduceLT, Int.reduceLE, Int.reduceNeg, Int.reduceAdd, Int.reduceSub, Int.reduceToNat])
      rfl
    rintro ⟨⟨w, u⟩, i⟩ s ⟨hil0, M, B, g1, g2⟩
    simp only at hil0 M B g1 g2
    have hw := wrap_succ (i := i) (by omega)
    by_cases hil : i < bs.length
    · have hil' : (i : Int) < (bs.length : Int) := by omega
      obtain ⟨x, hx⟩ : ∃ x, bs[i]? = some x := ⟨_, List.getElem?_eq_getElem hil⟩
      have hxm := List.mem_of_getElem? hx
      have hbx := Cr.bulkB_take hx
      have hll := liftB_len df textOf (bs.take i) false (E1).length
      have hl1 := liftB_l df textOf false (E1).length (bs.take i)
      have hlt : (bs.take i).length = i := by simp; omega
      have q1 := s.lt g1
      have q2 := s.lt g2
      have hnx := M.next
      have hgl := M.la.sl
      obtain ⟨hh, x⟩ := x
      simp only at hbx
      have hg : (bs.map bindC)[i]? = some (bindC (hh, x)) := by simp [hx]
      try simp only [SS, argList, aPut, aFill, ↓reduceIte, Nat.reduceEqDiff, Nat.reduceAdd, Nat.reduceLeDiff, reduceCtorEq, Int.reduceEq, Int.reduceLT, Int.reduceLE, Int.reduceNeg, Int.reduceAdd, Int.reduceSub, Int.reduceToNat, hil', hg, bindC, Cr.len, Cr.take9, wp_callv, callvW_fn]
      repeat ((with_reducible first | refine AWP_seq ?_ | refine AWP_block ?_ | refine AWP_scope ?_ | refine AWP_reg ?_ | refine AWP_draw ?_ | refine AWP_skip ?_ | refine AWP_ret ?_ | refine AWP_exit ?_ | (refine AWP_cond_true ?_ ?_; · simp only [SS, argList, aPut, aFill, ↓reduceIte, Nat.reduceEqDiff, Nat.reduceAdd, Nat.reduceLeDiff, reduceCtorEq, Int.reduceEq, Int.reduceLT, Int.reduceLE, Int.reduceNeg, Int.reduceAdd, Int.reduceSub, Int.reduceToNat, hil', hg, bindC, Cr.len, Cr.take9, wp_callv, callvW_fn]) | (refine AWP_cond_false ?_ ?_; · simp only [SS, argList, aPut, aFill, ↓reduceIte, Nat.reduceEqDiff, Nat.reduceAdd, Nat.reduceLeDiff, reduceCtorEq, Int.reduceEq, Int.reduceLT, Int.reduceLE, Int.reduceNeg, Int.reduceAdd, Int.reduceSub, Int.reduceToNat, hil', hg, bindC, Cr.len, Cr.take9, wp_callv, callvW_fn])); try simp only [SS, argList, aPut, aFill, ↓reduceIte, Nat.reduceEqDiff, Nat.reduceAdd, Nat.reduceLeDiff, reduceCtorEq, Int.reduceEq, Int.reduceLT, Int.reduceLE, Int.reduceNeg, Int.reduceAdd, Int.reduceSub, Int.reduceToNat, hil', hg, bindC, Cr.len, Cr.take9, wp_callv, callvW_fn])
      refine (ih3 (hh, x) hxm false _ fid w df _ (M.push _).la hdf (by simp only [List.length_append, List.length_map]; omega)).mono ?_
      rintro _ s2 ⟨_, rfl, hP⟩
      obtain ⟨w2, M2, hk2, hf2, hn2⟩ := (M.push _).call hP
      have B2 := (B.push _).call (by have := M.le; have := M.fid; omega) hk2 hf2
      have g1' := hk2 σ.next (by rw [Store.push_next]; omega) (hi _ (Nat.le_refl _)) (M.loc (Nat.le_refl _) (by omega))
      have g2' := hk2 (σ.next + 1) (by rw [Store.push_next]; omega) (hi _ (by omega)) (M.loc (by omega) (by omega))
      have hsv : s.next ∉ slIds w := fun hm => by have := M.la.sl.lt hm; omega
      have hsu : s.next ∉ slIds u := fun hm => by have := B.sl.lt hm; omega
      have hsv2 : s.next ∉ slIds w2 := fun hm => (hf2 _ hm).elim hsv (fun hh => by rw [Store.push_next] at hh; omega)
      have g3' := hk2 s.next (by rw [Store.push_next]; omega) (hi _ (by have := M.le; omega)) hsv
      rw [Store.push_get, if_neg (by omega), g1] at g1'
      rw [Store.push_get, if_neg (by omega), g2] at g2'
      rw [Store.push_get, if_pos rfl] at g3'
      have hlen : ((E1) ++ List.map supC (liftB df textOf false (E1).length (bs.take i)).2).length = (E1).length + (liftB df textOf false (E1).length (bs.take i)).2.length := by simp
      rw [hlen] at M2 ⊢
      have hone := liftB_app df textOf false (E1).length (bs.take i) [(hh, x)]
      rw [liftB_one, ← take_succ_at hx] at hone
      generalize liftS df textOf false ((E1).length + (liftB df textOf false (E1).length (bs.take i)).2.length) x = z at M2 hone ⊢
      have hu3 : ∀ o, (s2.upd s.next o).get s.next = some o := fun o => Store.get_upd_self _ _ (s2.lt g3')
      try simp only [SS, argList, aPut, aFill, ↓reduceIte, Nat.reduceEqDiff, Nat.reduceAdd, Nat.reduceLeDiff, reduceCtorEq, Int.reduceEq, Int.reduceLT, Int.reduceLE, Int.reduceNeg, Int.reduceAdd, Int.reduceSub, Int.reduceToNat, Cr.len, g3', hu3, Cr.drop9, Cr.take9]
      repeat ((with_reducible first | refine AWP_seq ?_ | refine AWP_block ?_ | refine AWP_scope ?_ | refine AWP_reg ?_ | refine AWP_draw ?_ | refine AWP_skip ?_ | refine AWP_ret ?_ | refine AWP_exit ?_ | (refine AWP_cond_true ?_ ?_; · simp only [SS, argList, aPut, aFill, ↓reduceIte, Nat.reduceEqDiff, Nat.reduceAdd, Nat.reduceLeDiff, reduceCtorEq, Int.reduceEq, Int.reduceLT, Int.reduceLE, Int.reduceNeg, Int.reduceAdd, Int.reduceSub, Int.reduceToNat, Cr.len, g3', hu3, Cr.drop9, Cr.take9]) | (refine AWP_cond_false ?_ ?_; · simp only [SS, argList, aPut, aFill, ↓reduceIte, Nat.reduceEqDiff, Nat.reduceAdd, Nat.reduceLeDiff, reduceCtorEq, Int.reduceEq, Int.reduceLT, Int.reduceLE, Int.reduceNeg, Int.reduceAdd, Int.reduceSub, Int.reduceToNat, Cr.len, g3', hu3, Cr.drop9, Cr.take9])); try simp only [SS, argList, aPut, aFill, ↓reduceIte, Nat.reduceEqDiff, Nat.reduceAdd, Nat.reduceLeDiff, reduceCtorEq, Int.reduceEq, Int.reduceLT, Int.reduceLE, Int.reduceNeg, Int.reduceAdd, Int.reduceSub, Int.reduceToNat, Cr.len, g3', hu3, Cr.drop9, Cr.take9])
      refine ok_bes (M2.upd _ (by have := M.le; omega) hsv2) (B2.upd _ hsu) (us2 := [AV.str hh :: z.1.cells]) (by simp [Cr.len]) (by simp; omega) (by simp [maxLen]; omega) ?_
      intro u' s3 M3 B3 hk3 hn3
      have a1 := hk3 σ.next (s2.lt g1') (fun hm => by have := B2.new _ hm; omega)
      have a2 := hk3 (σ.next + 1) (s2.lt g2') (fun hm => by have := B2.new _ hm; omega)
      rw [Store.get_upd_ne _ _ (by have := M.le; omega)] at a1
      rw [Store.get_upd_ne _ _ (by have := M.le; omega)] at a2
      try simp only [SS, argList, aPut, aFill, ↓reduceIte, Nat.reduceEqDiff, Nat.reduceAdd, Nat.reduceLeDiff, reduceCtorEq, Int.reduceEq, Int.reduceLT, Int.reduceLE, Int.reduceNeg, Int.reduceAdd, Int.reduceSub, Int.reduceToNat, hw]
      repeat ((with_reducible first | refine AWP_seq ?_ | refine AWP_block ?_ | refine AWP_scope ?_ | refine AWP_reg ?_ | refine AWP_draw ?_ | refine AWP_skip ?_ | refine AWP_ret ?_ | refine AWP_exit ?_ | (refine AWP_cond_true ?_ ?_; · simp only [SS, argList, aPut, aFill, ↓reduceIte, Nat.reduceEqDiff, Nat.reduceAdd, Nat.reduceLeDiff, reduceCtorEq, Int.reduceEq, Int.reduceLT, Int.reduceLE, Int.reduceNeg, Int.reduceAdd, Int.reduceSub, Int.reduceToNat, hw]) | (refine AWP_cond_false ?_ ?_; · simp only [SS, argList, aPut, aFill, ↓reduceIte, Nat.reduceEqDiff, Nat.reduceAdd, Nat.reduceLeDiff, reduceCtorEq, Int.reduceEq, Int.reduceLT, Int.reduceLE, Int.reduceNeg, Int.reduceAdd, Int.reduceSub, Int.reduceToNat, hw])); try simp only [SS, argList, aPut, aFill, ↓reduceIte, Nat.reduceEqDiff, Nat.reduceAdd, Nat.reduceLeDiff, reduceCtorEq, Int.reduceEq, Int.reduceLT, Int.reduceLE, Int.reduceNeg, Int.reduceAdd, Int.reduceSub, Int.reduceToNat, hw])
      refine ⟨((w2, u'), i + 1), rfl, ⟨by simp only; omega, ?_, ?_, by rw [a1, g1'], by rw [a2, g2']⟩, by simp only; omega⟩
      · simp only [hone, List.map_append, ← List.append_assoc]; simpa [List.append_assoc] using M3
      · simp only [hone, List.map_append]; exact B3
    · have hil' : ¬ (i : Int) < (bs.length : Int) := by omega
      rw [List.take_of_length_le (by omega)] at M B
      try simp only [SS, argList, aPut, aFill, ↓reduceIte, Nat.reduceEqDiff, Nat.reduceAdd, Nat.reduceLeDiff, reduceCtorEq, Int.reduceEq, Int.reduceLT, Int.reduceLE, Int.reduceNeg, Int.reduceAdd, Int.reduceSub, Int.reduceToNat, hil']
      repeat ((with_reducible first | refine AWP_seq ?_ | refine AWP_block ?_ | refine AWP_scope ?_ | refine AWP_reg ?_ | refine AWP_draw ?_ | refine AWP_skip ?_ | refine AWP_ret ?_ | refine AWP_exit ?_ | (refine AWP_cond_true ?_ ?_; · simp only [SS, argList, aPut, aFill, ↓reduceIte, Nat.reduceEqDiff, Nat.reduceAdd, Nat.reduceLeDiff, reduceCtorEq, Int.reduceEq, Int.reduceLT, Int.reduceLE, Int.reduceNeg, Int.reduceAdd, Int.reduceSub, Int.reduceToNat, hil']) | (refine AWP_cond_false ?_ ?_; · simp only [SS, argList, aPut, aFill, ↓reduceIte, Nat.reduceEqDiff, Nat.reduceAdd, Nat.reduceLeDiff, reduceCtorEq, Int.reduceEq, Int.reduceLT, Int.reduceLE, Int.reduceNeg, Int.reduceAdd, Int.reduceSub, Int.reduceToNat, hil'])); try simp only [SS, argList, aPut, aFill, ↓reduceIte, Nat.reduceEqDiff, Nat.reduceAdd, Nat.reduceLeDiff, reduceCtorEq, Int.reduceEq, Int.reduceLT, Int.reduceLE, Int.reduceNeg, Int.reduceAdd, Int.reduceSub, Int.reduceToNat, hil'])
      exact ⟨(w, u), rfl, M, B, g1, g2⟩
  rintro ⟨w2, u2⟩ s2 ⟨M, B, g1, g2⟩
  simp only at M B
  clear M2 e1 e2
  refine AWP_bes 16 rfl M B ?_
  intro t2 M' hn hg
  have hne := M.next
  have g1' := hg σ.next (by omega)
  have g2' := hg (σ.next + 1) (by omega)
  rw [g1] at g1'
  rw [g2] at g2'
  have hlt := t2.lt g1'
  simp only [List.zip_cons_cons, List.zip_nil_right]
  try simp only [SS, argList, aPut, aFill, ↓reduceIte, Nat.reduceEqDiff, Nat.reduceAdd, Nat.reduceLeDiff, reduceCtorEq, Int.reduceEq, Int.reduceLT, Int.reduceLE, Int.reduceNeg, Int.reduceAdd, Int.reduceSub, Int.reduceToNat, g1']
  iterate 2 ((with_reducible first | refine AWP_seq ?_ | refine AWP_block ?_ | refine AWP_scope ?_ | refine AWP_reg ?_ | refine AWP_draw ?_ | refine AWP_skip ?_ | refine AWP_ret ?_ | refine AWP_exit ?_ | (refine AWP_cond_true ?_ ?_; · simp only [SS, argList, aPut, aFill, ↓reduceIte, Nat.reduceEqDiff, Nat.reduceAdd, Nat.reduceLeDiff, reduceCtorEq, Int.reduceEq, Int.reduceLT, Int.reduceLE, Int.reduceNeg, Int.reduceAdd, Int.reduceSub, Int.reduceToNat, g1']) | (refine AWP_cond_false ?_ ?_; · simp only [SS, argList, aPut, aFill, ↓reduceIte, Nat.reduceEqDiff, Nat.reduceAdd, Nat.reduceLeDiff, reduceCtorEq, Int.reduceEq, Int.reduceLT, Int.reduceLE, Int.reduceNeg, Int.reduceAdd, Int.reduceSub, Int.reduceToNat, g1'])); try simp only [SS, argList, aPut, aFill, ↓reduceIte, Nat.reduceEqDiff, Nat.reduceAdd, Nat.reduceLeDiff, reduceCtorEq, Int.reduceEq, Int.reduceLT, Int.reduceLE, Int.reduceNeg, Int.reduceAdd, Int.reduceSub, Int.reduceToNat, g1'])
  have M3 := M'.upd (.cells 54 0 9 [[.int .i64 k, .str nm, .int .i64 m, .int .i64 ar, strs ps, .list ((liftL df textOf (b && k != 5) (es).length gs).1.map Cr.cells), .list ((liftA df textOf b (E0).length al).1.map altC), .list ((liftB df textOf false (E1).length bs).1.map bindC), .list (pk.map pickC)]]) (Nat.le_refl _) (M'.loc (Nat.le_refl _) (by omega))
  have e1 := Store.get_upd_self t2 (.cells 54 0 9 [[.int .i64 k, .str nm, .int .i64 m, .int .i64 ar, strs ps, .list ((liftL df textOf (b && k != 5) (es).length gs).1.map Cr.cells), .list ((liftA df textOf b (E0).length al).1.map altC), .list ((liftB df textOf false (E1).length bs).1.map bindC), .list (pk.map pickC)]]) hlt
  have e2 : (t2.upd σ.next (.cells 54 0 9 [[.int .i64 k, .str nm, .int .i64 m, .int .i64 ar, strs ps, .list ((liftL df textOf (b && k != 5) (es).length gs).1.map Cr.cells), .list ((liftA df textOf b (E0).length al).1.map altC), .list ((liftB df textOf false (E1).length bs).1.map bindC), .list (pk.map pickC)]])).get (σ.next + 1) = _ := (Store.get_upd_ne t2 _ (by omega)).trans g2'
  have hlx2 := liftB_len df textOf bs false (E1).length
  clear M M' B g1 g2 g1' g2' hg hne hlt hn
  have hE2 : ((E1) ++ (liftB df textOf false (E1).length bs).2.map supC).length = (E1).length + (liftB df textOf false (E1).length bs).2.length := by simp
  generalize hD2 : (E1) ++ (liftB df textOf false (E1).length bs).2.map supC = E2 at M3 hE2
  try simp only [SS, argList, aPut, aFill, ↓reduceIte, Nat.reduceEqDiff, Nat.reduceAdd, Nat.reduceLeDiff, reduceCtorEq, Int.reduceEq, Int.reduceLT, Int.reduceLE, Int.reduceNeg, Int.reduceAdd, Int.reduceSub, Int.reduceToNat]
  iterate 2 ((with_reducible first | refine AWP_seq ?_ | refine AWP_block ?_ | refine AWP_scope ?_ | refine AWP_reg ?_ | refine AWP_draw ?_ | refine AWP_skip ?_ | refine AWP_ret ?_ | refine AWP_exit ?_ | (refine AWP_cond_true ?_ ?_; · simp only [SS, argList, aPut, aFill, ↓reduceIte, Nat.reduceEqDiff, Nat.reduceAdd, Nat.reduceLeDiff, reduceCtorEq, Int.reduceEq, Int.reduceLT, Int.reduceLE, Int.reduceNeg, Int.reduceAdd, Int.reduceSub, Int.reduceToNat]) | (refine AWP_cond_false ?_ ?_; · simp only [SS, argList, aPut, aFill, ↓reduceIte, Nat.reduceEqDiff, Nat.reduceAdd, Nat.reduceLeDiff, reduceCtorEq, Int.reduceEq, Int.reduceLT, Int.reduceLE, Int.reduceNeg, Int.reduceAdd, Int.reduceSub, Int.reduceToNat])); try simp only [SS, argList, aPut, aFill, ↓reduceIte, Nat.reduceEqDiff, Nat.reduceAdd, Nat.reduceLeDiff, reduceCtorEq, Int.reduceEq, Int.reduceLT, Int.reduceLE, Int.reduceNeg, Int.reduceAdd, Int.reduceSub, Int.reduceToNat])
  refine AWP_cut [2, 3, 5, 8, 19] (fun y : AV × AV => [.fn (.func (fnL b)) [.ptr fid 0 0 0] [], .fn (.func 89) [.ptr fid 0 0 0] [], .ptr σ.next 0 0 0, .ptr (σ.next + 1) 0 0 0, y.2])
    (fun y s => MS σ s (σ.next + 2) fid v y.1 df ((E2) ++ (liftP df textOf b (E2).length pk).2.map supC) ∧ Bes s (σ.next + 2) y.1 y.2 116 10 ((liftP df textOf b (E2).length pk).1.map pickC) ∧ s.get σ.next = some (.cells 54 0 9 [[.int .i64 k, .str nm, .int .i64 m, .int .i64 ar, strs ps, .list ((liftL df textOf (b && k != 5) (es).length gs).1.map Cr.cells), .list ((liftA df textOf b (E0).length al).1.map altC), .list ((liftB df textOf false (E1).length bs).1.map bindC), .list (pk.map pickC)]]) ∧ s.get (σ.next + 1) = some (.cells 54 0 9 [[.int .i64 0, .str ⟨#[]⟩, .int .i64 0, .int .i64 0, .nils, .nils, .nils, .nils, .nils]])) ?_ ?_
  · try simp only [SS, argList, aPut, aFill, ↓reduceIte, Nat.reduceEqDiff, Nat.reduceAdd, Nat.reduceLeDiff, reduceCtorEq, Int.reduceEq, Int.reduceLT, Int.reduceLE, Int.reduceNeg, Int.reduceAdd, Int.reduceSub, Int.reduceToNat, e1]
    repeat ((with_reducible first | refine AWP_seq ?_ | refine AWP_block ?_ | refine AWP_scope ?_ | refine AWP_reg ?_ | refine AWP_draw ?_ | refine AWP_skip ?_ | refine AWP_ret ?_ | refine AWP_exit ?_ | (refine AWP_cond_true ?_ ?_; · simp only [SS, argList, aPut, aFill, ↓reduceIte, Nat.reduceEqDiff, Nat.reduceAdd, Nat.reduceLeDiff, reduceCtorEq, Int.reduceEq, Int.reduceLT, Int.reduceLE, Int.reduceNeg, Int.reduceAdd, Int.reduceSub, Int.reduceToNat, e1]) | (refine AWP_cond_false ?_ ?_; · simp only [SS, argList, aPut, aFill, ↓reduceIte, Nat.reduceEqDiff, Nat.reduceAdd, Nat.reduceLeDiff, reduceCtorEq, Int.reduceEq, Int.reduceLT, Int.reduceLE, Int.reduceNeg, Int.reduceAdd, Int.reduceSub, Int.reduceToNat, e1])); try simp only [SS, argList, aPut, aFill, ↓reduceIte, Nat.reduceEqDiff, Nat.reduceAdd, Nat.reduceLeDiff, reduceCtorEq, Int.reduceEq, Int.reduceLT, Int.reduceLE, Int.reduceNeg, Int.reduceAdd, Int.reduceSub, Int.reduceToNat, e1])
    refine AWP_while [2, 3, 5, 8, 19, 82, 83, 84] (fun y : (AV × AV) × Nat => pk.length - y.2) (fun y => [.fn (.func (fnL b)) [.ptr fid 0 0 0] [], .fn (.func 89) [.ptr fid 0 0 0] [], .ptr σ.next 0 0 0, .ptr (σ.next + 1) 0 0 0, y.1.2, .list (pk.map pickC), .int .i64 pk.length, .int .i64 y.2])
      (fun y s => y.2 ≤ pk.length ∧ MS σ s (σ.next + 2) fid v y.1.1 df ((E2) ++ (liftP df textOf b (E2).length (pk.take y.2)).2.map supC) ∧ Bes s (σ.next + 2) y.1.1 y.1.2 116 10 ((liftP df textOf b (E2).length (pk.take y.2)).1.map pickC) ∧ s.get σ.next = some (.cells 54 0 9 [[.int .i64 k, .str nm, .int .i64 m, .int .i64 ar, strs ps, .list ((liftL df textOf (b && k != 5) (es).length gs).1.map Cr.cells), .list ((liftA df textOf b (E0).length al).1.map altC), .list ((liftB df textOf false (E1).length bs).1.map bindC), .list (pk.map pickC)]]) ∧ s.get (σ.next + 1) = some (.cells 54 0 9 [[.int .i64 0, .str ⟨#[]⟩, .int .i64 0, .int .i64 0, .nils, .nils, .nils, .nils, .nils]]))
      ((w2, .nils), 0) ⟨by simp, by simpa [liftP] using M3, by simpa [liftP] using Bes.start _ _ _ _ _, e1, e2⟩ ?_ ?_
    · try simp only [SS, argList, aPut, aFill, ↓reduceIte, Nat.reduceEqDiff, Nat.reduceAdd, Nat.reduceLeDiff, reduceCtorEq, Int.reduceEq, Int.reduceLT, Int.reduceLE, Int.reduceNeg, Int.reduceAdd, Int.reduceSub, Int.reduceToNat]
      repeat ((with_reducible first | refine AWP_seq ?_ | refine AWP_block ?_ | refine AWP_scope ?_ | refine AWP_reg ?_ | refine AWP_draw ?_ | refine AWP_skip ?_ | refine AWP_ret ?_ | refine AWP_exit ?_ | (refine AWP_cond_true ?_ ?_; · simp only [SS, argList, aPut, aFill, ↓reduceIte, Nat.reduceEqDiff, Nat.reduceAdd, Nat.reduceLeDiff, reduceCtorEq, Int.reduceEq, Int.reduceLT, Int.reduceLE, Int.reduceNeg, Int.reduceAdd, Int.reduceSub, Int.reduceToNat]) | (refine AWP_cond_false ?_ ?_; · simp only [SS, argList, aPut, aFill, ↓reduceIte, Nat.reduceEqDiff, Nat.reduceAdd, Nat.reduceLeDiff, reduceCtorEq, Int.reduceEq, Int.reduceLT, Int.reduceLE, Int.reduceNeg, Int.reduceAdd, Int.reduceSub, Int.reduceToNat])); try simp only [SS, argList, aPut, aFill, ↓reduceIte, Nat.reduceEqDiff, Nat.reduceAdd, Nat.reduceLeDiff, reduceCtorEq, Int.reduceEq, Int.reduceLT, Int.reduceLE, Int.reduceNeg, Int.reduceAdd, Int.reduceSub, Int.reduceToNat])
      rfl
    rintro ⟨⟨w, u⟩, i⟩ s ⟨hil0, M, B, g1, g2⟩
    simp only at hil0 M B g1 g2
    have hw := wrap_succ (i := i) (by omega)
    by_cases hil : i < pk.length
    · have hil' : (i : Int) < (pk.length : Int) := by omega
      obtain ⟨x, hx⟩ : ∃ x, pk[i]? = some x := ⟨_, List.getElem?_eq_getElem hil⟩
      have hxm := List.mem_of_getElem? hx
      have hbx := Cr.bulkP_take hx
      have hll := liftP_len df textOf (pk.take i) b (E2).length
      have hl1 := liftP_l df textOf b (E2).length (pk.take i)
      have hlt : (pk.take i).length = i := by simp; omega
      have q1 := s.lt g1
      have q2 := s.lt g2
      have hnx := M.next
      have hgl := M.la.sl
      obtain ⟨hh, x⟩ := x
      simp only at hbx
      have hg : (pk.map pickC)[i]? = some (pickC (hh, x)) := by simp [hx]
      try simp only [SS, argList, aPut, aFill, ↓reduceIte, Nat.reduceEqDiff, Nat.reduceAdd, Nat.reduceLeDiff, reduceCtorEq, Int.reduceEq, Int.reduceLT, Int.reduceLE, Int.reduceNeg, Int.reduceAdd, Int.reduceSub, Int.reduceToNat, hil', hg, pickC, Cr.len, Cr.take9, wp_callv, callvW_fn]
      repeat ((with_reducible first | refine AWP_seq ?_ | refine AWP_block ?_ | refine AWP_scope ?_ | refine AWP_reg ?_ | refine AWP_draw ?_ | refine AWP_skip ?_ | refine AWP_ret ?_ | refine AWP_exit ?_ | (refine AWP_cond_true ?_ ?_; · simp only [SS, argList, aPut, aFill, ↓reduceIte, Nat.reduceEqDiff, Nat.reduceAdd, Nat.reduceLeDiff, reduceCtorEq, Int.reduceEq, Int.reduceLT, Int.reduceLE, Int.reduceNeg, Int.reduceAdd, Int.reduceSub, Int.reduceToNat, hil', hg, pickC, Cr.len, Cr.take9, wp_callv, callvW_fn]) | (refine AWP_cond_false ?_ ?_; · simp only [SS, argList, aPut, aFill, ↓reduceIte, Nat.reduceEqDiff, Nat.reduceAdd, Nat.reduceLeDiff, reduceCtorEq, Int.reduceEq, Int.reduceLT, Int.reduceLE, Int.reduceNeg, Int.reduceAdd, Int.reduceSub, Int.reduceToNat, hil', hg, pickC, Cr.len, Cr.take9, wp_callv, callvW_fn])); try simp only [SS, argList, aPut, aFill, ↓reduceIte, Nat.reduceEqDiff, Nat.reduceAdd, Nat.reduceLeDiff, reduceCtorEq, Int.reduceEq, Int.reduceLT, Int.reduceLE, Int.reduceNeg, Int.reduceAdd, Int.reduceSub, Int.reduceToNat, hil', hg, pickC, Cr.len, Cr.take9, wp_callv, callvW_fn])
      refine (ih4 (hh, x) hxm b _ fid w df _ (M.push _).la hdf (by simp only [List.length_append, List.length_map]; omega)).mono ?_
      rintro _ s2 ⟨_, rfl, hP⟩
      obtain ⟨w2, M2, hk2, hf2, hn2⟩ := (M.push _).call hP
      have B2 := (B.push _).call (by have := M.le; have := M.fid; omega) hk2 hf2
      have g1' := hk2 σ.next (by rw [Store.push_next]; omega) (hi _ (Nat.le_refl _)) (M.loc (Nat.le_refl _) (by omega))
      have g2' := hk2 (σ.next + 1) (by rw [Store.push_next]; omega) (hi _ (by omega)) (M.loc (by omega) (by omega))
      have hsv : s.next ∉ slIds w := fun hm => by have := M.la.sl.lt hm; omega
      have hsu : s.next ∉ slIds u := fun hm => by have := B.sl.lt hm; omega
      have hsv2 : s.next ∉ slIds w2 := fun hm => (hf2 _ hm).elim hsv (fun hh => by rw [Store.push_next] at hh; omega)
      have g3' := hk2 s.next (by rw [Store.push_next]; omega) (hi _ (by have := M.le; omega)) hsv
      rw [Store.push_get, if_neg (by omega), g1] at g1'
      rw [Store.push_get, if_neg (by omega), g2] at g2'
      rw [Store.push_get, if_pos rfl] at g3'
      have hlen : ((E2) ++ List.map supC (liftP df textOf b (E2).length (pk.take i)).2).length = (E2).length + (liftP df textOf b (E2).length (pk.take i)).2.length := by simp
      rw [hlen] at M2 ⊢
      have hone := liftP_app df textOf b (E2).length (pk.take i) [(hh, x)]
      rw [liftP_one, ← take_succ_at hx] at hone
      generalize liftS df textOf b ((E2).length + (liftP df textOf b (E2).length (pk.take i)).2.length) x = z at M2 hone ⊢
      have hu3 : ∀ o, (s2.upd s.next o).get s.next = some o := fun o => Store.get_upd_self _ _ (s2.lt g3')
      try simp only [SS, argList, aPut, aFill, ↓reduceIte, Nat.reduceEqDiff, Nat.reduceAdd, Nat.reduceLeDiff, reduceCtorEq, Int.reduceEq, Int.reduceLT, Int.reduceLE, Int.reduceNeg, Int.reduceAdd, Int.reduceSub, Int.reduceToNat, Cr.len, g3', hu3, Cr.drop9, Cr.take9]
      repeat ((with_reducible first | refine AWP_seq ?_ | refine AWP_block ?_ | refine AWP_scope ?_ | refine AWP_reg ?_ | refine AWP_draw ?_ | refine AWP_skip ?_ | refine AWP_ret ?_ | refine AWP_exit ?_ | (refine AWP_cond_true ?_ ?_; · simp only [SS, argList, aPut, aFill, ↓reduceIte, Nat.reduceEqDiff, Nat.reduceAdd, Nat.reduceLeDiff, reduceCtorEq, Int.reduceEq, Int.reduceLT, Int.reduceLE, Int.reduceNeg, Int.reduceAdd, Int.reduceSub, Int.reduceToNat, Cr.len, g3', hu3, Cr.drop9, Cr.take9]) | (refine AWP_cond_false ?_ ?_; · simp only [SS, argList, aPut, aFill, ↓reduceIte, Nat.reduceEqDiff, Nat.reduceAdd, Nat.reduceLeDiff, reduceCtorEq, Int.reduceEq, Int.reduceLT, Int.reduceLE, Int.reduceNeg, Int.reduceAdd, Int.reduceSub, Int.reduceToNat, Cr.len, g3', hu3, Cr.drop9, Cr.take9])); try simp only [SS, argList, aPut, aFill, ↓reduceIte, Nat.reduceEqDiff, Nat.reduceAdd, Nat.reduceLeDiff, reduceCtorEq, Int.reduceEq, Int.reduceLT, Int.reduceLE, Int.reduceNeg, Int.reduceAdd, Int.reduceSub, Int.reduceToNat, Cr.len, g3', hu3, Cr.drop9, Cr.take9])
      refine ok_bes (M2.upd _ (by have := M.le; omega) hsv2) (B2.upd _ hsu) (us2 := [AV.int .i64 hh :: z.1.cells]) (by simp [Cr.len]) (by simp; omega) (by simp [maxLen]; omega) ?_
      intro u' s3 M3 B3 hk3 hn3
      have a1 := hk3 σ.next (s2.lt g1') (fun hm => by have := B2.new _ hm; omega)
      have a2 := hk3 (σ.next + 1) (s2.lt g2') (fun hm => by have := B2.new _ hm; omega)
      rw [Store.get_upd_ne _ _ (by have := M.le; omega)] at a1
      rw [Store.get_upd_ne _ _ (by have := M.le; omega)] at a2
      try simp only [SS, argList, aPut, aFill, ↓reduceIte, Nat.reduceEqDiff, Nat.reduceAdd, Nat.reduceLeDiff, reduceCtorEq, Int.reduceEq, Int.reduceLT, Int.reduceLE, Int.reduceNeg, Int.reduceAdd, Int.reduceSub, Int.reduceToNat, hw]
      repeat ((with_reducible first | refine AWP_seq ?_ | refine AWP_block ?_ | refine AWP_scope ?_ | refine AWP_reg ?_ | refine AWP_draw ?_ | refine AWP_skip ?_ | refine AWP_ret ?_ | refine AWP_exit ?_ | (refine AWP_cond_true ?_ ?_; · simp only [SS, argList, aPut, aFill, ↓reduceIte, Nat.reduceEqDiff, Nat.reduceAdd, Nat.reduceLeDiff, reduceCtorEq, Int.reduceEq, Int.reduceLT, Int.reduceLE, Int.reduceNeg, Int.reduceAdd, Int.reduceSub, Int.reduceToNat, hw]) | (refine AWP_cond_false ?_ ?_; · simp only [SS, argList, aPut, aFill, ↓reduceIte, Nat.reduceEqDiff, Nat.reduceAdd, Nat.reduceLeDiff, reduceCtorEq, Int.reduceEq, Int.reduceLT, Int.reduceLE, Int.reduceNeg, Int.reduceAdd, Int.reduceSub, Int.reduceToNat, hw])); try simp only [SS, argList, aPut, aFill, ↓reduceIte, Nat.reduceEqDiff, Nat.reduceAdd, Nat.reduceLeDiff, reduceCtorEq, Int.reduceEq, Int.reduceLT, Int.reduceLE, Int.reduceNeg, Int.reduceAdd, Int.reduceSub, Int.reduceToNat, hw])
      refine ⟨((w2, u'), i + 1), rfl, ⟨by simp only; omega, ?_, ?_, by rw [a1, g1'], by rw [a2, g2']⟩, by simp only; omega⟩
      · simp only [hone, List.map_append, ← List.append_assoc]; simpa [List.append_assoc] using M3
      · simp only [hone, List.map_append]; exact B3
    · have hil' : ¬ (i : Int) < (pk.length : Int) := by omega
      rw [List.take_of_length_le (by omega)] at M B
      try simp only [SS, argList, aPut, aFill, ↓reduceIte, Nat.reduceEqDiff, Nat.reduceAdd, Nat.reduceLeDiff, reduceCtorEq, Int.reduceEq, Int.reduceLT, Int.reduceLE, Int.reduceNeg, Int.reduceAdd, Int.reduceSub, Int.reduceToNat, hil']
      repeat ((with_reducible first | refine AWP_seq ?_ | refine AWP_block ?_ | refine AWP_scope ?_ | refine AWP_reg ?_ | refine AWP_draw ?_ | refine AWP_skip ?_ | refine AWP_ret ?_ | refine AWP_exit ?_ | (refine AWP_cond_true ?_ ?_; · simp only [SS, argList, aPut, aFill, ↓reduceIte, Nat.reduceEqDiff, Nat.reduceAdd, Nat.reduceLeDiff, reduceCtorEq, Int.reduceEq, Int.reduceLT, Int.reduceLE, Int.reduceNeg, Int.reduceAdd, Int.reduceSub, Int.reduceToNat, hil']) | (refine AWP_cond_false ?_ ?_; · simp only [SS, argList, aPut, aFill, ↓reduceIte, Nat.reduceEqDiff, Nat.reduceAdd, Nat.reduceLeDiff, reduceCtorEq, Int.reduceEq, Int.reduceLT, Int.reduceLE, Int.reduceNeg, Int.reduceAdd, Int.reduceSub, Int.reduceToNat, hil'])); try simp only [SS, argList, aPut, aFill, ↓reduceIte, Nat.reduceEqDiff, Nat.reduceAdd, Nat.reduceLeDiff, reduceCtorEq, Int.reduceEq, Int.reduceLT, Int.reduceLE, Int.reduceNeg, Int.reduceAdd, Int.reduceSub, Int.reduceToNat, hil'])
      exact ⟨(w, u), rfl, M, B, g1, g2⟩
  rintro ⟨w3, u3⟩ s3 ⟨M, B, g1, g2⟩
  simp only at M B
  clear M3 e1 e2
  refine AWP_bes 19 rfl M B ?_
  intro t3 M' hn hg
  have hne := M.next
  have g1' := hg σ.next (by omega)
  have g2' := hg (σ.next + 1) (by omega)
  rw [g1] at g1'
  rw [g2] at g2'
  have hlt := t3.lt g1'
  simp only [List.zip_cons_cons, List.zip_nil_right]
  try simp only [SS, argList, aPut, aFill, ↓reduceIte, Nat.reduceEqDiff, Nat.reduceAdd, Nat.reduceLeDiff, reduceCtorEq, Int.reduceEq, Int.reduceLT, Int.reduceLE, Int.reduceNeg, Int.reduceAdd, Int.reduceSub, Int.reduceToNat, g1']
  iterate 2 ((with_reducible first | refine AWP_seq ?_ | refine AWP_block ?_ | refine AWP_scope ?_ | refine AWP_reg ?_ | refine AWP_draw ?_ | refine AWP_skip ?_ | refine AWP_ret ?_ | refine AWP_exit ?_ | (refine AWP_cond_true ?_ ?_; · simp only [SS, argList, aPut, aFill, ↓reduceIte, Nat.reduceEqDiff, Nat.reduceAdd, Nat.reduceLeDiff, reduceCtorEq, Int.reduceEq, Int.reduceLT, Int.reduceLE, Int.reduceNeg, Int.reduceAdd, Int.reduceSub, Int.reduceToNat, g1']) | (refine AWP_cond_false ?_ ?_; · simp only [SS, argList, aPut, aFill, ↓reduceIte, Nat.reduceEqDiff, Nat.reduceAdd, Nat.reduceLeDiff, reduceCtorEq, Int.reduceEq, Int.reduceLT, Int.reduceLE, Int.reduceNeg, Int.reduceAdd, Int.reduceSub, Int.reduceToNat, g1'])); try simp only [SS, argList, aPut, aFill, ↓reduceIte, Nat.reduceEqDiff, Nat.reduceAdd, Nat.reduceLeDiff, reduceCtorEq, Int.reduceEq, Int.reduceLT, Int.reduceLE, Int.reduceNeg, Int.reduceAdd, Int.reduceSub, Int.reduceToNat, g1'])
  have M4 := M'.upd (.cells 54 0 9 [[.int .i64 k, .str nm, .int .i64 m, .int .i64 ar, strs ps, .list ((liftL df textOf (b && k != 5) (es).length gs).1.map Cr.cells), .list ((liftA df textOf b (E0).length al).1.map altC), .list ((liftB df textOf false (E1).length bs).1.map bindC), .list ((liftP df textOf b (E2).length pk).1.map pickC)]]) (Nat.le_refl _) (M'.loc (Nat.le_refl _) (by omega))
  have e1 := Store.get_upd_self t3 (.cells 54 0 9 [[.int .i64 k, .str nm, .int .i64 m, .int .i64 ar, strs ps, .list ((liftL df textOf (b && k != 5) (es).length gs).1.map Cr.cells), .list ((liftA df textOf b (E0).length al).1.map altC), .list ((liftB df textOf false (E1).length bs).1.map bindC), .list ((liftP df textOf b (E2).length pk).1.map pickC)]]) hlt
  have e2 : (t3.upd σ.next (.cells 54 0 9 [[.int .i64 k, .str nm, .int .i64 m, .int .i64 ar, strs ps, .list ((liftL df textOf (b && k != 5) (es).length gs).1.map Cr.cells), .list ((liftA df textOf b (E0).length al).1.map altC), .list ((liftB df textOf false (E1).length bs).1.map bindC), .list ((liftP df textOf b (E2).length pk).1.map pickC)]])).get (σ.next + 1) = _ := (Store.get_upd_ne t3 _ (by omega)).trans g2'
  have hlx3 := liftP_len df textOf pk b (E2).length
  clear M M' B g1 g2 g1' g2' hg hne hlt hn
  have hE3 : ((E2) ++ (liftP df textOf b (E2).length pk).2.map supC).length = (E2).length + (liftP df textOf b (E2).length pk).2.length := by simp
  generalize hD3 : (E2) ++ (liftP df textOf b (E2).length pk).2.map supC = E3 at M4 hE3
  generalize Store.upd t3 _ _ = T at M4 e1 e2 ⊢
  have q4 := T.lt e2
  have hu4 : ∀ o, (T.upd (σ.next + 1) o).get (σ.next + 1) = some o := fun o => Store.get_upd_self _ _ q4
  try simp only [SS, argList, aPut, aFill, ↓reduceIte, Nat.reduceEqDiff, Nat.reduceAdd, Nat.reduceLeDiff, reduceCtorEq, Int.reduceEq, Int.reduceLT, Int.reduceLE, Int.reduceNeg, Int.reduceAdd, Int.reduceSub, Int.reduceToNat, e1, e2, hu4]
  repeat ((with_reducible first | refine AWP_seq ?_ | refine AWP_block ?_ | refine AWP_scope ?_ | refine AWP_reg ?_ | refine AWP_draw ?_ | refine AWP_skip ?_ | refine AWP_ret ?_ | refine AWP_exit ?_ | (refine AWP_cond_true ?_ ?_; · simp only [SS, argList, aPut, aFill, ↓reduceIte, Nat.reduceEqDiff, Nat.reduceAdd, Nat.reduceLeDiff, reduceCtorEq, Int.reduceEq, Int.reduceLT, Int.reduceLE, Int.reduceNeg, Int.reduceAdd, Int.reduceSub, Int.reduceToNat, e1, e2, hu4]) | (refine AWP_cond_false ?_ ?_; · simp only [SS, argList, aPut, aFill, ↓reduceIte, Nat.reduceEqDiff, Nat.reduceAdd, Nat.reduceLeDiff, reduceCtorEq, Int.reduceEq, Int.reduceLT, Int.reduceLE, Int.reduceNeg, Int.reduceAdd, Int.reduceSub, Int.reduceToNat, e1, e2, hu4])); try simp only [SS, argList, aPut, aFill, ↓reduceIte, Nat.reduceEqDiff, Nat.reduceAdd, Nat.reduceLeDiff, reduceCtorEq, Int.reduceEq, Int.reduceLT, Int.reduceLE, Int.reduceNeg, Int.reduceAdd, Int.reduceSub, Int.reduceToNat, e1, e2, hu4])
  have M5 := M4.upd (.cells 54 0 9 [[.int .i64 k, .str nm, .int .i64 m, .int .i64 ar, strs ps, .list ((liftL df textOf (b && k != 5) es.length gs).1.map Cr.cells), .list ((liftA df textOf b E0.length al).1.map altC), .list ((liftB df textOf false E1.length bs).1.map bindC), .list ((liftP df textOf b E2.length pk).1.map pickC)]]) (show σ.next ≤ σ.next + 1 by omega) (M4.loc (by omega) (by omega))
  refine ⟨(), ?_, ?_⟩
  · simp only [mapS, ← hE0, ← hE1, ← hE2, Cr.cells_eq]
  · have : es ++ List.map supC (mapS df textOf b es.length (Cr.mk k nm m ar ps gs al bs pk)).2 = E3 := by
      simp only [mapS, ← hE0, ← hE1, ← hE2, List.map_append, ← List.append_assoc, hD0, hD1, hD2, hD3]
    rw [this]
    exact M5.out
end Go.Proofs.Ytjjbjibbjbbeaaa
