/- A part of the proof of the claim: the abstract layer, the contracts of the functions, the law (no condition of its own). -/
import Derived.Test.YtjjbjibbjbbeaaaK3
import Derived.Test.YtjjbjibbjbbeaaaProg
import Derived.KernelRfl
/- Local names, names joined. -/
set_option linter.unusedVariables false
set_option linter.unusedSimpArgs false
namespace Go.AL
/-- Some truth. -/
def SomeB (r : AV) : Prop := ∃ b : Bool, r = .bool b
@[congr] theorem SomeB_congr {w : Prop} (hw : Visit = w) {r r' : AV} (h : r = r') : SomeB r = SomeB r' := by rw [h]
theorem SomeB.mk (b : Bool) : SomeB (.bool b) := ⟨b, rfl⟩
theorem SomeB.out {r : AV} (h : SomeB r) : ∃ b : Bool, r = .bool b ∧ True := by obtain ⟨b, h⟩ := h; exact ⟨b, h, trivial⟩
theorem map_take' {α β : Type} (f : α → β) (l : List α) (i : Nat) : List.take i (l.map f) = (l.take i).map f := List.map_take.symm
theorem map_drop' {α β : Type} (f : α → β) (l : List α) (i : Nat) : List.drop i (l.map f) = (l.drop i).map f := List.map_drop.symm
theorem Cr.take9 (x : Cr) : List.take 9 x.cells = x.cells := List.take_of_length_le (by rw [x.len]; omega)
theorem mem_strs {l : List ByteArray} {q : List AV} (h : q ∈ l.map fun s => [AV.str s]) : q.length = 1 := by
  obtain ⟨x, _, rfl⟩ := List.mem_map.1 h; rfl
theorem all_strs (l : List ByteArray) : (∀ q, q ∈ (l.map fun s => [AV.str s]) → q.length = 1) = True := by
  simp
end Go.AL
namespace Go.Proofs.Ytjjbjibbjbbeaaa
open Go.AL
theorem contains_strs (l : List ByteArray) (hl : l.length ≤ 9223372036854775806) (k : ByteArray) (σ : Store) : ACalls Try.prog 85 [strs l, .str k] σ fun r σ' => r = .bool (@decide (k ∈ l) (Classical.propDecidable _)) ∧ σ' = σ :=
  contains_ok (l := l) (v := strs l) (.list σ (fun q hq => mem_strs hq)) hl k
theorem joined_ok (a b : List ByteArray) (ha : a.length + b.length ≤ 100000000) (σ : Store) : ACalls Try.prog 143 [strs a, strs b] σ fun r σ' => r = strs (a ++ b) ∧ σ' = σ := by
  refine ACalls_fp (p := fun r => r = strs (a ++ b)) ?_
  refine in143 (by simp) ?_
  unfold c143
  refine raw ?_
  repeat (first | (with_reducible refine unr ?_; try simp only [YY, ↓reduceIte, Nat.reduceEqDiff, Nat.reduceAdd, Nat.reduceLeDiff, reduceCtorEq, Int.reduceEq, Int.reduceLT, Int.reduceLE, Int.reduceNeg, Int.reduceAdd, Int.reduceSub, Int.reduceToNat]) | (with_reducible refine WW (by decide) ?_))
  refine ok_grow (.start σ 9 1) (by intro q hq; exact mem_strs hq) (by simp; omega) (by simp [maxLen]; omega) ?_
  intro v s1 hG _ _
  refine raw ?_
  repeat (first | (with_reducible refine unr ?_; try simp only [YY, ↓reduceIte, Nat.reduceEqDiff, Nat.reduceAdd, Nat.reduceLeDiff, reduceCtorEq, Int.reduceEq, Int.reduceLT, Int.reduceLE, Int.reduceNeg, Int.reduceAdd, Int.reduceSub, Int.reduceToNat]) | (with_reducible refine WW (by decide) ?_))
  refine ok_grow hG (by intro q hq; exact mem_strs hq) (by simp; omega) (by simp [maxLen]; omega) ?_
  intro v2 s2 hG2 _ _
  refine raw ?_
  repeat (first | (with_reducible refine unr ?_; try simp only [YY, ↓reduceIte, Nat.reduceEqDiff, Nat.reduceAdd, Nat.reduceLeDiff, reduceCtorEq, Int.reduceEq, Int.reduceLT, Int.reduceLE, Int.reduceNeg, Int.reduceAdd, Int.reduceSub, Int.reduceToNat]) | (with_reducible refine WW (by decide) ?_))
  exact FP.mk (strs (a ++ b)) (by simpa using hG2.sl) .here rfl (cln_strs _) hG2.kp hG2.fresh
theorem names_ok (l : List (ByteArray × Cr)) (hl : l.length ≤ 100000000) (σ : Store) : ACalls Try.prog 136 [.list (l.map bindC)] σ fun r σ' => r = strs (l.map (·.1)) ∧ σ' = σ := by
  refine ACalls_fp (p := fun r => r = strs (l.map (·.1))) ?_
  refine in136 (by simp) ?_
  unfold c136
  refine raw ?_
  repeat (first | (with_reducible refine unr ?_; try simp only [YY, ↓reduceIte, Nat.reduceEqDiff, Nat.reduceAdd, Nat.reduceLeDiff, reduceCtorEq, Int.reduceEq, Int.reduceLT, Int.reduceLE, Int.reduceNeg, Int.reduceAdd, Int.reduceSub, Int.reduceToNat]) | (with_reducible refine WW (by decide) ?_))
  refine AWP_while [0, 3, 6, 7, 8] (fun y : AV × Nat => l.length - y.2) (fun y => [.list (l.map bindC), y.1, .list (l.map bindC), .int .i64 l.length, .int .i64 y.2])
    (fun y t => y.2 ≤ l.length ∧ Grow σ t y.1 9 1 ((l.take y.2).map fun x => [.str x.1])) (.nils, 0) ⟨by simp, .start _ _ _⟩ ?_ ?_
  · refine raw ?_
    repeat (first | (with_reducible refine unr ?_; try simp only [YY, ↓reduceIte, Nat.reduceEqDiff, Nat.reduceAdd, Nat.reduceLeDiff, reduceCtorEq, Int.reduceEq, Int.reduceLT, Int.reduceLE, Int.reduceNeg, Int.reduceAdd, Int.reduceSub, Int.reduceToNat]) | (with_reducible refine WW (by decide) ?_))
    rfl
  rintro ⟨v, i⟩ t ⟨hi, hG⟩
  simp only at hi hG
  have hw := wrap_succ (i := i) (by omega)
  refine raw ?_
  repeat' (first | (with_reducible refine unr ?_; try simp only [YY, ↓reduceIte, Nat.reduceEqDiff, Nat.reduceAdd, Nat.reduceLeDiff, reduceCtorEq, Int.reduceEq, Int.reduceLT, Int.reduceLE, Int.reduceNeg, Int.reduceAdd, Int.reduceSub, Int.reduceToNat, bindC, Cr.len, Cr.take9, str_nil, *]) | (with_reducible first | refine WW (by decide) ?_ | refine ok_idx (by first | assumption | omega) (fun b hb => raw ?_) | refine ok_iad (by first | assumption | omega) (fun x hx hxm => raw ?_) | refine And.intro (by omega) (raw ?_) | (refine guardW_b (fun h => raw ?_) (fun h => raw ?_) <;> try simp only [Ty] at h) | (refine ePick_b (fun h => raw ?_) (fun h => raw ?_) <;> try simp only [Ty] at h) | (refine condW_b (fun h => raw ?_) (fun h => raw ?_) <;> try simp only [Ty] at h)))
  · refine ok_grow (hG.push _) (es2 := [[.str x.1]]) (by simp) (by simp; omega) (by simp [maxLen]; omega) ?_
    intro v' t3 hG3 _ _
    refine raw ?_
    repeat (first | (with_reducible refine unr ?_; try simp only [YY, ↓reduceIte, Nat.reduceEqDiff, Nat.reduceAdd, Nat.reduceLeDiff, reduceCtorEq, Int.reduceEq, Int.reduceLT, Int.reduceLE, Int.reduceNeg, Int.reduceAdd, Int.reduceSub, Int.reduceToNat, hw]) | (with_reducible refine WW (by decide) ?_))
    refine ⟨(v', i + 1), rfl, ⟨by simp only; omega, ?_⟩, by simp only; omega⟩
    have : (l.take (i + 1)).map (fun x => [AV.str x.1]) = (l.take i).map (fun x => [AV.str x.1]) ++ [[AV.str x.1]] := by rw [List.take_add_one, hx]; simp
    simp only [this]; exact hG3
  · rw [List.take_of_length_le (by omega)] at hG
    exact FP.mk (strs (l.map (·.1))) (by simpa [Function.comp_def] using hG.sl) .here rfl (cln_strs _) hG.kp hG.fresh
end Go.Proofs.Ytjjbjibbjbbeaaa
/- The last # of a text; names of operators. -/
set_option linter.unusedVariables false
set_option linter.unusedSimpArgs false
namespace Go.AL
/-- Some text. -/
def SomeS (r : AV) : Prop := ∃ b : ByteArray, r = .str b
@[congr] theorem SomeS_congr {w : Prop} (hw : Visit = w) {r r' : AV} (h : r = r') : SomeS r = SomeS r' := by rw [h]
theorem SomeS.mk (b : ByteArray) : SomeS (.str b) := ⟨b, rfl⟩
theorem SomeS.out {r : AV} (h : SomeS r) : ∃ b : ByteArray, r = .str b ∧ True := by obtain ⟨b, h⟩ := h; exact ⟨b, h, trivial⟩
/-- Some number, no less than -1 and below a bound. -/
def Below (n : Nat) (r : AV) : Prop := ∃ b : Int, r = .int .i64 b ∧ -1 ≤ b ∧ b < n
@[congr] theorem Below_congr {w : Prop} (hw : Visit = w) {n : Nat} {r r' : AV} (h : r = r') : Below n r = Below n r' := by rw [h]
/-- Some number. -/
def SomeI (r : AV) : Prop := ∃ b : Int, r = .int .i64 b
@[congr] theorem SomeI_congr {w : Prop} (hw : Visit = w) {r r' : AV} (h : r = r') : SomeI r = SomeI r' := by rw [h]
theorem SomeI.mk (b : Int) : SomeI (.int .i64 b) := ⟨b, rfl⟩
theorem SomeI.out {r : AV} (h : SomeI r) : ∃ b : Int, r = .int .i64 b ∧ True := by obtain ⟨b, h⟩ := h; exact ⟨b, h, trivial⟩
end Go.AL
namespace Go.Proofs.Ytjjbjibbjbbeaaa
open Go.AL
end Go.Proofs.Ytjjbjibbjbbeaaa
/- Which expressions may be: each function among them has one part. -/
set_option linter.unusedVariables false
set_option linter.unusedSimpArgs false
namespace Go.AL
theorem row5_eq (a b c d e a' b' c' d' e' : Int) : aBin (.row [.int, .int, .int, .int, .int]) .eql (.agg [.int .i64 a, .int .i64 b, .int .i64 c, .int .i64 d, .int .i64 e]) (.agg [.int .i64 a', .int .i64 b', .int .i64 c', .int .i64 d', .int .i64 e']) =
    some (.bool (decide (a = a' ∧ b = b' ∧ c = c' ∧ d = d' ∧ e = e'))) := by simp [aBin, eqFs, eq1]
theorem row5_ne (a b c d e a' b' c' d' e' : Int) : aBin (.row [.int, .int, .int, .int, .int]) .neq (.agg [.int .i64 a, .int .i64 b, .int .i64 c, .int .i64 d, .int .i64 e]) (.agg [.int .i64 a', .int .i64 b', .int .i64 c', .int .i64 d', .int .i64 e']) =
    some (.bool (!decide (a = a' ∧ b = b' ∧ c = c' ∧ d = d' ∧ e = e'))) := by simp [aBin, eqFs, eq1]
/-- Some truth; if so, each function among the parts has one part. -/
def RB (p : Prop) (r : AV) : Prop := ∃ b : Bool, r = .bool b ∧ (b = true → p)
@[congr] theorem RB_congr {w : Prop} (hw : Visit = w) {p : Prop} {r r' : AV} (h : r = r') : RB p r = RB p r' := by rw [h]
theorem RB.f {p : Prop} : RB p (.bool false) := ⟨false, rfl, by simp⟩
theorem RB.t {p : Prop} {b : Bool} (h : p) : RB p (.bool b) := ⟨b, rfl, fun _ => h⟩
/-- The checker and its names. -/
structure Chk (σ : Store) (cid : Nat) (v : AV) (l : List ByteArray) : Prop where
  hd : σ.get cid = some (.cells 196 0 1 [[v]])
  sl : SliceAt σ v 9 1 (l.map fun s => [.str s])
  len : l.length ≤ 100000000
theorem Chk.keep {σ s : Store} {cid : Nat} {v : AV} {l : List ByteArray} (h : Chk σ cid v l) (k : Kp σ s) : Chk s cid v l :=
  ⟨k.get h.hd, h.sl.keep fun i hi => k.keep i (h.sl.lt hi), h.len⟩
theorem Cr.Sh.nil {k : Int} {nm : ByteArray} {n ar : Int} {ps : List ByteArray} {gs : List Cr} {al : List (AltH × Cr)} {bs : List (ByteArray × Cr)} {pk : List (Int × Cr)} (h6 : k ≠ 6)
    (h : (ps.length : Int) = 0 ∧ (gs.length : Int) = 0 ∧ (al.length : Int) = 0 ∧ (bs.length : Int) = 0 ∧ (pk.length : Int) = 0) : (Cr.mk k nm n ar ps gs al bs pk).Sh := by
  obtain ⟨_, h1, h2, h3, h4⟩ := h
  have h1 : gs = [] := List.eq_nil_of_length_eq_zero (by omega)
  have h2 : al = [] := List.eq_nil_of_length_eq_zero (by omega)
  have h3 : bs = [] := List.eq_nil_of_length_eq_zero (by omega)
  have h4 : pk = [] := List.eq_nil_of_length_eq_zero (by omega)
  subst h1 h2 h3 h4
  exact .mk (fun h => absurd h h6) (by simp) (by simp) (by simp) (by simp)
theorem Cr.bulkB_le2 {x : ByteArray × Cr} : ∀ {l : List (ByteArray × Cr)}, x ∈ l → l.length + x.2.bulk ≤ Cr.bulkB l
  | (g, y) :: r, h => by
    rw [Cr.bulkB, List.length_cons]
    rcases List.mem_cons.1 h with rfl | h
    · have := Cr.lenB r; simp only; omega
    · have := Cr.bulkB_le2 h; omega
theorem all_succ {α : Type} {p : α → Prop} {l : List α} {i : Nat} {x : α} (h : ∀ y, y ∈ l.take i → p y) (hx : l[i]? = some x) (hp : p x) : ∀ y, y ∈ l.take (i + 1) → p y := by
  intro y hy
  rw [List.take_add_one, hx] at hy
  rcases List.mem_append.1 hy with h1 | h1
  · exact h y h1
  · simp at h1; subst h1; exact hp
end Go.AL
namespace Go.Proofs.Ytjjbjibbjbbeaaa
open Go.AL
end Go.Proofs.Ytjjbjibbjbbeaaa
/- Right: true only where each function has one part. -/
set_option linter.unusedVariables false
set_option linter.unusedSimpArgs false
namespace Go.AL
end Go.AL
namespace Go.Proofs.Ytjjbjibbjbbeaaa
open Go.AL
end Go.Proofs.Ytjjbjibbjbbeaaa
/- What is free in an expression. -/
set_option linter.unusedVariables false
set_option linter.unusedSimpArgs false
namespace Go.AL
theorem Cr.bulkB_app : ∀ l m : List (ByteArray × Cr), Cr.bulkB (l ++ m) = Cr.bulkB l + Cr.bulkB m
  | [], m => by simp [Cr.bulkB]
  | (h, x) :: r, m => by rw [List.cons_append, Cr.bulkB, Cr.bulkB, Cr.bulkB_app r m]; omega
theorem Cr.lenB2 : ∀ l : List (ByteArray × Cr), 2 * l.length ≤ Cr.bulkB l
  | [] => by simp
  | (h, x) :: r => by rw [Cr.bulkB, List.length_cons]; have := Cr.lenB2 r; have := x.bulk_pos; omega
theorem split_at {α : Type} {l : List α} {i : Nat} {x : α} (h : l[i]? = some x) : l = l.take i ++ x :: l.drop (i + 1) := by
  obtain ⟨hi, rfl⟩ := List.getElem?_eq_some_iff.1 h
  conv => lhs; rw [← List.take_append_drop i l]
  rw [List.drop_eq_getElem_cons hi]
theorem take_succ_at {α : Type} {l : List α} {i : Nat} {x : α} (h : l[i]? = some x) : l.take (i + 1) = l.take i ++ [x] := by rw [List.take_add_one, h]; rfl
theorem Cr.bulkB_take {l : List (ByteArray × Cr)} {i : Nat} {x : ByteArray × Cr} (h : l[i]? = some x) : Cr.bulkB (l.take i) + 1 + x.2.bulk ≤ Cr.bulkB l := by
  conv => rhs; rw [split_at h, Cr.bulkB_app]
  obtain ⟨h, y⟩ := x
  rw [Cr.bulkB]; simp only; omega

/-! ### The finder -/
structure FindAt (σ : Store) (fid : Nat) (vb vo : AV) (bound out : List ByteArray) : Prop where
  hd : σ.get fid = some (.cells 192 0 2 [[vb, vo]])
  sb : SliceAt σ vb 9 1 (bound.map fun s => [.str s])
  so : SliceAt σ vo 9 1 (out.map fun s => [.str s])
  nb : fid ∉ slIds vb
  no : fid ∉ slIds vo
  dj : ∀ j, j ∈ slIds vb → j ∉ slIds vo
/-- What is none of the finder's is as it was. -/
structure FF (σ s : Store) (fid : Nat) (vb vo vb' vo' : AV) : Prop where
  next : σ.next ≤ s.next
  keep : ∀ j, j < σ.next → j ≠ fid → j ∉ slIds vb → j ∉ slIds vo → s.get j = σ.get j
  fb : ∀ j, j ∈ slIds vb' → j ∈ slIds vb ∨ σ.next ≤ j
  fo : ∀ j, j ∈ slIds vo' → j ∈ slIds vo ∨ σ.next ≤ j
theorem FF.refl (σ : Store) (fid : Nat) (vb vo : AV) : FF σ σ fid vb vo vb vo := ⟨Nat.le_refl _, fun _ _ _ _ _ => rfl, fun _ h => .inl h, fun _ h => .inl h⟩
theorem FF.trans {σ s u : Store} {fid : Nat} {vb vo vb' vo' vb2 vo2 : AV} (h : FF σ s fid vb vo vb' vo') (k : FF s u fid vb' vo' vb2 vo2) : FF σ u fid vb vo vb2 vo2 where
  next := Nat.le_trans h.next k.next
  keep j hj h1 h2 h3 := by
    rw [k.keep j (Nat.lt_of_lt_of_le hj h.next) h1 (fun hm => (h.fb j hm).elim h2 (fun h => absurd hj (by omega))) (fun hm => (h.fo j hm).elim h3 (fun h => absurd hj (by omega))), h.keep j hj h1 h2 h3]
  fb j hj := (k.fb j hj).elim (h.fb j) fun hh => .inr (Nat.le_trans h.next hh)
  fo j hj := (k.fo j hj).elim (h.fo j) fun hh => .inr (Nat.le_trans h.next hh)
theorem FF.kp {σ s : Store} (k : Kp σ s) (fid : Nat) (vb vo : AV) : FF σ s fid vb vo vb vo := ⟨k.next, fun j hj _ _ _ => k.keep j hj, fun _ h => .inl h, fun _ h => .inl h⟩
theorem FF.push {σ s : Store} {fid : Nat} {vb vo vb' vo' : AV} (h : FF σ s fid vb vo vb' vo') (o : AObj) : FF σ (s.push o) fid vb vo vb' vo' := h.trans (FF.kp (.pushed _ _) _ _ _)
theorem FindAt.keep {σ s : Store} {fid : Nat} {vb vo : AV} {b o : List ByteArray} (h : FindAt σ fid vb vo b o) (k : Kp σ s) : FindAt s fid vb vo b o :=
  ⟨k.get h.hd, h.sb.keep fun i hi => k.keep i (h.sb.lt hi), h.so.keep fun i hi => k.keep i (h.so.lt hi), h.nb, h.no, h.dj⟩
theorem FF.get {σ s : Store} {fid : Nat} {vb vo vb' vo' : AV} (h : FF σ s fid vb vo vb' vo') {j : Nat} {o : AObj} (hj : σ.get j = some o) (h1 : j ≠ fid) (h2 : j ∉ slIds vb) (h3 : j ∉ slIds vo) : s.get j = some o := by
  rw [h.keep j (σ.lt hj) h1 h2 h3]; exact hj
/-- The finder behind a call. -/
def LookPost (σ : Store) (fid : Nat) (vb vo : AV) (b o : List ByteArray) (s : Store) : Prop := ∃ vb' vo', FindAt s fid vb' vo' b o ∧ FF σ s fid vb vo vb' vo'
@[congr] theorem LookPost_congr {w : Prop} (hw : Visit = w) {σ : Store} {fid : Nat} {vb vo : AV} {b o : List ByteArray} {s s' : Store} (h : s = s') : LookPost σ fid vb vo b o s = LookPost σ fid vb vo b o s' := by rw [h]
end Go.AL
namespace Go.Proofs.Ytjjbjibbjbbeaaa
open Go.AL
end Go.Proofs.Ytjjbjibbjbbeaaa
/- What is free in an expression: look, Free. -/
set_option linter.unusedVariables false
set_option linter.unusedSimpArgs false
namespace Go.Proofs.Ytjjbjibbjbbeaaa
open Go.AL
end Go.Proofs.Ytjjbjibbjbbeaaa
/- A number's text: one text for each number. -/
set_option linter.unusedVariables false
set_option linter.unusedSimpArgs false
namespace Go.AL
theorem wrap_u64' (x : Int) : IntKind.u64.wrap x = x % 18446744073709551616 := by simp [IntKind.wrap, IntKind.signed, IntKind.bits]
def digit (u : Int) : Int := IntKind.u8.wrap (IntKind.u64.wrap (48 + u.tmod 10))
end Go.AL
namespace Go.Proofs.Ytjjbjibbjbbeaaa
open Go.AL
end Go.Proofs.Ytjjbjibbjbbeaaa
/- The lifter: an expression's parts. -/
set_option linter.unusedVariables false
set_option linter.unusedSimpArgs false
namespace Go.AL
def supC (p : Sup) : List AV := .str p.nm :: strs p.ps :: p.bd.cells
theorem Cr.drop9 (x : Cr) : List.drop 9 x.cells = [] := List.drop_of_length_le (by rw [x.len]; omega)
structure LiftAt (σ : Store) (fid : Nat) (v : AV) (df : ByteArray) (es : List (List AV)) : Prop where
  hd : σ.get fid = some (.cells 120 0 2 [[.str df, v]])
  sl : SliceAt σ v 71 11 es
  nv : fid ∉ slIds v
/-- The lifter behind a call. -/
def LPost (σ : Store) (fid : Nat) (v : AV) (df : ByteArray) (es : List (List AV)) (s : Store) : Prop :=
  ∃ v', LiftAt s fid v' df es ∧ σ.next ≤ s.next ∧ (∀ j, j < σ.next → j ≠ fid → j ∉ slIds v → s.get j = σ.get j) ∧ (∀ j, j ∈ slIds v' → j ∈ slIds v ∨ σ.next ≤ j)
@[congr] theorem LPost_congr {w : Prop} (hw : Visit = w) {σ : Store} {fid : Nat} {v : AV} {df : ByteArray} {es : List (List AV)} {s s' : Store} (h : s = s') : LPost σ fid v df es s = LPost σ fid v df es s' := by rw [h]
/-- The lifter amid a function's own variables (those from N on are newer). -/
structure MS (σ s : Store) (N fid : Nat) (v v' : AV) (df : ByteArray) (es : List (List AV)) : Prop where
  la : LiftAt s fid v' df es
  le : σ.next ≤ N
  next : N ≤ s.next
  keep : ∀ j, j < σ.next → j ≠ fid → j ∉ slIds v → s.get j = σ.get j
  fresh : ∀ j, j ∈ slIds v' → (j ∈ slIds v ∧ j < σ.next) ∨ N ≤ j
  fid : fid < σ.next
theorem MS.start {σ s : Store} {N fid : Nat} {v : AV} {df : ByteArray} {es : List (List AV)} (h : LiftAt σ fid v df es) (k : Kp σ s) (hN : N = s.next) : MS σ s N fid v v df es :=
  ⟨⟨k.get h.hd, h.sl.keep fun i hi => k.keep i (h.sl.lt hi), h.nv⟩, by have := k.next; omega, by omega, fun j hj _ _ => k.keep j hj, fun j hj => .inl ⟨hj, h.sl.lt hj⟩, σ.lt h.hd⟩
section
variable {σ s s2 : Store} {N fid : Nat} {v v' : AV} {df : ByteArray} {es es2 : List (List AV)}
theorem MS.out (h : MS σ s N fid v v' df es) : LPost σ fid v df es s := ⟨v', h.la, by have := h.le; have := h.next; omega, h.keep, fun j hj => (h.fresh j hj).elim (fun a => .inl a.1) (fun a => .inr (by have := h.le; omega))⟩
theorem MS.push (h : MS σ s N fid v v' df es) (o : AObj) : MS σ (s.push o) N fid v v' df es :=
  ⟨⟨(Kp.pushed s o).get h.la.hd, h.la.sl.keep fun i hi => (Kp.pushed s o).keep i (h.la.sl.lt hi), h.la.nv⟩, h.le, by rw [Store.push_next]; have := h.next; omega, fun j hj h1 h2 => by rw [(Kp.pushed s o).keep j (by have := h.le; have := h.next; omega), h.keep j hj h1 h2], h.fresh, h.fid⟩
theorem MS.chg (h : MS σ s N fid v v' df es) {s2 : Store} {id : Nat} (h1 : σ.next ≤ id) (h2 : id ∉ slIds v') (hn : s2.next = s.next) (hg : ∀ j, j ≠ id → s2.get j = s.get j) : MS σ s2 N fid v v' df es :=
  ⟨⟨by rw [hg _ (by have := h.fid; omega)]; exact h.la.hd, h.la.sl.keep fun i hi => hg i (fun e => h2 (e ▸ hi)), h.la.nv⟩, h.le, by rw [hn]; exact h.next, fun j hj a b => by rw [hg j (by omega), h.keep j hj a b], h.fresh, h.fid⟩
theorem MS.upd (h : MS σ s N fid v v' df es) {id : Nat} (o : AObj) (h1 : σ.next ≤ id) (h2 : id ∉ slIds v') : MS σ (s.upd id o) N fid v v' df es :=
  h.chg h1 h2 rfl fun j hj => Store.get_upd_ne _ _ hj
theorem MS.call (h : MS σ s N fid v v' df es) (k : LPost s fid v' df es2 s2) : ∃ v2, MS σ s2 N fid v v2 df es2 ∧ (∀ j, j < s.next → j ≠ fid → j ∉ slIds v' → s2.get j = s.get j) ∧ (∀ j, j ∈ slIds v2 → j ∈ slIds v' ∨ s.next ≤ j) ∧ s.next ≤ s2.next := by
  obtain ⟨v2, hl, hn, hk, hf⟩ := k
  refine ⟨v2, ⟨hl, h.le, by have := h.next; omega, fun j hj a b => ?_, fun j hj => ?_, h.fid⟩, hk, hf, hn⟩
  · rw [hk j (by have := h.le; have := h.next; omega) a (fun hm => (h.fresh j hm).elim (fun q => b q.1) (fun q => by have := h.le; omega)), h.keep j hj a b]
  · rcases hf j hj with q | q
    · exact h.fresh j q
    · exact .inr (by have := h.next; omega)
/-- An own variable is none of the lifter's. -/
theorem MS.loc (h : MS σ s N fid v v' df es) {j : Nat} (h1 : σ.next ≤ j) (h2 : j < N) : j ∉ slIds v' := fun hm => (h.fresh j hm).elim (fun q => by omega) (fun q => by omega)
/-- A slice that is built beside. -/
structure Bes (s : Store) (N : Nat) (v' u : AV) (ty sz : Nat) (us : List (List AV)) : Prop where
  sl : SliceAt s u ty sz us
  new : ∀ j, j ∈ slIds u → N ≤ j
  dj : ∀ j, j ∈ slIds u → j ∉ slIds v'
theorem Bes.start (s : Store) (N : Nat) (v' : AV) (ty sz : Nat) : Bes s N v' .nils ty sz [] := ⟨.nil _ _ _, by simp [slIds], by simp [slIds]⟩
theorem Bes.call {u : AV} {ty sz : Nat} {us : List (List AV)} (hB : Bes s N v' u ty sz us) {v2 : AV} (hf : N > fid) (hk : ∀ j, j < s.next → j ≠ fid → j ∉ slIds v' → s2.get j = s.get j) (hfr : ∀ j, j ∈ slIds v2 → j ∈ slIds v' ∨ s.next ≤ j) : Bes s2 N v2 u ty sz us :=
  ⟨hB.sl.keep fun j hj => hk j (hB.sl.lt hj) (by have := hB.new j hj; omega) (hB.dj j hj), hB.new, fun j hj hm => (hfr j hm).elim (hB.dj j hj) (fun q => by have := hB.sl.lt hj; omega)⟩
theorem Bes.push {u : AV} {ty sz : Nat} {us : List (List AV)} (hB : Bes s N v' u ty sz us) (o : AObj) : Bes (s.push o) N v' u ty sz us :=
  ⟨hB.sl.keep fun j hj => (Kp.pushed s o).keep j (hB.sl.lt hj), hB.new, hB.dj⟩
theorem Bes.upd {u : AV} {ty sz : Nat} {us : List (List AV)} (hB : Bes s N v' u ty sz us) {id : Nat} (o : AObj) (h : id ∉ slIds u) : Bes (s.upd id o) N v' u ty sz us :=
  ⟨hB.sl.keep fun j hj => Store.get_upd_ne _ _ (fun e => h (e ▸ hj)), hB.new, hB.dj⟩
end
end Go.AL
namespace Go.Proofs.Ytjjbjibbjbbeaaa
open Go.AL
end Go.Proofs.Ytjjbjibbjbbeaaa
/- The lifter: named, now, later. -/
set_option linter.unusedVariables false
set_option linter.unusedSimpArgs false
namespace Go.AL
section
variable {σ s s2 : Store} {N fid : Nat} {v v' : AV} {df : ByteArray} {es es2 : List (List AV)}
end
end Go.AL
namespace Go.Proofs.Ytjjbjibbjbbeaaa
open Go.AL
end Go.Proofs.Ytjjbjibbjbbeaaa
/- Lift: each definition alone. -/
set_option linter.unusedVariables false
set_option linter.unusedSimpArgs false
namespace Go.AL
def defBody : Cr → List ByteArray × Cr
  | .mk k nm n ar ps gs al bs pk => if k = 6 then (ps, gs.headD .zero) else ([], .mk k nm n ar ps gs al bs pk)
def defPc : Cr → AV
  | .mk k nm n ar ps gs al bs pk => if k = 6 then strs ps else .nils
theorem supC_len (p : Sup) : (supC p).length = 11 := by simp [supC, Cr.len]
mutual
theorem LeD.rf (a : AV) : LeD a a := .refl a
theorem LeDL.rf : ∀ a : List AV, LeDL a a
  | [] => .nil
  | x :: r => .cons (.refl x) (LeDL.rf r)
end
theorem SubL.rf {v w : AV} : ∀ a : List AV, SubL v w a a
  | [] => .nil
  | x :: r => .cons (.refl x) (SubL.rf r)
theorem LeDE.rf : ∀ a : List (List AV), LeDE a a
  | [] => .nil
  | x :: r => .cons (LeDL.rf x) (LeDE.rf r)
theorem LeDE.app {a b c d : List (List AV)} (h : LeDE a b) (k : LeDE c d) : LeDE (a ++ c) (b ++ d) := by
  induction a generalizing b with
  | nil => cases h; exact k
  | cons x r ih => cases h with | cons h t => exact .cons h (ih t)
theorem SliceAt.elems {σ : Store} {v : AV} {ty sz : Nat} {es : List (List AV)} (h : SliceAt σ v ty sz es) : elemsOf σ sz v = some es := by
  rcases h with ⟨rfl, rfl⟩ | ⟨id, ver, es', rfl, h⟩
  · rfl
  · rw [elems_own, h, elems2_some, if_pos ⟨rfl, rfl, by simp⟩, List.drop_zero, List.take_left']
    rfl
theorem Cr.Sh.body {x : Cr} (h : x.Sh) : (defBody x).2.Sh := by
  cases h with
  | mk h6 h1 h2 h3 h4 =>
    rename_i k nm n ar ps gs al bs pk
    rw [defBody]
    split
    · rename_i hk
      match gs, h6 hk with
      | [y], _ => exact h1 y (by simp)
    · exact .mk h6 h1 h2 h3 h4
theorem Cr.parts (x : Cr) : ∃ (k : Int) (ps : List ByteArray) (gs : List Cr), x.cells[0]? = some (.int .i64 k) ∧ x.cells[4]? = some (strs ps) ∧ x.cells[5]? = some (.list (gs.map Cr.cells)) ∧
    defBody x = (if k = 6 then (ps, gs.headD .zero) else ([], x)) ∧ defPc x = (if k = 6 then strs ps else .nils) ∧ (x.Sh → k = 6 → ∃ y, gs = [y]) ∧ ps.length ≤ x.bulk := by
  obtain ⟨k, nm, n, ar, ps, gs, al, bs, pk⟩ := x
  refine ⟨k, ps, gs, by rw [Cr.cells_eq]; rfl, by rw [Cr.cells_eq]; rfl, by rw [Cr.cells_eq]; rfl, rfl, rfl, fun h h6 => ?_, by rw [Cr.bulk]; omega⟩
  cases h with
  | mk hh h1 h2 h3 h4 =>
    match gs, hh h6 with
    | [y], _ => exact ⟨y, rfl⟩
end Go.AL
namespace Go.Proofs.Ytjjbjibbjbbeaaa
open Go.AL
end Go.Proofs.Ytjjbjibbjbbeaaa
/- An expression is the same as itself; definitions of supercombinators. -/
set_option linter.unusedVariables false
set_option linter.unusedSimpArgs false
namespace Go.AL
theorem lt_ne2 {a b : Nat} (h : a < b) : (a = b + 1) = False := by simp; omega
end Go.AL
namespace Go.Proofs.Ytjjbjibbjbbeaaa
open Go.AL
end Go.Proofs.Ytjjbjibbjbbeaaa
/- Definitions of supercombinators; definitions are the same as themselves; which are small. -/
set_option linter.unusedVariables false
set_option linter.unusedSimpArgs false
namespace Go.AL
theorem leDE_map {α : Type} {f g : α → List AV} (h : ∀ x, LeDL (f x) (g x)) : ∀ l : List α, LeDE (l.map f) (l.map g)
  | [] => .nil
  | x :: r => .cons (h x) (leDE_map h r)
end Go.AL
namespace Go.Proofs.Ytjjbjibbjbbeaaa
open Go.AL
end Go.Proofs.Ytjjbjibbjbbeaaa
/- Numbers' texts, as plain law: which texts are a number's; local names. -/
set_option linter.unusedVariables false
set_option linter.unusedSimpArgs false
namespace Go.AL
/-- A fact that is not used by itself. -/
structure Hid (p : Prop) : Prop where
  out : p
/-- The bytes of a text. -/
def bl (s : ByteArray) : List UInt8 := s.data.toList
theorem bl_len (s : ByteArray) : (bl s).length = s.size := Array.length_toList
theorem bl_inj {s t : ByteArray} (h : bl s = bl t) : s = t := ByteArray.ext (Array.ext' h)
theorem bl_eq {s t : ByteArray} : s = t ↔ bl s = bl t := ⟨fun h => by rw [h], bl_inj⟩
theorem bl_app (s t : ByteArray) : bl (s ++ t) = bl s ++ bl t := by simp [bl]
theorem bl_ext (s : ByteArray) (a b : Nat) : bl (s.extract a b) = ((bl s).take b).drop a := by
  simp [bl, ByteArray.data_extract, List.drop_take, List.extract_eq_take_drop]
def digitB (b : UInt8) : Prop := 48 ≤ b.toNat ∧ b.toNat ≤ 57
instance (b : UInt8) : Decidable (digitB b) := by unfold digitB; exact inferInstance
/-- The number of some digits. -/
def valN (l : List UInt8) : Nat := l.foldl (fun a b => a * 10 + (b.toNat - 48)) 0
theorem valN_snoc (l : List UInt8) (b : UInt8) : valN (l ++ [b]) = valN l * 10 + (b.toNat - 48) := by simp [valN]
theorem valN_lt : ∀ (n : Nat) (l : List UInt8), l.length = n → (∀ b, b ∈ l → digitB b) → valN l < 10 ^ n
  | 0, l, hl, h => by
    have : l = [] := List.eq_nil_of_length_eq_zero hl
    subst this; simp [valN]
  | n + 1, l, hl, h => by
    have hne : l ≠ [] := by intro e; subst e; simp at hl
    obtain ⟨t, b, rfl⟩ : ∃ t b, l = t ++ [b] := ⟨l.dropLast, l.getLast hne, (List.dropLast_concat_getLast hne).symm⟩
    have := valN_lt n t (by simpa using hl) (fun b hb => h b (by simp [hb]))
    have hb := h b (by simp)
    unfold digitB at hb
    rw [valN_snoc, Nat.pow_succ]
    omega
/-- A number's digits. -/
def dg (n : Nat) : List UInt8 := if h : n < 10 then [UInt8.ofNat (48 + n)] else dg (n / 10) ++ [UInt8.ofNat (48 + n % 10)]
termination_by n
decreasing_by omega
theorem dg_lt {n : Nat} (h : n < 10) : dg n = [UInt8.ofNat (48 + n)] := by rw [dg, dif_pos h]
theorem dg_ge {n : Nat} (h : ¬ n < 10) : dg n = dg (n / 10) ++ [UInt8.ofNat (48 + n % 10)] := by rw [dg, dif_neg h]
theorem ofNat_toNat (b : UInt8) : UInt8.ofNat b.toNat = b := by simp
theorem toNat_ofNat {n : Nat} (h : n < 256) : (UInt8.ofNat n).toNat = n := by simp; omega
theorem dg_ne (n : Nat) : dg n ≠ [] := by
  by_cases h : n < 10
  · rw [dg_lt h]; simp
  · rw [dg_ge h]; simp
theorem dg_head : ∀ (n : Nat), 1 ≤ n → ∀ b, (dg n)[0]? = some b → b ≠ 48
  | n, hn, b, hb => by
    by_cases h : n < 10
    · rw [dg_lt h] at hb
      have hb : UInt8.ofNat (48 + n) = b := by simpa using hb
      subst hb
      intro e
      have := congrArg UInt8.toNat e
      rw [toNat_ofNat (by omega)] at this
      have h48 : (48 : UInt8).toNat = 48 := rfl
      omega
    · rw [dg_ge h, List.getElem?_append_left (List.length_pos_iff.2 (dg_ne _))] at hb
      exact dg_head (n / 10) (by omega) b hb
termination_by n => n
decreasing_by omega
theorem valN_pos {l : List UInt8} (h : ∀ b, b ∈ l → digitB b) {b : UInt8} (hb : l[0]? = some b) (h0 : b ≠ 48) : 1 ≤ valN l := by
  have key : ∀ (n : Nat) (l : List UInt8), l.length = n → (∀ b, b ∈ l → digitB b) → l[0]? = some b → 1 ≤ valN l := by
    intro n
    induction n with
    | zero => intro l hl _ hb; have : l = [] := List.eq_nil_of_length_eq_zero hl; subst this; simp at hb
    | succ n ih =>
      intro l hl hd hb
      have hne : l ≠ [] := by intro e; subst e; simp at hl
      obtain ⟨t, c, rfl⟩ : ∃ t c, l = t ++ [c] := ⟨l.dropLast, l.getLast hne, (List.dropLast_concat_getLast hne).symm⟩
      rw [valN_snoc]
      cases t with
      | nil =>
        simp at hb
        subst hb
        have := hd c (by simp)
        unfold digitB at this
        have : c.toNat ≠ 48 := fun e => h0 (by rw [← ofNat_toNat c, e]; rfl)
        omega
      | cons x t =>
        have := ih (x :: t) (by simpa using hl) (fun b hb => hd b (List.mem_append_left _ hb)) (by simpa using hb)
        omega
  exact key l.length l rfl h hb
theorem dg_val : ∀ (n : Nat) (l : List UInt8), l.length = n → l ≠ [] → (∀ b, b ∈ l → digitB b) → (l[0]? = some 48 → l.length = 1) → dg (valN l) = l
  | 0, l, hl, hne, _, _ => absurd (List.eq_nil_of_length_eq_zero hl) hne
  | n + 1, l, hl, hne, h, h0 => by
    obtain ⟨t, b, rfl⟩ : ∃ t b, l = t ++ [b] := ⟨l.dropLast, l.getLast hne, (List.dropLast_concat_getLast hne).symm⟩
    have hb := h b (by simp)
    unfold digitB at hb
    rw [valN_snoc]
    by_cases ht : t = []
    · subst ht
      have e : valN [] * 10 + (b.toNat - 48) = b.toNat - 48 := by simp [valN]
      rw [e, dg_lt (by omega), show 48 + (b.toNat - 48) = b.toNat by omega, ofNat_toNat]; rfl
    · obtain ⟨c, hc⟩ : ∃ c, t[0]? = some c := ⟨_, List.getElem?_eq_getElem (List.length_pos_iff.2 ht)⟩
      have hl2 := List.length_pos_iff.2 ht
      have hc0 : c ≠ 48 := fun e => by
        have := h0 (by rw [List.getElem?_append_left hl2, hc, e])
        rw [List.length_append, List.length_singleton] at this; omega
      have hd : ∀ b, b ∈ t → digitB b := fun b hb => h b (by simp [hb])
      have := valN_pos hd hc hc0
      rw [dg_ge (by omega), show (valN t * 10 + (b.toNat - 48)) / 10 = valN t by omega, show (valN t * 10 + (b.toNat - 48)) % 10 = b.toNat - 48 by omega,
        dg_val n t (by simpa using hl) ht hd (fun e => absurd (by rw [hc] at e; simpa using e) hc0), show 48 + (b.toNat - 48) = b.toNat by omega, ofNat_toNat]
/-- Which digits are a number's: those without a zero ahead. -/
theorem dg_iff {l : List UInt8} (hne : l ≠ []) (h : ∀ b, b ∈ l → digitB b) : dg (valN l) = l ↔ (l[0]? = some 48 → l.length = 1) := by
  refine ⟨fun e h0 => ?_, fun h0 => dg_val l.length l rfl hne h h0⟩
  by_cases hv : valN l < 10
  · rw [← e, dg_lt hv]; rfl
  · rw [← e] at h0
    exact absurd rfl (dg_head _ (by omega) _ h0)
/-- Which texts are a number's: without its sign. -/
def NumD (below : Bool) (l : List UInt8) : Prop := l ≠ [] ∧ l.length ≤ 19 ∧ (∀ b, b ∈ l → digitB b) ∧ (l[0]? = some 48 → l.length = 1 ∧ below = false) ∧ valN l ≤ 9223372036854775808 ∧ (valN l = 9223372036854775808 → below = true)
def NumT (l : List UInt8) : Prop := if l[0]? = some 45 then NumD true (l.drop 1) else NumD false l
/-- Local names. -/
def LocN (s : ByteArray) : Prop := (bl s)[0]? = some 35 ∧ (bl s)[1]? ≠ some 45 ∧ NumT ((bl s).drop 1)
def Locs (l : List ByteArray) : Prop := (∀ s, s ∈ l → LocN s) ∧ l.Nodup
theorem Locs.nil : Locs [] := ⟨by simp, List.nodup_nil⟩
theorem Locs.snoc {l : List ByteArray} {s : ByteArray} : Locs (l ++ [s]) ↔ Locs l ∧ LocN s ∧ s ∉ l := by
  unfold Locs
  rw [List.nodup_append]
  constructor
  · rintro ⟨h1, h2, _, h3⟩
    exact ⟨⟨fun x hx => h1 x (by simp [hx]), h2⟩, h1 s (by simp), fun hm => h3 s hm s (by simp) rfl⟩
  · rintro ⟨⟨h1, h2⟩, h3, h4⟩
    refine ⟨fun x hx => ?_, h2, by simp, fun a ha b hb e => ?_⟩
    · rcases List.mem_append.1 hx with h | h
      · exact h1 x h
      · simp at h; subst h; exact h3
    · simp at hb; subst hb; subst e; exact h4 ha
/-- An exact answer. -/
def RE (p : Prop) (r : AV) : Prop := ∃ b : Bool, r = .bool b ∧ (b = true ↔ p)
@[congr] theorem RE_congr {w : Prop} (hw : Visit = w) {p : Prop} {r r' : AV} (h : r = r') : RE p r = RE p r' := by rw [h]
theorem RE.f {p : Prop} (h : ¬ p) : RE p (.bool false) := ⟨false, rfl, by simp [h]⟩
theorem RE.t {p : Prop} (h : p) : RE p (.bool true) := ⟨true, rfl, by simp [h]⟩
theorem RE.mk {p : Prop} {b : Bool} (h : b = true ↔ p) : RE p (.bool b) := ⟨b, rfl, h⟩
theorem iff_f {b : Bool} {p : Prop} (h : b = true ↔ p) (e : b = false) : ¬ p := fun hp => by rw [h.2 hp] at e; cases e
end Go.AL
/- The resolved code of some functions. -/
set_option linter.unusedVariables false
namespace Go.Proofs.Ytjjbjibbjbbeaaa
open Go.AL
/-- changeling/changelinglaw17.CodeStarts -/
def c8 : ACode :=
(.seq
 (.reg [oo 3 (.new 54 (.t 0)),
 oo 6 (.move (.c (.bool false)))])
 (.seq
 (.seq
 (.reg [mv 11 1,
 oo 12 (.call 25 [(.t 11)]),
 oo 13 (.not (.t 12)),
 mv 14 13,
 og 15 14 false (.load (some 9) (.t 3)),
 og 16 14 false (.call 17 [(.t 15)]),
 og 17 14 false (.bin .int .gtr (.t 16) (.c (.int .i64 1000))),
 oo 18 (.pick (.t 14) (.c (.bool true)) (.t 17)),
 mv 19 18,
 og 20 19 false (.move (.t 2)),
 og 21 19 false (.len .slice (.t 20)),
 og 22 19 false (.bin .int .gtr (.t 21) (.c (.int .i64 100))),
 oo 23 (.pick (.t 19) (.c (.bool true)) (.t 22))])
 (.cond (.t 23)
 (.seq
 (.reg [oo 24 (.call 26 []),
 mv 6 24])
 .ret)
 .skip))
 (.seq
 (.reg [oo 26 (.load (some 9) (.t 3)),
 mv 27 1,
 mv 28 2,
 oo 29 (.call 33 [(.t 26), (.t 27), (.t 28)]),
 mv 25 29,
 oo 30 (.extract (.t 25) 0),
 oo 31 (.extract (.t 25) 1),
 oo 7 (.new 81 (.c (.agg [(.str ⟨#[]⟩), (.int .i64 0), (.bool false), .nils]))),
 ⟨none, .store 4 (.t 7) (.t 30), none⟩,
 mv 8 31])
 (.seq
 (.reg [oo 33 (.load (some 9) (.t 3)),
 mv 34 1,
 mv 35 2,
 oo 36 (.call 34 [(.t 33), (.t 34), (.t 35)]),
 mv 32 36,
 oo 37 (.extract (.t 32) 0),
 oo 38 (.extract (.t 32) 1),
 oo 9 (.new 81 (.c (.agg [(.str ⟨#[]⟩), (.int .i64 0), (.bool false), .nils]))),
 ⟨none, .store 4 (.t 9) (.t 37), none⟩,
 mv 10 38])
 (.seq
 (.reg [oo 39 (.load (some 4) (.t 7)),
 oo 40 (.load (some 4) (.t 9)),
 oo 41 (.call 32 [(.t 39), (.t 40)]),
 mv 42 41,
 og 43 42 true (.move (.t 8)),
 og 44 42 true (.move (.t 10)),
 og 45 42 true (.bin .int .eql (.t 43) (.t 44)),
 oo 46 (.pick (.t 42) (.t 45) (.c (.bool false))),
 mv 47 46,
 og 48 47 true (.call 26 []),
 oo 49 (.pick (.t 47) (.t 48) (.c (.bool false))),
 mv 6 49])
 .ret)))))
theorem in8 {args : List AV} {σ : Store} {K : AV → Store → Prop} (hargs : args.length ≤ 50 := by simp) (h : AWP Try.prog Try.f8.ntmps c8 (fun e t s => match e with | .exit _ => False | _ => Res [.slot 6] K t s) (env (argList 0 args)) σ) : ACalls Try.prog 8 args σ K :=
  enter (own := []) Try.func8 (by kernel_rfl) (by kernel_rfl) (by kernel_rfl) hargs h
/-- changeling/code.Start -/
def c33 : ACode :=
(.seq
 (.reg [oo 3 (.new 54 (.t 0)),
 oo 6 (.new 81 (.c (.agg [(.str ⟨#[]⟩), (.int .i64 0), (.bool false), .nils]))),
 oo 7 (.move (.c (.int .i64 0)))])
 (.seq
 (.reg [mv 14 1,
 mv 15 2,
 oo 16 (.call 56 [(.t 14), (.t 15)]),
 mv 13 16,
 oo 17 (.extract (.t 13) 0),
 oo 18 (.extract (.t 13) 1),
 mv 8 17,
 mv 9 18])
 (.seq
 (.seq
 (.reg [mv 19 9,
 oo 20 (.not (.t 19))])
 (.cond (.t 20)
 (.seq
 (.reg [oo 21 (.build [(.str ⟨#[]⟩), (.int .i64 0), (.bool false), .nils] []),
 ⟨none, .store 4 (.t 6) (.t 21), none⟩,
 oo 7 (.move (.c (.int .i64 1)))])
 .ret)
 .skip))
 (.seq
 (.reg [oo 10 (.move (.c .nils))])
 (.seq
 (.reg [mv 22 10,
 mv 23 1,
 oo 24 (.append 71 11 200 (.t 22) (.t 23)),
 mv 10 24])
 (.seq
 (.seq
 (.reg [mv 25 10,
 oo 26 (.load (some 9) (.t 3)),
 mv 27 1,
 oo 28 (.call 63 [(.t 26), (.t 27)]),
 oo 29 (.lit false 71 11 [(.t 28)]),
 oo 30 (.append 71 11 200 (.t 25) (.t 29)),
 oo 31 (.call 62 [(.t 30)]),
 oo 32 (.not (.t 31)),
 mv 33 32,
 og 34 33 false (.move (.t 8)),
 og 35 33 false (.load (some 9) (.t 3)),
 og 36 33 false (.call 64 [(.t 34), (.t 35)]),
 og 37 33 false (.not (.t 36)),
 oo 38 (.pick (.t 33) (.c (.bool true)) (.t 37)),
 mv 39 38,
 og 40 39 false (.load (some 9) (.t 3)),
 og 41 39 false (.move (.t 1)),
 og 42 39 false (.call 65 [(.t 40), (.t 41)]),
 og 43 39 false (.not (.t 42)),
 oo 44 (.pick (.t 39) (.c (.bool true)) (.t 43))])
 (.cond (.t 44)
 (.seq
 (.reg [oo 45 (.build [(.str ⟨#[]⟩), (.int .i64 0), (.bool false), .nils] []),
 ⟨none, .store 4 (.t 6) (.t 45), none⟩,
 oo 7 (.move (.c (.int .i64 1)))])
 .ret)
 .skip))
 (.seq
 (.reg [mv 46 8,
 oo 47 (.build [.nilp, .nils] [(0, 1, (.t 46))]),
 oo 48 (.new 157 (.t 47)),
 mv 11 48])
 (.seq
 (.reg [mv 49 11,
 oo 50 (.load (some 9) (.t 3)),
 oo 51 (.call 66 [(.t 49), (.t 50), (.c .nils), (.c (.int .i64 0))])])
 (.seq
 (.reg [mv 52 11,
 oo 53 (.call 67 [(.t 52), (.c (.int .i64 9)), (.c (.int .i64 0))]),
 mv 12 53])
 (.seq
 (.reg [mv 54 11,
 oo 55 (.call 67 [(.t 54), (.c (.int .i64 18)), (.c (.int .i64 0))])])
 (.seq
 (.reg [mv 56 11,
 mv 57 12,
 oo 58 (.call 67 [(.t 56), (.c (.int .i64 19)), (.t 57)])])
 (.seq
 (.reg [mv 59 11,
 oo 60 (.nilck (.t 59)),
 oo 61 (.faddr 1 (.t 60)),
 oo 62 (.load none (.t 61)),
 oo 63 (.build [(.str ⟨#[]⟩), (.int .i64 0), (.bool false), .nils] [(3, 1, (.t 62))]),
 ⟨none, .store 4 (.t 6) (.t 63), none⟩,
 oo 7 (.move (.c (.int .i64 0)))])
 .ret))))))))))))
theorem in33 {args : List AV} {σ : Store} {K : AV → Store → Prop} (hargs : args.length ≤ 64 := by simp) (h : AWP Try.prog Try.f33.ntmps c33 (fun e t s => match e with | .exit _ => False | _ => Res [.cell 6 (some 4), .slot 7] K t s) (env (argList 0 args)) σ) : ACalls Try.prog 33 args σ K :=
  enter (own := []) Try.func33 (by kernel_rfl) (by kernel_rfl) (by kernel_rfl) hargs h
/-- changeling/changelingref17.Start -/
def c34 : ACode :=
(.seq
 (.reg [oo 3 (.new 54 (.t 0)),
 oo 6 (.new 81 (.c (.agg [(.str ⟨#[]⟩), (.int .i64 0), (.bool false), .nils]))),
 oo 7 (.move (.c (.int .i64 0)))])
 (.seq
 (.seq
 (.reg [oo 10 (.load (some 9) (.t 3)),
 mv 11 1,
 mv 12 2,
 oo 13 (.call 68 [(.t 10), (.t 11), (.t 12)]),
 oo 14 (.not (.t 13))])
 (.cond (.t 14)
 (.seq
 (.reg [oo 15 (.build [(.str ⟨#[]⟩), (.int .i64 0), (.bool false), .nils] []),
 ⟨none, .store 4 (.t 6) (.t 15), none⟩,
 oo 7 (.move (.c (.int .i64 1)))])
 .ret)
 .skip))
 (.seq
 (.draw [] [([⟨(some 16), .move (.t 1), none⟩], []),
 ([⟨(some 17), .move (.t 2), none⟩], []),
 ([⟨(some 19), .load (some 9) (.t 3), none⟩], []),
 ([⟨(some 20), .lit false 258 2 [], none⟩], []),
 ([⟨(some 18), .call 70 [(.t 16), (.t 17)], none⟩], [⟨(some 19), .load (some 9) (.t 3), none⟩]),
 ([⟨(some 21), .call 69 [(.t 18), (.t 19), (.t 20), (.c (.int .i64 0))], none⟩], []),
 ([⟨(some 8), .move (.t 21), none⟩], [])])
 (.seq
 (.reg [mv 22 8,
 oo 23 (.len .slice (.t 22)),
 mv 9 23])
 (.seq
 (.reg [mv 24 8,
 oo 25 (.call 72 [(.c (.int .i64 9)), (.c (.int .i64 0))]),
 oo 26 (.call 72 [(.c (.int .i64 18)), (.c (.int .i64 0))]),
 mv 27 9,
 oo 28 (.call 72 [(.c (.int .i64 19)), (.t 27)]),
 oo 29 (.lit false 79 1 [(.t 24), (.t 25), (.t 26), (.t 28)]),
 oo 30 (.call 71 [(.t 29)]),
 oo 31 (.build [(.str ⟨#[]⟩), (.int .i64 0), (.bool false), .nils] [(3, 1, (.t 30))]),
 ⟨none, .store 4 (.t 6) (.t 31), none⟩,
 oo 7 (.move (.c (.int .i64 0)))])
 .ret)))))
theorem in34 {args : List AV} {σ : Store} {K : AV → Store → Prop} (hargs : args.length ≤ 32 := by simp) (h : AWP Try.prog Try.f34.ntmps c34 (fun e t s => match e with | .exit _ => False | _ => Res [.cell 6 (some 4), .slot 7] K t s) (env (argList 0 args)) σ) : ACalls Try.prog 34 args σ K :=
  enter (own := []) Try.func34 (by kernel_rfl) (by kernel_rfl) (by kernel_rfl) hargs h
/-- changeling/code.probe -/
def c63 : ACode :=
(.seq
 (.reg [oo 2 (.new 54 (.t 0)),
 oo 4 (.new 71 (.c (.agg [(.str ⟨#[]⟩), .nils, (.int .i64 0), (.str ⟨#[]⟩), (.int .i64 0), (.int .i64 0), .nils, .nils, .nils, .nils, .nils])))])
 (.seq
 (.reg [oo 5 (.move (.c (.str ⟨#[35]⟩)))])
 (.seq
 (.seq
 (.reg [mv 9 1,
 oo 10 (.len .slice (.t 9)),
 oo 11 (.move (.c (.int .i64 0)))])
 (.block 0
 (.loop
 (.seq
 (.reg [oo 12 (.bin .int .lss (.t 11) (.t 10))])
 (.seq
 (.cond (.t 12)
 .skip
 (.exit 0))
 (.seq
 (.block 1
 (.seq
 (.reg [oo 13 (.iaddr 11 (.t 9) (.t 11)),
 oo 14 (.load (some 11) (.t 13)),
 oo 7 (.new 71 (.c (.agg [(.str ⟨#[]⟩), .nils, (.int .i64 0), (.str ⟨#[]⟩), (.int .i64 0), (.int .i64 0), .nils, .nils, .nils, .nils, .nils]))),
 ⟨none, .store 11 (.t 7) (.t 14), none⟩])
 (.reg [mv 15 5,
 oo 16 (.faddr 0 (.t 7)),
 oo 17 (.load none (.t 16)),
 oo 18 (.bin .str .add (.t 15) (.t 17)),
 mv 5 18])))
 (.reg [oo 19 (.bin .int .add (.t 11) (.c (.int .i64 1))),
 mv 11 19])))))))
 (.seq
 (.reg [oo 20 (.build [(.int .i64 0), (.str ⟨#[]⟩), (.int .i64 0), (.int .i64 0), .nils, .nils, .nils, .nils, .nils] [(0, 1, (.c (.int .i64 3)))]),
 oo 21 (.load (some 9) (.t 2)),
 oo 22 (.lit false 54 9 [(.t 20), (.t 21)]),
 oo 23 (.build [(.int .i64 0), (.str ⟨#[]⟩), (.int .i64 0), (.int .i64 0), .nils, .nils, .nils, .nils, .nils] [(0, 1, (.c (.int .i64 5))), (5, 1, (.t 22))]),
 oo 8 (.new 54 (.c (.agg [(.int .i64 0), (.str ⟨#[]⟩), (.int .i64 0), (.int .i64 0), .nils, .nils, .nils, .nils, .nils]))),
 ⟨none, .store 9 (.t 8) (.t 23), none⟩])
 (.seq
 (.reg [mv 24 5,
 oo 25 (.bin .str .add (.t 24) (.c (.str ⟨#[35]⟩))),
 oo 26 (.load (some 9) (.t 8)),
 oo 27 (.build [(.str ⟨#[]⟩), .nils, (.int .i64 0), (.str ⟨#[]⟩), (.int .i64 0), (.int .i64 0), .nils, .nils, .nils, .nils, .nils] [(0, 1, (.t 25)), (2, 9, (.t 26))]),
 ⟨none, .store 11 (.t 4) (.t 27), none⟩])
 .ret)))))
theorem in63 {args : List AV} {σ : Store} {K : AV → Store → Prop} (hargs : args.length ≤ 28 := by simp) (h : AWP Try.prog Try.f63.ntmps c63 (fun e t s => match e with | .exit _ => False | _ => Res [.cell 4 (some 11)] K t s) (env (argList 0 args)) σ) : ACalls Try.prog 63 args σ K :=
  enter (own := []) Try.func63 (by kernel_rfl) (by kernel_rfl) (by kernel_rfl) hargs h
/-- changeling/code.closed -/
def c65 : ACode :=
(.seq
 (.reg [oo 2 (.new 54 (.t 0)),
 oo 4 (.move (.c (.bool false)))])
 (.seq
 (.reg [oo 10 (.load (some 9) (.t 2)),
 mv 11 1,
 oo 12 (.call 63 [(.t 10), (.t 11)]),
 oo 13 (.field 0 none (.t 12)),
 mv 5 13])
 (.seq
 (.seq
 (.reg [oo 14 (.faddr 0 (.t 2)),
 oo 15 (.load none (.t 14)),
 oo 16 (.bin .int .eql (.t 15) (.c (.int .i64 2))),
 mv 17 16,
 og 18 17 true (.faddr 1 (.t 2)),
 og 19 17 true (.load none (.t 18)),
 og 20 17 true (.move (.t 5)),
 og 21 17 true (.bin .str .eql (.t 19) (.t 20)),
 oo 22 (.pick (.t 17) (.t 21) (.c (.bool false)))])
 (.cond (.t 22)
 (.seq
 (.reg [oo 4 (.move (.c (.bool false)))])
 .ret)
 .skip))
 (.seq
 (.seq
 (.reg [oo 23 (.faddr 5 (.t 2)),
 oo 24 (.load none (.t 23)),
 oo 25 (.len .slice (.t 24)),
 oo 26 (.move (.c (.int .i64 0)))])
 (.block 0
 (.loop
 (.seq
 (.reg [oo 27 (.bin .int .lss (.t 26) (.t 25))])
 (.seq
 (.cond (.t 27)
 .skip
 (.exit 0))
 (.seq
 (.block 1
 (.seq
 (.reg [oo 28 (.iaddr 9 (.t 24) (.t 26)),
 oo 29 (.load (some 9) (.t 28)),
 oo 7 (.new 54 (.c (.agg [(.int .i64 0), (.str ⟨#[]⟩), (.int .i64 0), (.int .i64 0), .nils, .nils, .nils, .nils, .nils]))),
 ⟨none, .store 9 (.t 7) (.t 29), none⟩])
 (.seq
 (.reg [oo 30 (.load (some 9) (.t 7)),
 mv 31 1,
 oo 32 (.call 65 [(.t 30), (.t 31)]),
 oo 33 (.not (.t 32))])
 (.cond (.t 33)
 (.seq
 (.reg [oo 4 (.move (.c (.bool false)))])
 .ret)
 .skip))))
 (.reg [oo 34 (.bin .int .add (.t 26) (.c (.int .i64 1))),
 mv 26 34])))))))
 (.seq
 (.seq
 (.reg [oo 35 (.faddr 7 (.t 2)),
 oo 36 (.load none (.t 35)),
 oo 37 (.len .slice (.t 36)),
 oo 38 (.move (.c (.int .i64 0)))])
 (.block 2
 (.loop
 (.seq
 (.reg [oo 39 (.bin .int .lss (.t 38) (.t 37))])
 (.seq
 (.cond (.t 39)
 .skip
 (.exit 2))
 (.seq
 (.block 3
 (.seq
 (.reg [oo 40 (.iaddr 10 (.t 36) (.t 38)),
 oo 41 (.load (some 10) (.t 40)),
 oo 9 (.new 114 (.c (.agg [(.str ⟨#[]⟩), (.int .i64 0), (.str ⟨#[]⟩), (.int .i64 0), (.int .i64 0), .nils, .nils, .nils, .nils, .nils]))),
 ⟨none, .store 10 (.t 9) (.t 41), none⟩])
 (.seq
 (.reg [oo 42 (.faddr 1 (.t 9)),
 oo 43 (.load (some 9) (.t 42)),
 mv 44 1,
 oo 45 (.call 65 [(.t 43), (.t 44)]),
 oo 46 (.not (.t 45))])
 (.cond (.t 46)
 (.seq
 (.reg [oo 4 (.move (.c (.bool false)))])
 .ret)
 .skip))))
 (.reg [oo 47 (.bin .int .add (.t 38) (.c (.int .i64 1))),
 mv 38 47])))))))
 (.seq
 (.reg [oo 4 (.move (.c (.bool true)))])
 .ret))))))
theorem in65 {args : List AV} {σ : Store} {K : AV → Store → Prop} (hargs : args.length ≤ 48 := by simp) (h : AWP Try.prog Try.f65.ntmps c65 (fun e t s => match e with | .exit _ => False | _ => Res [.slot 4] K t s) (env (argList 0 args)) σ) : ACalls Try.prog 65 args σ K :=
  enter (own := []) Try.func65 (by kernel_rfl) (by kernel_rfl) (by kernel_rfl) hargs h
/-- changeling/changelingref17.RightStart -/
def c68 : ACode :=
(.seq
 (.reg [oo 3 (.new 54 (.t 0)),
 oo 6 (.move (.c (.bool false)))])
 (.seq
 (.draw [] [([⟨(some 7), .move (.t 1), none⟩], []),
 ([⟨(some 8), .move (.t 2), none⟩], []),
 ([⟨(some 9), .call 118 [(.t 7), (.t 8)], none⟩], []),
 ([⟨(some 10), .move (.t 9), none⟩], []),
 ([⟨(some 11), .move (.t 1), some (10, true)⟩], []),
 ([⟨(some 12), .move (.t 2), some (10, true)⟩], []),
 ([⟨(some 14), .load (some 9) (.t 3), some (10, true)⟩], []),
 ([⟨(some 13), .call 70 [(.t 11), (.t 12)], some (10, true)⟩], [⟨(some 14), .load (some 9) (.t 3), some (10, true)⟩]),
 ([⟨(some 15), .call 119 [(.t 13), (.t 14)], some (10, true)⟩], []),
 ([⟨(some 16), .pick (.t 10) (.t 15) (.c (.bool false)), none⟩], []),
 ([⟨(some 17), .move (.t 16), none⟩], []),
 ([⟨(some 18), .load (some 9) (.t 3), some (17, true)⟩], []),
 ([⟨(some 19), .call 120 [(.t 18), (.c (.bool false))], some (17, true)⟩], []),
 ([⟨(some 20), .pick (.t 17) (.t 19) (.c (.bool false)), none⟩], []),
 ([⟨(some 21), .move (.t 20), none⟩], []),
 ([⟨(some 22), .load (some 9) (.t 3), some (21, true)⟩], []),
 ([⟨(some 23), .move (.t 1), some (21, true)⟩], []),
 ([⟨(some 24), .call 122 [(.t 23)], some (21, true)⟩], [⟨(some 22), .load (some 9) (.t 3), some (21, true)⟩]),
 ([⟨(some 25), .call 121 [(.t 22), (.t 24)], some (21, true)⟩], []),
 ([⟨(some 26), .pick (.t 21) (.t 25) (.c (.bool false)), none⟩], []),
 ([⟨(some 27), .move (.t 26), none⟩], []),
 ([⟨(some 28), .load (some 9) (.t 3), some (27, true)⟩], []),
 ([⟨(some 29), .move (.t 1), some (27, true)⟩], []),
 ([⟨(some 30), .call 123 [(.t 28), (.t 29)], some (27, true)⟩], []),
 ([⟨(some 31), .pick (.t 27) (.t 30) (.c (.bool false)), none⟩], []),
 ([⟨(some 6), .move (.t 31), none⟩], [])])
 .ret))
theorem in68 {args : List AV} {σ : Store} {K : AV → Store → Prop} (hargs : args.length ≤ 32 := by simp) (h : AWP Try.prog Try.f68.ntmps c68 (fun e t s => match e with | .exit _ => False | _ => Res [.slot 6] K t s) (env (argList 0 args)) σ) : ACalls Try.prog 68 args σ K :=
  enter (own := []) Try.func68 (by kernel_rfl) (by kernel_rfl) (by kernel_rfl) hargs h
/-- changeling/changelingref17.Right -/
def c118 : ACode :=
(.seq
 (.reg [oo 4 (.move (.c (.bool false)))])
 (.seq
 (.reg [mv 8 0,
 mv 9 1,
 oo 10 (.call 70 [(.t 8), (.t 9)]),
 oo 5 (.new 162 (.c (.agg [.nils, .nils, .nils]))),
 ⟨none, .store 3 (.t 5) (.t 10), none⟩])
 (.seq
 (.seq
 (.reg [mv 11 0,
 oo 12 (.call 155 [(.t 11)]),
 oo 13 (.not (.t 12)),
 mv 14 13,
 og 15 14 false (.load (some 3) (.t 5)),
 og 16 14 false (.call 156 [(.t 15), (.c (.str ⟨#[70, 97, 108, 115, 101]⟩)), (.c (.int .i64 0))]),
 og 17 14 false (.not (.t 16)),
 oo 18 (.pick (.t 14) (.c (.bool true)) (.t 17)),
 mv 19 18,
 og 20 19 false (.load (some 3) (.t 5)),
 og 21 19 false (.call 156 [(.t 20), (.c (.str ⟨#[84, 114, 117, 101]⟩)), (.c (.int .i64 0))]),
 og 22 19 false (.not (.t 21)),
 oo 23 (.pick (.t 19) (.c (.bool true)) (.t 22))])
 (.cond (.t 23)
 (.seq
 (.reg [oo 4 (.move (.c (.bool false)))])
 .ret)
 .skip))
 (.seq
 (.seq
 (.reg [oo 6 (.move (.c (.int .i64 0)))])
 (.block 0
 (.loop
 (.seq
 (.seq
 (.reg [mv 24 6,
 oo 25 (.faddr 1 (.t 5)),
 oo 26 (.load none (.t 25)),
 oo 27 (.len .slice (.t 26)),
 oo 28 (.bin .int .lss (.t 24) (.t 27))])
 (.cond (.t 28)
 .skip
 (.exit 0)))
 (.seq
 (.block 1
 (.seq
 (.reg [oo 31 (.faddr 1 (.t 5)),
 oo 32 (.load none (.t 31)),
 mv 33 6,
 oo 34 (.iaddr 1 (.t 32) (.t 33)),
 oo 35 (.load none (.t 34)),
 oo 36 (.bin .str .eql (.t 35) (.c (.str ⟨#[]⟩))),
 mv 37 36,
 og 38 37 false (.faddr 1 (.t 5)),
 og 39 37 false (.load none (.t 38)),
 og 40 37 false (.faddr 1 (.t 5)),
 og 41 37 false (.load none (.t 40)),
 og 42 37 false (.move (.t 6)),
 og 43 37 false (.iaddr 1 (.t 41) (.t 42)),
 og 44 37 false (.load none (.t 43)),
 og 46 37 false (.move (.t 6)),
 og 45 37 false (.call 126 [(.t 39), (.t 44)]),
 og 47 37 false (.bin .int .neq (.t 45) (.t 46)),
 oo 48 (.pick (.t 37) (.c (.bool true)) (.t 47))])
 (.cond (.t 48)
 (.seq
 (.reg [oo 4 (.move (.c (.bool false)))])
 .ret)
 .skip)))
 (.reg [mv 29 6,
 oo 30 (.bin .int .add (.t 29) (.c (.int .i64 1))),
 mv 6 30]))))))
 (.seq
 (.seq
 (.reg [oo 7 (.move (.c (.int .i64 0)))])
 (.block 2
 (.loop
 (.seq
 (.seq
 (.reg [mv 49 7,
 mv 50 0,
 oo 51 (.len .slice (.t 50)),
 oo 52 (.bin .int .lss (.t 49) (.t 51))])
 (.cond (.t 52)
 .skip
 (.exit 2)))
 (.seq
 (.block 3
 (.seq
 (.reg [oo 55 (.load (some 3) (.t 5)),
 mv 56 0,
 mv 57 7,
 oo 58 (.iaddr 11 (.t 56) (.t 57)),
 oo 59 (.faddr 2 (.t 58)),
 oo 60 (.load (some 9) (.t 59)),
 oo 61 (.call 119 [(.t 55), (.t 60)]),
 oo 62 (.not (.t 61))])
 (.cond (.t 62)
 (.seq
 (.reg [oo 4 (.move (.c (.bool false)))])
 .ret)
 .skip)))
 (.reg [mv 53 7,
 oo 54 (.bin .int .add (.t 53) (.c (.int .i64 1))),
 mv 7 54]))))))
 (.seq
 (.reg [oo 4 (.move (.c (.bool true)))])
 .ret))))))
theorem in118 {args : List AV} {σ : Store} {K : AV → Store → Prop} (hargs : args.length ≤ 63 := by simp) (h : AWP Try.prog Try.f118.ntmps c118 (fun e t s => match e with | .exit _ => False | _ => Res [.slot 4] K t s) (env (argList 0 args)) σ) : ACalls Try.prog 118 args σ K :=
  enter (own := []) Try.func118 (by kernel_rfl) (by kernel_rfl) (by kernel_rfl) hargs h
/-- changeling/changelingref17.Of -/
def c70 : ACode :=
(.seq
 (.reg [oo 4 (.new 162 (.c (.agg [.nils, .nils, .nils])))])
 (.seq
 (.reg [mv 7 0,
 oo 8 (.call 122 [(.t 7)]),
 oo 9 (.build [.nils, .nils, .nils] [(0, 1, (.t 8))]),
 oo 5 (.new 162 (.c (.agg [.nils, .nils, .nils]))),
 ⟨none, .store 3 (.t 5) (.t 9), none⟩])
 (.seq
 (.seq
 (.reg [oo 6 (.move (.c (.int .i64 0)))])
 (.block 0
 (.loop
 (.seq
 (.seq
 (.reg [mv 10 6,
 mv 11 1,
 oo 12 (.len .slice (.t 11)),
 oo 13 (.bin .int .lss (.t 10) (.t 12))])
 (.cond (.t 13)
 .skip
 (.exit 0)))
 (.seq
 (.block 1
 (.seq
 (.reg [oo 16 (.faddr 1 (.t 5)),
 oo 17 (.load none (.t 16)),
 mv 18 1,
 mv 19 6,
 oo 20 (.iaddr 5 (.t 18) (.t 19)),
 oo 21 (.faddr 0 (.t 20)),
 oo 22 (.load none (.t 21)),
 oo 23 (.lit false 9 1 [(.t 22)]),
 oo 24 (.append 9 1 16 (.t 17) (.t 23)),
 oo 25 (.faddr 1 (.t 5)),
 ⟨none, .store 1 (.t 25) (.t 24), none⟩])
 (.reg [oo 26 (.faddr 2 (.t 5)),
 oo 27 (.load none (.t 26)),
 mv 28 1,
 mv 29 6,
 oo 30 (.iaddr 5 (.t 28) (.t 29)),
 oo 31 (.faddr 4 (.t 30)),
 oo 32 (.load none (.t 31)),
 oo 33 (.len .slice (.t 32)),
 oo 34 (.lit false 3 1 [(.t 33)]),
 oo 35 (.append 3 1 8 (.t 27) (.t 34)),
 oo 36 (.faddr 2 (.t 5)),
 ⟨none, .store 1 (.t 36) (.t 35), none⟩])))
 (.reg [mv 14 6,
 oo 15 (.bin .int .add (.t 14) (.c (.int .i64 1))),
 mv 6 15]))))))
 (.seq
 (.reg [oo 37 (.load (some 3) (.t 5)),
 ⟨none, .store 3 (.t 4) (.t 37), none⟩])
 .ret))))
theorem in70 {args : List AV} {σ : Store} {K : AV → Store → Prop} (hargs : args.length ≤ 38 := by simp) (h : AWP Try.prog Try.f70.ntmps c70 (fun e t s => match e with | .exit _ => False | _ => Res [.cell 4 (some 3)] K t s) (env (argList 0 args)) σ) : ACalls Try.prog 70 args σ K :=
  enter (own := []) Try.func70 (by kernel_rfl) (by kernel_rfl) (by kernel_rfl) hargs h
/-- changeling/changelingref15.Names -/
def c122 : ACode :=
(.seq
 (.reg [oo 2 (.move (.c .nils))])
 (.seq
 (.reg [oo 3 (.move (.c .nils))])
 (.seq
 (.seq
 (.reg [oo 4 (.move (.c (.int .i64 0)))])
 (.block 0
 (.loop
 (.seq
 (.seq
 (.reg [mv 5 4,
 mv 6 0,
 oo 7 (.len .slice (.t 6)),
 oo 8 (.bin .int .lss (.t 5) (.t 7))])
 (.cond (.t 8)
 .skip
 (.exit 0)))
 (.seq
 (.block 1
 (.reg [mv 11 3,
 mv 12 0,
 mv 13 4,
 oo 14 (.iaddr 11 (.t 12) (.t 13)),
 oo 15 (.faddr 0 (.t 14)),
 oo 16 (.load none (.t 15)),
 oo 17 (.lit false 9 1 [(.t 16)]),
 oo 18 (.append 9 1 16 (.t 11) (.t 17)),
 mv 3 18]))
 (.reg [mv 9 4,
 oo 10 (.bin .int .add (.t 9) (.c (.int .i64 1))),
 mv 4 10]))))))
 (.seq
 (.reg [mv 19 3,
 mv 2 19])
 .ret))))
theorem in122 {args : List AV} {σ : Store} {K : AV → Store → Prop} (hargs : args.length ≤ 20 := by simp) (h : AWP Try.prog Try.f122.ntmps c122 (fun e t s => match e with | .exit _ => False | _ => Res [.slot 2] K t s) (env (argList 0 args)) σ) : ACalls Try.prog 122 args σ K :=
  enter (own := []) Try.func122 (by kernel_rfl) (by kernel_rfl) (by kernel_rfl) hargs h
/-- changeling/changelingref15.RightSupers -/
def c155 : ACode :=
(.seq
 (.reg [oo 2 (.move (.c (.bool false)))])
 (.seq
 (.reg [mv 5 0,
 oo 6 (.call 122 [(.t 5)]),
 mv 3 6])
 (.seq
 (.seq
 (.reg [oo 4 (.move (.c (.int .i64 0)))])
 (.block 0
 (.loop
 (.seq
 (.seq
 (.reg [mv 7 4,
 mv 8 0,
 oo 9 (.len .slice (.t 8)),
 oo 10 (.bin .int .lss (.t 7) (.t 9))])
 (.cond (.t 10)
 .skip
 (.exit 0)))
 (.seq
 (.block 1
 (.seq
 (.reg [mv 13 0,
 mv 14 4,
 oo 15 (.iaddr 11 (.t 13) (.t 14)),
 oo 16 (.faddr 0 (.t 15)),
 oo 17 (.load none (.t 16)),
 oo 18 (.bin .str .eql (.t 17) (.c (.str ⟨#[]⟩))),
 mv 19 18,
 og 20 19 false (.move (.t 0)),
 og 21 19 false (.move (.t 4)),
 og 22 19 false (.iaddr 11 (.t 20) (.t 21)),
 og 23 19 false (.faddr 0 (.t 22)),
 og 24 19 false (.load none (.t 23)),
 og 25 19 false (.call 50 [(.t 24)]),
 og 26 19 false (.bin .int .gtr (.t 25) (.c (.int .i64 0))),
 oo 27 (.pick (.t 19) (.c (.bool true)) (.t 26)),
 mv 28 27,
 og 29 28 false (.move (.t 3)),
 og 30 28 false (.move (.t 4)),
 og 31 28 false (.cut .slice 1 (.t 29) none (some (.t 30))),
 og 32 28 false (.move (.t 0)),
 og 33 28 false (.move (.t 4)),
 og 34 28 false (.iaddr 11 (.t 32) (.t 33)),
 og 35 28 false (.faddr 0 (.t 34)),
 og 36 28 false (.load none (.t 35)),
 og 37 28 false (.call 52 [(.t 31), (.t 36)]),
 oo 38 (.pick (.t 28) (.c (.bool true)) (.t 37)),
 mv 39 38,
 og 40 39 false (.move (.t 0)),
 og 41 39 false (.move (.t 4)),
 og 42 39 false (.iaddr 11 (.t 40) (.t 41)),
 og 43 39 false (.faddr 1 (.t 42)),
 og 44 39 false (.load none (.t 43)),
 og 45 39 false (.call 92 [(.t 44)]),
 og 46 39 false (.not (.t 45)),
 oo 47 (.pick (.t 39) (.c (.bool true)) (.t 46)),
 mv 48 47,
 og 49 48 false (.move (.t 0)),
 og 50 48 false (.move (.t 4)),
 og 51 48 false (.iaddr 11 (.t 49) (.t 50)),
 og 52 48 false (.faddr 2 (.t 51)),
 og 53 48 false (.load (some 9) (.t 52)),
 og 54 48 false (.call 120 [(.t 53), (.c (.bool true))]),
 og 55 48 false (.not (.t 54)),
 oo 56 (.pick (.t 48) (.c (.bool true)) (.t 55)),
 mv 57 56,
 og 58 57 false (.move (.t 0)),
 og 59 57 false (.move (.t 4)),
 og 60 57 false (.iaddr 11 (.t 58) (.t 59)),
 og 61 57 false (.faddr 2 (.t 60)),
 og 62 57 false (.load (some 9) (.t 61)),
 og 63 57 false (.move (.t 3)),
 og 64 57 false (.move (.t 0)),
 og 65 57 false (.move (.t 4)),
 og 66 57 false (.iaddr 11 (.t 64) (.t 65)),
 og 67 57 false (.faddr 1 (.t 66)),
 og 68 57 false (.load none (.t 67)),
 og 69 57 false (.call 53 [(.t 62), (.t 63), (.t 68)]),
 og 70 57 false (.not (.t 69)),
 oo 71 (.pick (.t 57) (.c (.bool true)) (.t 70))])
 (.cond (.t 71)
 (.seq
 (.reg [oo 2 (.move (.c (.bool false)))])
 .ret)
 .skip)))
 (.reg [mv 11 4,
 oo 12 (.bin .int .add (.t 11) (.c (.int .i64 1))),
 mv 4 12]))))))
 (.seq
 (.reg [oo 2 (.move (.c (.bool true)))])
 .ret))))
theorem in155 {args : List AV} {σ : Store} {K : AV → Store → Prop} (hargs : args.length ≤ 72 := by simp) (h : AWP Try.prog Try.f155.ntmps c155 (fun e t s => match e with | .exit _ => False | _ => Res [.slot 2] K t s) (env (argList 0 args)) σ) : ACalls Try.prog 155 args σ K :=
  enter (own := []) Try.func155 (by kernel_rfl) (by kernel_rfl) (by kernel_rfl) hargs h
/-- changeling/changelingref01.Op -/
def c50 : ACode :=
(.seq
 (.reg [oo 2 (.move (.c (.int .i64 0)))])
 (.seq
 (.reg [oo 5 (.call 90 []),
 mv 3 5])
 (.seq
 (.seq
 (.reg [oo 4 (.move (.c (.int .i64 0)))])
 (.block 0
 (.loop
 (.seq
 (.seq
 (.reg [mv 6 4,
 mv 7 3,
 oo 8 (.len .slice (.t 7)),
 oo 9 (.bin .int .lss (.t 6) (.t 8))])
 (.cond (.t 9)
 .skip
 (.exit 0)))
 (.seq
 (.block 1
 (.seq
 (.reg [mv 12 3,
 mv 13 4,
 oo 14 (.iaddr 1 (.t 12) (.t 13)),
 oo 15 (.load none (.t 14)),
 mv 16 0,
 oo 17 (.bin .str .eql (.t 15) (.t 16))])
 (.cond (.t 17)
 (.seq
 (.reg [mv 18 4,
 oo 19 (.bin .int .add (.t 18) (.c (.int .i64 1))),
 mv 2 19])
 .ret)
 .skip)))
 (.reg [mv 10 4,
 oo 11 (.bin .int .add (.t 10) (.c (.int .i64 1))),
 mv 4 11]))))))
 (.seq
 (.reg [oo 2 (.move (.c (.int .i64 0)))])
 .ret))))
theorem in50 {args : List AV} {σ : Store} {K : AV → Store → Prop} (hargs : args.length ≤ 20 := by simp) (h : AWP Try.prog Try.f50.ntmps c50 (fun e t s => match e with | .exit _ => False | _ => Res [.slot 2] K t s) (env (argList 0 args)) σ) : ACalls Try.prog 50 args σ K :=
  enter (own := []) Try.func50 (by kernel_rfl) (by kernel_rfl) (by kernel_rfl) hargs h
/-- changeling/changelingref01.Names -/
def c90 : ACode :=
(.seq
 (.reg [oo 0 (.move (.c .nils))])
 (.seq
 (.reg [oo 1 (.lit false 9 1 [(.c (.str ⟨#[43]⟩)), (.c (.str ⟨#[45]⟩)), (.c (.str ⟨#[42]⟩)), (.c (.str ⟨#[47]⟩)), (.c (.str ⟨#[37]⟩)), (.c (.str ⟨#[61, 61]⟩)), (.c (.str ⟨#[47, 61]⟩)), (.c (.str ⟨#[60]⟩)), (.c (.str ⟨#[60, 61]⟩)), (.c (.str ⟨#[62]⟩)), (.c (.str ⟨#[62, 61]⟩))]),
 mv 0 1])
 .ret))
theorem in90 {args : List AV} {σ : Store} {K : AV → Store → Prop} (hargs : args.length ≤ 2 := by simp) (h : AWP Try.prog Try.f90.ntmps c90 (fun e t s => match e with | .exit _ => False | _ => Res [.slot 0] K t s) (env (argList 0 args)) σ) : ACalls Try.prog 90 args σ K :=
  enter (own := []) Try.func90 (by kernel_rfl) (by kernel_rfl) (by kernel_rfl) hargs h
/-- changeling/changelingref02.Has -/
def c52 : ACode :=
(.seq
 (.reg [oo 4 (.move (.c (.bool false)))])
 (.seq
 (.seq
 (.reg [oo 5 (.move (.c (.int .i64 0)))])
 (.block 0
 (.loop
 (.seq
 (.seq
 (.reg [mv 6 5,
 mv 7 0,
 oo 8 (.len .slice (.t 7)),
 oo 9 (.bin .int .lss (.t 6) (.t 8))])
 (.cond (.t 9)
 .skip
 (.exit 0)))
 (.seq
 (.block 1
 (.seq
 (.reg [mv 12 0,
 mv 13 5,
 oo 14 (.iaddr 1 (.t 12) (.t 13)),
 oo 15 (.load none (.t 14)),
 mv 16 1,
 oo 17 (.bin .str .eql (.t 15) (.t 16))])
 (.cond (.t 17)
 (.seq
 (.reg [oo 4 (.move (.c (.bool true)))])
 .ret)
 .skip)))
 (.reg [mv 10 5,
 oo 11 (.bin .int .add (.t 10) (.c (.int .i64 1))),
 mv 5 11]))))))
 (.seq
 (.reg [oo 4 (.move (.c (.bool false)))])
 .ret)))
theorem in52 {args : List AV} {σ : Store} {K : AV → Store → Prop} (hargs : args.length ≤ 18 := by simp) (h : AWP Try.prog Try.f52.ntmps c52 (fun e t s => match e with | .exit _ => False | _ => Res [.slot 4] K t s) (env (argList 0 args)) σ) : ACalls Try.prog 52 args σ K :=
  enter (own := []) Try.func52 (by kernel_rfl) (by kernel_rfl) (by kernel_rfl) hargs h
/-- changeling/changelingref14.Locals -/
def c92 : ACode :=
(.seq
 (.reg [oo 2 (.move (.c (.bool false)))])
 (.seq
 (.seq
 (.reg [oo 3 (.move (.c (.int .i64 0)))])
 (.block 0
 (.loop
 (.seq
 (.seq
 (.reg [mv 4 3,
 mv 5 0,
 oo 6 (.len .slice (.t 5)),
 oo 7 (.bin .int .lss (.t 4) (.t 6))])
 (.cond (.t 7)
 .skip
 (.exit 0)))
 (.seq
 (.block 1
 (.seq
 (.reg [mv 10 0,
 mv 11 3,
 oo 12 (.iaddr 1 (.t 10) (.t 11)),
 oo 13 (.load none (.t 12)),
 oo 14 (.call 149 [(.t 13)]),
 oo 15 (.not (.t 14)),
 mv 16 15,
 og 17 16 false (.move (.t 0)),
 og 18 16 false (.move (.t 3)),
 og 19 16 false (.cut .slice 1 (.t 17) none (some (.t 18))),
 og 20 16 false (.move (.t 0)),
 og 21 16 false (.move (.t 3)),
 og 22 16 false (.iaddr 1 (.t 20) (.t 21)),
 og 23 16 false (.load none (.t 22)),
 og 24 16 false (.call 150 [(.t 19), (.t 23)]),
 oo 25 (.pick (.t 16) (.c (.bool true)) (.t 24))])
 (.cond (.t 25)
 (.seq
 (.reg [oo 2 (.move (.c (.bool false)))])
 .ret)
 .skip)))
 (.reg [mv 8 3,
 oo 9 (.bin .int .add (.t 8) (.c (.int .i64 1))),
 mv 3 9]))))))
 (.seq
 (.reg [oo 2 (.move (.c (.bool true)))])
 .ret)))
theorem in92 {args : List AV} {σ : Store} {K : AV → Store → Prop} (hargs : args.length ≤ 26 := by simp) (h : AWP Try.prog Try.f92.ntmps c92 (fun e t s => match e with | .exit _ => False | _ => Res [.slot 2] K t s) (env (argList 0 args)) σ) : ACalls Try.prog 92 args σ K :=
  enter (own := []) Try.func92 (by kernel_rfl) (by kernel_rfl) (by kernel_rfl) hargs h
/-- changeling/changelingref14.Local -/
def c149 : ACode :=
(.seq
 (.reg [oo 2 (.move (.c (.bool false)))])
 (.seq
 (.seq
 (.reg [mv 5 0,
 oo 6 (.len .str (.t 5)),
 oo 7 (.bin .int .lss (.t 6) (.c (.int .i64 2))),
 mv 8 7,
 og 9 8 false (.move (.t 0)),
 og 10 8 false (.index (.t 9) (.c (.int .i64 0))),
 og 11 8 false (.bin .int .neq (.t 10) (.c (.int .u8 35))),
 oo 12 (.pick (.t 8) (.c (.bool true)) (.t 11)),
 mv 13 12,
 og 14 13 false (.move (.t 0)),
 og 15 13 false (.index (.t 14) (.c (.int .i64 1))),
 og 16 13 false (.bin .int .eql (.t 15) (.c (.int .u8 45))),
 oo 17 (.pick (.t 13) (.c (.bool true)) (.t 16))])
 (.cond (.t 17)
 (.seq
 (.reg [oo 2 (.move (.c (.bool false)))])
 .ret)
 .skip))
 (.seq
 (.reg [mv 19 0,
 oo 20 (.cut .str 1 (.t 19) (some (.c (.int .i64 1))) none),
 oo 21 (.call 91 [(.t 20)]),
 mv 18 21,
 oo 22 (.extract (.t 18) 0),
 oo 23 (.extract (.t 18) 1),
 mv 3 22,
 mv 4 23])
 (.seq
 (.reg [mv 24 4,
 oo 25 (.bin .int .eql (.t 24) (.c (.int .i64 0))),
 mv 2 25])
 .ret))))
theorem in149 {args : List AV} {σ : Store} {K : AV → Store → Prop} (hargs : args.length ≤ 26 := by simp) (h : AWP Try.prog Try.f149.ntmps c149 (fun e t s => match e with | .exit _ => False | _ => Res [.slot 2] K t s) (env (argList 0 args)) σ) : ACalls Try.prog 149 args σ K :=
  enter (own := []) Try.func149 (by kernel_rfl) (by kernel_rfl) (by kernel_rfl) hargs h
/-- changeling/changelingref01.Parse -/
def c91 : ACode :=
(.seq
 (.reg [oo 2 (.move (.c (.int .i64 0))),
 oo 3 (.move (.c (.int .i64 0)))])
 (.seq
 (.reg [mv 8 0,
 oo 9 (.len .str (.t 8)),
 oo 10 (.bin .int .gtr (.t 9) (.c (.int .i64 0))),
 mv 11 10,
 og 12 11 true (.move (.t 0)),
 og 13 11 true (.index (.t 12) (.c (.int .i64 0))),
 og 14 11 true (.bin .int .eql (.t 13) (.c (.int .u8 45))),
 oo 15 (.pick (.t 11) (.t 14) (.c (.bool false))),
 mv 4 15])
 (.seq
 (.reg [mv 16 0,
 mv 5 16])
 (.seq
 (.seq
 (.reg [mv 17 4])
 (.cond (.t 17)
 (.reg [mv 18 0,
 oo 19 (.cut .str 1 (.t 18) (some (.c (.int .i64 1))) none),
 mv 5 19])
 .skip))
 (.seq
 (.reg [mv 21 5,
 oo 22 (.call 146 [(.t 21)]),
 mv 20 22,
 oo 23 (.extract (.t 20) 0),
 oo 24 (.extract (.t 20) 1),
 mv 6 23,
 mv 7 24])
 (.seq
 (.seq
 (.reg [mv 25 7,
 oo 26 (.not (.t 25)),
 mv 27 26,
 og 28 27 false (.move (.t 6)),
 og 29 27 false (.bin .int .gtr (.t 28) (.c (.int .u64 9223372036854775808))),
 oo 30 (.pick (.t 27) (.c (.bool true)) (.t 29)),
 mv 31 30,
 og 32 31 false (.move (.t 6)),
 og 33 31 false (.move (.t 4)),
 og 34 31 false (.call 148 [(.t 32), (.t 33)]),
 og 35 31 false (.call 147 [(.t 34)]),
 og 36 31 false (.move (.t 0)),
 og 37 31 false (.bin .str .neq (.t 35) (.t 36)),
 oo 38 (.pick (.t 31) (.c (.bool true)) (.t 37))])
 (.cond (.t 38)
 (.seq
 (.reg [oo 2 (.move (.c (.int .i64 0))),
 oo 3 (.move (.c (.int .i64 11)))])
 .ret)
 .skip))
 (.seq
 (.reg [mv 39 6,
 mv 40 4,
 oo 41 (.call 148 [(.t 39), (.t 40)]),
 mv 2 41,
 oo 3 (.move (.c (.int .i64 0)))])
 .ret)))))))
theorem in91 {args : List AV} {σ : Store} {K : AV → Store → Prop} (hargs : args.length ≤ 42 := by simp) (h : AWP Try.prog Try.f91.ntmps c91 (fun e t s => match e with | .exit _ => False | _ => Res [.slot 2, .slot 3] K t s) (env (argList 0 args)) σ) : ACalls Try.prog 91 args σ K :=
  enter (own := []) Try.func91 (by kernel_rfl) (by kernel_rfl) (by kernel_rfl) hargs h
/-- changeling/changelingref01.plain -/
def c146 : ACode :=
(.seq
 (.reg [oo 2 (.move (.c (.int .u64 0))),
 oo 3 (.move (.c (.bool false)))])
 (.seq
 (.seq
 (.reg [mv 6 0,
 oo 7 (.len .str (.t 6)),
 oo 8 (.bin .int .eql (.t 7) (.c (.int .i64 0))),
 mv 9 8,
 og 10 9 false (.move (.t 0)),
 og 11 9 false (.len .str (.t 10)),
 og 12 9 false (.bin .int .gtr (.t 11) (.c (.int .i64 19))),
 oo 13 (.pick (.t 9) (.c (.bool true)) (.t 12))])
 (.cond (.t 13)
 (.seq
 (.reg [oo 2 (.move (.c (.int .u64 0))),
 oo 3 (.move (.c (.bool false)))])
 .ret)
 .skip))
 (.seq
 (.reg [oo 4 (.move (.c (.int .u64 0)))])
 (.seq
 (.seq
 (.reg [oo 5 (.move (.c (.int .i64 0)))])
 (.block 0
 (.loop
 (.seq
 (.seq
 (.reg [mv 14 5,
 mv 15 0,
 oo 16 (.len .str (.t 15)),
 oo 17 (.bin .int .lss (.t 14) (.t 16))])
 (.cond (.t 17)
 .skip
 (.exit 0)))
 (.seq
 (.block 1
 (.seq
 (.seq
 (.reg [mv 20 0,
 mv 21 5,
 oo 22 (.index (.t 20) (.t 21)),
 oo 23 (.bin .int .lss (.t 22) (.c (.int .u8 48))),
 mv 24 23,
 og 25 24 false (.move (.t 0)),
 og 26 24 false (.move (.t 5)),
 og 27 24 false (.index (.t 25) (.t 26)),
 og 28 24 false (.bin .int .gtr (.t 27) (.c (.int .u8 57))),
 oo 29 (.pick (.t 24) (.c (.bool true)) (.t 28))])
 (.cond (.t 29)
 (.seq
 (.reg [oo 2 (.move (.c (.int .u64 0))),
 oo 3 (.move (.c (.bool false)))])
 .ret)
 .skip))
 (.reg [mv 30 4,
 oo 31 (.bin .int .mul (.t 30) (.c (.int .u64 10))),
 mv 32 0,
 mv 33 5,
 oo 34 (.index (.t 32) (.t 33)),
 oo 35 (.bin .int .sub (.t 34) (.c (.int .u8 48))),
 oo 36 (.conv .u64 (.t 35)),
 oo 37 (.bin .int .add (.t 31) (.t 36)),
 mv 4 37])))
 (.reg [mv 18 5,
 oo 19 (.bin .int .add (.t 18) (.c (.int .i64 1))),
 mv 5 19]))))))
 (.seq
 (.reg [mv 38 4,
 mv 2 38,
 oo 3 (.move (.c (.bool true)))])
 .ret)))))
theorem in146 {args : List AV} {σ : Store} {K : AV → Store → Prop} (hargs : args.length ≤ 39 := by simp) (h : AWP Try.prog Try.f146.ntmps c146 (fun e t s => match e with | .exit _ => False | _ => Res [.slot 2, .slot 3] K t s) (env (argList 0 args)) σ) : ACalls Try.prog 146 args σ K :=
  enter (own := []) Try.func146 (by kernel_rfl) (by kernel_rfl) (by kernel_rfl) hargs h
/-- changeling/changelingref01.signed -/
def c148 : ACode :=
(.seq
 (.reg [oo 4 (.move (.c (.int .i64 0)))])
 (.seq
 (.seq
 (.reg [mv 5 1])
 (.cond (.t 5)
 (.seq
 (.reg [mv 6 0,
 oo 7 (.bin .int .sub (.c (.int .u64 0)) (.t 6)),
 oo 8 (.conv .i64 (.t 7)),
 mv 4 8])
 .ret)
 .skip))
 (.seq
 (.reg [mv 9 0,
 oo 10 (.conv .i64 (.t 9)),
 mv 4 10])
 .ret)))
theorem in148 {args : List AV} {σ : Store} {K : AV → Store → Prop} (hargs : args.length ≤ 11 := by simp) (h : AWP Try.prog Try.f148.ntmps c148 (fun e t s => match e with | .exit _ => False | _ => Res [.slot 4] K t s) (env (argList 0 args)) σ) : ACalls Try.prog 148 args σ K :=
  enter (own := []) Try.func148 (by kernel_rfl) (by kernel_rfl) (by kernel_rfl) hargs h
/-- changeling/changelingref01.Text -/
def c147 : ACode :=
(.seq
 (.reg [oo 2 (.move (.c (.str ⟨#[]⟩)))])
 (.seq
 (.seq
 (.reg [mv 3 0,
 oo 4 (.bin .int .lss (.t 3) (.c (.int .i64 0)))])
 (.cond (.t 4)
 (.seq
 (.reg [mv 5 0,
 oo 6 (.call 162 [(.t 5)]),
 oo 7 (.call 161 [(.t 6)]),
 oo 8 (.bin .str .add (.c (.str ⟨#[45]⟩)) (.t 7)),
 mv 2 8])
 .ret)
 .skip))
 (.seq
 (.reg [mv 9 0,
 oo 10 (.call 162 [(.t 9)]),
 oo 11 (.call 161 [(.t 10)]),
 mv 2 11])
 .ret)))
theorem in147 {args : List AV} {σ : Store} {K : AV → Store → Prop} (hargs : args.length ≤ 12 := by simp) (h : AWP Try.prog Try.f147.ntmps c147 (fun e t s => match e with | .exit _ => False | _ => Res [.slot 2] K t s) (env (argList 0 args)) σ) : ACalls Try.prog 147 args σ K :=
  enter (own := []) Try.func147 (by kernel_rfl) (by kernel_rfl) (by kernel_rfl) hargs h
/-- changeling/changelingref01.Size -/
def c162 : ACode :=
(.seq
 (.reg [oo 2 (.move (.c (.int .u64 0)))])
 (.seq
 (.seq
 (.reg [mv 3 0,
 oo 4 (.bin .int .lss (.t 3) (.c (.int .i64 0)))])
 (.cond (.t 4)
 (.seq
 (.reg [mv 5 0,
 oo 6 (.conv .u64 (.t 5)),
 oo 7 (.bin .int .sub (.c (.int .u64 0)) (.t 6)),
 mv 2 7])
 .ret)
 .skip))
 (.seq
 (.reg [mv 8 0,
 oo 9 (.conv .u64 (.t 8)),
 mv 2 9])
 .ret)))
theorem in162 {args : List AV} {σ : Store} {K : AV → Store → Prop} (hargs : args.length ≤ 10 := by simp) (h : AWP Try.prog Try.f162.ntmps c162 (fun e t s => match e with | .exit _ => False | _ => Res [.slot 2] K t s) (env (argList 0 args)) σ) : ACalls Try.prog 162 args σ K :=
  enter (own := []) Try.func162 (by kernel_rfl) (by kernel_rfl) (by kernel_rfl) hargs h
/-- changeling/changelingref01.Digits -/
def c161 : ACode :=
(.seq
 (.reg [oo 2 (.move (.c (.str ⟨#[]⟩)))])
 (.seq
 (.seq
 (.reg [mv 3 0,
 oo 4 (.bin .int .lss (.t 3) (.c (.int .u64 10)))])
 (.cond (.t 4)
 (.seq
 (.reg [mv 5 0,
 mv 6 0,
 oo 7 (.bin .int .add (.t 6) (.c (.int .u64 1))),
 oo 8 (.cut .str 1 (.c (.str ⟨#[48, 49, 50, 51, 52, 53, 54, 55, 56, 57]⟩)) (some (.t 5)) (some (.t 7))),
 mv 2 8])
 .ret)
 .skip))
 (.seq
 (.draw [] [([⟨(some 9), .move (.t 0), none⟩], []),
 ([⟨(some 10), .bin .int .quo (.t 9) (.c (.int .u64 10)), none⟩], []),
 ([⟨(some 12), .move (.t 0), none⟩], []),
 ([⟨(some 13), .bin .int .rem (.t 12) (.c (.int .u64 10)), none⟩], []),
 ([⟨(some 14), .move (.t 0), none⟩], []),
 ([⟨(some 15), .bin .int .rem (.t 14) (.c (.int .u64 10)), none⟩], []),
 ([⟨(some 16), .bin .int .add (.t 15) (.c (.int .u64 1)), none⟩], []),
 ([⟨(some 17), .cut .str 1 (.c (.str ⟨#[48, 49, 50, 51, 52, 53, 54, 55, 56, 57]⟩)) (some (.t 13)) (some (.t 16)), none⟩], []),
 ([⟨(some 11), .call 161 [(.t 10)], none⟩], [⟨(some 17), .cut .str 1 (.c (.str ⟨#[48, 49, 50, 51, 52, 53, 54, 55, 56, 57]⟩)) (some (.t 13)) (some (.t 16)), none⟩]),
 ([⟨(some 18), .bin .str .add (.t 11) (.t 17), none⟩], []),
 ([⟨(some 2), .move (.t 18), none⟩], [])])
 .ret)))
theorem in161 {args : List AV} {σ : Store} {K : AV → Store → Prop} (hargs : args.length ≤ 19 := by simp) (h : AWP Try.prog Try.f161.ntmps c161 (fun e t s => match e with | .exit _ => False | _ => Res [.slot 2] K t s) (env (argList 0 args)) σ) : ACalls Try.prog 161 args σ K :=
  enter (own := []) Try.func161 (by kernel_rfl) (by kernel_rfl) (by kernel_rfl) hargs h
/-- changeling/changelingref14.Has -/
def c150 : ACode :=
(.seq
 (.reg [oo 4 (.move (.c (.bool false)))])
 (.seq
 (.seq
 (.reg [oo 5 (.move (.c (.int .i64 0)))])
 (.block 0
 (.loop
 (.seq
 (.seq
 (.reg [mv 6 5,
 mv 7 0,
 oo 8 (.len .slice (.t 7)),
 oo 9 (.bin .int .lss (.t 6) (.t 8))])
 (.cond (.t 9)
 .skip
 (.exit 0)))
 (.seq
 (.block 1
 (.seq
 (.reg [mv 12 0,
 mv 13 5,
 oo 14 (.iaddr 1 (.t 12) (.t 13)),
 oo 15 (.load none (.t 14)),
 mv 16 1,
 oo 17 (.bin .str .eql (.t 15) (.t 16))])
 (.cond (.t 17)
 (.seq
 (.reg [oo 4 (.move (.c (.bool true)))])
 .ret)
 .skip)))
 (.reg [mv 10 5,
 oo 11 (.bin .int .add (.t 10) (.c (.int .i64 1))),
 mv 5 11]))))))
 (.seq
 (.reg [oo 4 (.move (.c (.bool false)))])
 .ret)))
theorem in150 {args : List AV} {σ : Store} {K : AV → Store → Prop} (hargs : args.length ≤ 18 := by simp) (h : AWP Try.prog Try.f150.ntmps c150 (fun e t s => match e with | .exit _ => False | _ => Res [.slot 4] K t s) (env (argList 0 args)) σ) : ACalls Try.prog 150 args σ K :=
  enter (own := []) Try.func150 (by kernel_rfl) (by kernel_rfl) (by kernel_rfl) hargs h
/-- changeling/changelingref15.Flat -/
def c120 : ACode :=
(.seq
 (.reg [oo 2 (.new 54 (.t 0)),
 oo 4 (.move (.c (.bool false)))])
 (.seq
 (.seq
 (.reg [oo 9 (.faddr 0 (.t 2)),
 oo 10 (.load none (.t 9)),
 oo 11 (.bin .int .eql (.t 10) (.c (.int .i64 6))),
 mv 12 11,
 og 13 12 false (.move (.t 1)),
 og 14 12 false (.not (.t 13)),
 og 15 12 false (.move (.t 14)),
 og 16 15 true (.faddr 0 (.t 2)),
 og 17 15 true (.load none (.t 16)),
 og 18 15 true (.bin .int .eql (.t 17) (.c (.int .i64 8))),
 og 19 15 true (.move (.t 18)),
 og 20 19 false (.faddr 0 (.t 2)),
 og 21 19 false (.load none (.t 20)),
 og 22 19 false (.bin .int .eql (.t 21) (.c (.int .i64 11))),
 og 23 15 true (.pick (.t 19) (.c (.bool true)) (.t 22)),
 og 24 15 true (.move (.t 23)),
 og 25 24 false (.faddr 0 (.t 2)),
 og 26 24 false (.load none (.t 25)),
 og 27 24 false (.bin .int .eql (.t 26) (.c (.int .i64 10))),
 og 28 15 true (.pick (.t 24) (.c (.bool true)) (.t 27)),
 og 29 12 false (.pick (.t 15) (.t 28) (.c (.bool false))),
 oo 30 (.pick (.t 12) (.c (.bool true)) (.t 29))])
 (.cond (.t 30)
 (.seq
 (.reg [oo 4 (.move (.c (.bool false)))])
 .ret)
 .skip))
 (.seq
 (.seq
 (.reg [oo 5 (.move (.c (.int .i64 0)))])
 (.block 0
 (.loop
 (.seq
 (.seq
 (.reg [mv 31 5,
 oo 32 (.faddr 5 (.t 2)),
 oo 33 (.load none (.t 32)),
 oo 34 (.len .slice (.t 33)),
 oo 35 (.bin .int .lss (.t 31) (.t 34))])
 (.cond (.t 35)
 .skip
 (.exit 0)))
 (.seq
 (.block 1
 (.seq
 (.reg [oo 38 (.faddr 5 (.t 2)),
 oo 39 (.load none (.t 38)),
 mv 40 5,
 oo 41 (.iaddr 9 (.t 39) (.t 40)),
 oo 42 (.load (some 9) (.t 41)),
 mv 43 1,
 mv 44 43,
 og 45 44 true (.faddr 0 (.t 2)),
 og 46 44 true (.load none (.t 45)),
 og 47 44 true (.bin .int .neq (.t 46) (.c (.int .i64 5))),
 oo 48 (.pick (.t 44) (.t 47) (.c (.bool false))),
 oo 49 (.call 120 [(.t 42), (.t 48)]),
 oo 50 (.not (.t 49))])
 (.cond (.t 50)
 (.seq
 (.reg [oo 4 (.move (.c (.bool false)))])
 .ret)
 .skip)))
 (.reg [mv 36 5,
 oo 37 (.bin .int .add (.t 36) (.c (.int .i64 1))),
 mv 5 37]))))))
 (.seq
 (.seq
 (.reg [oo 6 (.move (.c (.int .i64 0)))])
 (.block 2
 (.loop
 (.seq
 (.seq
 (.reg [mv 51 6,
 oo 52 (.faddr 6 (.t 2)),
 oo 53 (.load none (.t 52)),
 oo 54 (.len .slice (.t 53)),
 oo 55 (.bin .int .lss (.t 51) (.t 54))])
 (.cond (.t 55)
 .skip
 (.exit 2)))
 (.seq
 (.block 3
 (.seq
 (.reg [oo 58 (.faddr 6 (.t 2)),
 oo 59 (.load none (.t 58)),
 mv 60 6,
 oo 61 (.iaddr 13 (.t 59) (.t 60)),
 oo 62 (.faddr 4 (.t 61)),
 oo 63 (.load (some 9) (.t 62)),
 mv 64 1,
 oo 65 (.call 120 [(.t 63), (.t 64)]),
 oo 66 (.not (.t 65))])
 (.cond (.t 66)
 (.seq
 (.reg [oo 4 (.move (.c (.bool false)))])
 .ret)
 .skip)))
 (.reg [mv 56 6,
 oo 57 (.bin .int .add (.t 56) (.c (.int .i64 1))),
 mv 6 57]))))))
 (.seq
 (.seq
 (.reg [oo 7 (.move (.c (.int .i64 0)))])
 (.block 4
 (.loop
 (.seq
 (.seq
 (.reg [mv 67 7,
 oo 68 (.faddr 7 (.t 2)),
 oo 69 (.load none (.t 68)),
 oo 70 (.len .slice (.t 69)),
 oo 71 (.bin .int .lss (.t 67) (.t 70))])
 (.cond (.t 71)
 .skip
 (.exit 4)))
 (.seq
 (.block 5
 (.seq
 (.reg [oo 74 (.faddr 7 (.t 2)),
 oo 75 (.load none (.t 74)),
 mv 76 7,
 oo 77 (.iaddr 10 (.t 75) (.t 76)),
 oo 78 (.faddr 1 (.t 77)),
 oo 79 (.load (some 9) (.t 78)),
 oo 80 (.call 120 [(.t 79), (.c (.bool false))]),
 oo 81 (.not (.t 80))])
 (.cond (.t 81)
 (.seq
 (.reg [oo 4 (.move (.c (.bool false)))])
 .ret)
 .skip)))
 (.reg [mv 72 7,
 oo 73 (.bin .int .add (.t 72) (.c (.int .i64 1))),
 mv 7 73]))))))
 (.seq
 (.seq
 (.reg [oo 8 (.move (.c (.int .i64 0)))])
 (.block 6
 (.loop
 (.seq
 (.seq
 (.reg [mv 82 8,
 oo 83 (.faddr 8 (.t 2)),
 oo 84 (.load none (.t 83)),
 oo 85 (.len .slice (.t 84)),
 oo 86 (.bin .int .lss (.t 82) (.t 85))])
 (.cond (.t 86)
 .skip
 (.exit 6)))
 (.seq
 (.block 7
 (.seq
 (.reg [oo 89 (.faddr 8 (.t 2)),
 oo 90 (.load none (.t 89)),
 mv 91 8,
 oo 92 (.iaddr 10 (.t 90) (.t 91)),
 oo 93 (.faddr 1 (.t 92)),
 oo 94 (.load (some 9) (.t 93)),
 mv 95 1,
 oo 96 (.call 120 [(.t 94), (.t 95)]),
 oo 97 (.not (.t 96))])
 (.cond (.t 97)
 (.seq
 (.reg [oo 4 (.move (.c (.bool false)))])
 .ret)
 .skip)))
 (.reg [mv 87 8,
 oo 88 (.bin .int .add (.t 87) (.c (.int .i64 1))),
 mv 8 88]))))))
 (.seq
 (.reg [oo 4 (.move (.c (.bool true)))])
 .ret)))))))
theorem in120 {args : List AV} {σ : Store} {K : AV → Store → Prop} (hargs : args.length ≤ 98 := by simp) (h : AWP Try.prog Try.f120.ntmps c120 (fun e t s => match e with | .exit _ => False | _ => Res [.slot 4] K t s) (env (argList 0 args)) σ) : ACalls Try.prog 120 args σ K :=
  enter (own := []) Try.func120 (by kernel_rfl) (by kernel_rfl) (by kernel_rfl) hargs h
/-- changeling/changelingref15.right -/
def c53 : ACode :=
(.seq
 (.reg [oo 3 (.new 54 (.t 0)),
 oo 6 (.move (.c (.bool false)))])
 (.seq
 (.reg [oo 18 (.lit false 3 1 [(.c (.int .i64 0)), (.c (.int .i64 0)), (.c (.int .i64 0)), (.c (.int .i64 0)), (.c (.int .i64 0))]),
 mv 7 18])
 (.seq
 (.reg [oo 8 (.move (.c (.str ⟨#[]⟩))),
 oo 9 (.move (.c (.int .i64 0))),
 oo 10 (.move (.c (.int .i64 0)))])
 (.seq
 (.reg [mv 19 2,
 mv 11 19])
 (.seq
 (.reg [oo 12 (.move (.c (.bool true)))])
 (.seq
 (.seq
 (.reg [oo 20 (.faddr 0 (.t 3)),
 oo 21 (.load none (.t 20))])
 (.block 0
 (.seq
 (.reg [oo 23 (.bin .int .eql (.t 21) (.c (.int .i64 1))),
 mv 22 23])
 (.cond (.t 22)
 (.seq
 (.reg [oo 24 (.faddr 1 (.t 3)),
 oo 25 (.load none (.t 24)),
 mv 8 25])
 (.reg [mv 26 2,
 oo 27 (.faddr 1 (.t 3)),
 oo 28 (.load none (.t 27)),
 oo 29 (.call 52 [(.t 26), (.t 28)]),
 mv 12 29]))
 (.seq
 (.reg [oo 31 (.bin .int .eql (.t 21) (.c (.int .i64 2))),
 mv 30 31])
 (.cond (.t 30)
 (.seq
 (.reg [oo 32 (.faddr 1 (.t 3)),
 oo 33 (.load none (.t 32)),
 mv 8 33])
 (.reg [mv 34 1,
 oo 35 (.faddr 1 (.t 3)),
 oo 36 (.load none (.t 35)),
 oo 37 (.call 52 [(.t 34), (.t 36)]),
 mv 38 37,
 og 39 38 false (.faddr 1 (.t 3)),
 og 40 38 false (.load none (.t 39)),
 og 41 38 false (.call 50 [(.t 40)]),
 og 42 38 false (.bin .int .gtr (.t 41) (.c (.int .i64 0))),
 oo 43 (.pick (.t 38) (.c (.bool true)) (.t 42)),
 mv 12 43]))
 (.seq
 (.reg [oo 45 (.bin .int .eql (.t 21) (.c (.int .i64 3))),
 mv 44 45])
 (.cond (.t 44)
 (.reg [oo 46 (.faddr 2 (.t 3)),
 oo 47 (.load none (.t 46)),
 mv 9 47])
 (.seq
 (.reg [oo 49 (.bin .int .eql (.t 21) (.c (.int .i64 10))),
 mv 48 49])
 (.cond (.t 48)
 (.reg [oo 12 (.move (.c (.bool true)))])
 (.seq
 (.reg [oo 51 (.bin .int .eql (.t 21) (.c (.int .i64 4))),
 mv 50 51])
 (.cond (.t 50)
 (.seq
 (.reg [oo 52 (.faddr 1 (.t 3)),
 oo 53 (.load none (.t 52)),
 mv 8 53])
 (.seq
 (.reg [oo 54 (.faddr 2 (.t 3)),
 oo 55 (.load none (.t 54)),
 mv 9 55])
 (.seq
 (.reg [oo 56 (.faddr 3 (.t 3)),
 oo 57 (.load none (.t 56)),
 mv 10 57])
 (.reg [oo 58 (.faddr 1 (.t 3)),
 oo 59 (.load none (.t 58)),
 oo 60 (.bin .str .neq (.t 59) (.c (.str ⟨#[]⟩))),
 mv 61 60,
 og 62 61 true (.faddr 2 (.t 3)),
 og 63 61 true (.load none (.t 62)),
 og 64 61 true (.bin .int .geq (.t 63) (.c (.int .i64 0))),
 oo 65 (.pick (.t 61) (.t 64) (.c (.bool false))),
 mv 66 65,
 og 67 66 true (.faddr 3 (.t 3)),
 og 68 66 true (.load none (.t 67)),
 og 69 66 true (.bin .int .geq (.t 68) (.c (.int .i64 0))),
 oo 70 (.pick (.t 66) (.t 69) (.c (.bool false))),
 mv 12 70]))))
 (.seq
 (.reg [oo 72 (.bin .int .eql (.t 21) (.c (.int .i64 5))),
 mv 71 72])
 (.cond (.t 71)
 (.reg [oo 73 (.lit false 3 1 [(.c (.int .i64 0)), (.c (.int .i64 2)), (.c (.int .i64 0)), (.c (.int .i64 0)), (.c (.int .i64 0))]),
 mv 7 73])
 (.seq
 (.reg [oo 75 (.bin .int .eql (.t 21) (.c (.int .i64 9))),
 mv 74 75])
 (.cond (.t 74)
 (.seq
 (.reg [oo 76 (.lit false 3 1 [(.c (.int .i64 0)), (.c (.int .i64 2)), (.c (.int .i64 0)), (.c (.int .i64 0)), (.c (.int .i64 0))]),
 mv 7 76])
 (.seq
 (.reg [oo 77 (.faddr 2 (.t 3)),
 oo 78 (.load none (.t 77)),
 mv 9 78])
 (.reg [oo 79 (.faddr 2 (.t 3)),
 oo 80 (.load none (.t 79)),
 oo 81 (.bin .int .geq (.t 80) (.c (.int .i64 1))),
 mv 82 81,
 og 83 82 true (.faddr 2 (.t 3)),
 og 84 82 true (.load none (.t 83)),
 og 85 82 true (.bin .int .leq (.t 84) (.c (.int .i64 11))),
 oo 86 (.pick (.t 82) (.t 85) (.c (.bool false))),
 mv 12 86])))
 (.seq
 (.reg [oo 88 (.bin .int .eql (.t 21) (.c (.int .i64 6))),
 mv 87 88])
 (.cond (.t 87)
 (.seq
 (.reg [oo 89 (.faddr 4 (.t 3)),
 oo 90 (.load none (.t 89)),
 oo 91 (.len .slice (.t 90)),
 oo 92 (.lit false 3 1 [(.t 91), (.c (.int .i64 1)), (.c (.int .i64 0)), (.c (.int .i64 0)), (.c (.int .i64 0))]),
 mv 7 92])
 (.seq
 (.reg [oo 93 (.faddr 4 (.t 3)),
 oo 94 (.load none (.t 93)),
 oo 95 (.len .slice (.t 94)),
 oo 96 (.bin .int .gtr (.t 95) (.c (.int .i64 0))),
 mv 97 96,
 og 98 97 true (.faddr 4 (.t 3)),
 og 99 97 true (.load none (.t 98)),
 og 100 97 true (.call 92 [(.t 99)]),
 oo 101 (.pick (.t 97) (.t 100) (.c (.bool false))),
 mv 12 101])
 (.reg [mv 102 2,
 oo 103 (.faddr 4 (.t 3)),
 oo 104 (.load none (.t 103)),
 oo 105 (.call 93 [(.t 102), (.t 104)]),
 mv 11 105])))
 (.seq
 (.reg [oo 107 (.bin .int .eql (.t 21) (.c (.int .i64 7))),
 mv 106 107])
 (.cond (.t 106)
 (.seq
 (.reg [oo 108 (.faddr 7 (.t 3)),
 oo 109 (.load none (.t 108)),
 oo 110 (.len .slice (.t 109)),
 oo 111 (.lit false 3 1 [(.c (.int .i64 0)), (.c (.int .i64 1)), (.c (.int .i64 0)), (.t 110), (.c (.int .i64 0))]),
 mv 7 111])
 (.seq
 (.reg [oo 112 (.faddr 7 (.t 3)),
 oo 113 (.load none (.t 112)),
 oo 114 (.len .slice (.t 113)),
 oo 115 (.bin .int .gtr (.t 114) (.c (.int .i64 0))),
 mv 116 115,
 og 117 116 true (.faddr 7 (.t 3)),
 og 118 116 true (.load none (.t 117)),
 og 119 116 true (.call 94 [(.t 118)]),
 og 120 116 true (.call 92 [(.t 119)]),
 oo 121 (.pick (.t 116) (.t 120) (.c (.bool false))),
 mv 12 121])
 (.reg [mv 122 2,
 oo 123 (.faddr 7 (.t 3)),
 oo 124 (.load none (.t 123)),
 oo 125 (.call 94 [(.t 124)]),
 oo 126 (.call 93 [(.t 122), (.t 125)]),
 mv 11 126])))
 (.seq
 (.reg [oo 128 (.bin .int .eql (.t 21) (.c (.int .i64 8))),
 mv 127 128])
 (.cond (.t 127)
 (.seq
 (.reg [oo 129 (.faddr 6 (.t 3)),
 oo 130 (.load none (.t 129)),
 oo 131 (.len .slice (.t 130)),
 oo 132 (.lit false 3 1 [(.c (.int .i64 0)), (.c (.int .i64 1)), (.t 131), (.c (.int .i64 0)), (.c (.int .i64 0))]),
 mv 7 132])
 (.reg [oo 133 (.faddr 6 (.t 3)),
 oo 134 (.load none (.t 133)),
 oo 135 (.len .slice (.t 134)),
 oo 136 (.bin .int .gtr (.t 135) (.c (.int .i64 0))),
 mv 12 136]))
 (.seq
 (.reg [oo 138 (.bin .int .eql (.t 21) (.c (.int .i64 11))),
 mv 137 138])
 (.cond (.t 137)
 (.reg [oo 139 (.faddr 8 (.t 3)),
 oo 140 (.load none (.t 139)),
 oo 141 (.len .slice (.t 140)),
 oo 142 (.lit false 3 1 [(.c (.int .i64 0)), (.c (.int .i64 1)), (.c (.int .i64 0)), (.c (.int .i64 0)), (.t 141)]),
 mv 7 142])
 (.seq
 (.reg [oo 6 (.move (.c (.bool false)))])
 .ret)))))))))))))))))))))))))
 (.seq
 (.seq
 (.reg [mv 143 12,
 oo 144 (.not (.t 143)),
 mv 145 144,
 og 146 145 false (.faddr 1 (.t 3)),
 og 147 145 false (.load none (.t 146)),
 og 148 145 false (.move (.t 8)),
 og 149 145 false (.bin .str .neq (.t 147) (.t 148)),
 oo 150 (.pick (.t 145) (.c (.bool true)) (.t 149)),
 mv 151 150,
 og 152 151 false (.faddr 2 (.t 3)),
 og 153 151 false (.load none (.t 152)),
 og 154 151 false (.move (.t 9)),
 og 155 151 false (.bin .int .neq (.t 153) (.t 154)),
 oo 156 (.pick (.t 151) (.c (.bool true)) (.t 155)),
 mv 157 156,
 og 158 157 false (.faddr 3 (.t 3)),
 og 159 157 false (.load none (.t 158)),
 og 160 157 false (.move (.t 10)),
 og 161 157 false (.bin .int .neq (.t 159) (.t 160)),
 oo 162 (.pick (.t 157) (.c (.bool true)) (.t 161)),
 mv 163 162,
 og 164 163 false (.load (some 9) (.t 3)),
 og 165 163 false (.call 96 [(.t 164)]),
 og 166 163 false (.move (.t 7)),
 og 167 163 false (.call 95 [(.t 165), (.t 166)]),
 og 168 163 false (.not (.t 167)),
 oo 169 (.pick (.t 163) (.c (.bool true)) (.t 168))])
 (.cond (.t 169)
 (.seq
 (.reg [oo 6 (.move (.c (.bool false)))])
 .ret)
 .skip))
 (.seq
 (.seq
 (.reg [oo 13 (.move (.c (.int .i64 0)))])
 (.block 1
 (.loop
 (.seq
 (.seq
 (.reg [mv 170 13,
 oo 171 (.faddr 5 (.t 3)),
 oo 172 (.load none (.t 171)),
 oo 173 (.len .slice (.t 172)),
 oo 174 (.bin .int .lss (.t 170) (.t 173))])
 (.cond (.t 174)
 .skip
 (.exit 1)))
 (.seq
 (.block 2
 (.reg [mv 177 12,
 mv 178 177,
 og 179 178 true (.faddr 5 (.t 3)),
 og 180 178 true (.load none (.t 179)),
 og 181 178 true (.move (.t 13)),
 og 182 178 true (.iaddr 9 (.t 180) (.t 181)),
 og 183 178 true (.load (some 9) (.t 182)),
 og 184 178 true (.move (.t 1)),
 og 185 178 true (.move (.t 11)),
 og 186 178 true (.call 53 [(.t 183), (.t 184), (.t 185)]),
 oo 187 (.pick (.t 178) (.t 186) (.c (.bool false))),
 mv 12 187]))
 (.reg [mv 175 13,
 oo 176 (.bin .int .add (.t 175) (.c (.int .i64 1))),
 mv 13 176]))))))
 (.seq
 (.seq
 (.reg [oo 14 (.move (.c (.int .i64 0)))])
 (.block 3
 (.loop
 (.seq
 (.seq
 (.reg [mv 188 14,
 oo 189 (.faddr 7 (.t 3)),
 oo 190 (.load none (.t 189)),
 oo 191 (.len .slice (.t 190)),
 oo 192 (.bin .int .lss (.t 188) (.t 191))])
 (.cond (.t 192)
 .skip
 (.exit 3)))
 (.seq
 (.block 4
 (.reg [mv 195 12,
 mv 196 195,
 og 197 196 true (.faddr 7 (.t 3)),
 og 198 196 true (.load none (.t 197)),
 og 199 196 true (.move (.t 14)),
 og 200 196 true (.iaddr 10 (.t 198) (.t 199)),
 og 201 196 true (.faddr 1 (.t 200)),
 og 202 196 true (.load (some 9) (.t 201)),
 og 203 196 true (.move (.t 1)),
 og 204 196 true (.move (.t 11)),
 og 205 196 true (.call 53 [(.t 202), (.t 203), (.t 204)]),
 oo 206 (.pick (.t 196) (.t 205) (.c (.bool false))),
 mv 12 206]))
 (.reg [mv 193 14,
 oo 194 (.bin .int .add (.t 193) (.c (.int .i64 1))),
 mv 14 194]))))))
 (.seq
 (.seq
 (.reg [oo 15 (.move (.c (.int .i64 0)))])
 (.block 5
 (.loop
 (.seq
 (.seq
 (.reg [mv 207 15,
 oo 208 (.faddr 8 (.t 3)),
 oo 209 (.load none (.t 208)),
 oo 210 (.len .slice (.t 209)),
 oo 211 (.bin .int .lss (.t 207) (.t 210))])
 (.cond (.t 211)
 .skip
 (.exit 5)))
 (.seq
 (.block 6
 (.seq
 (.reg [mv 214 12,
 mv 215 214,
 og 216 215 true (.faddr 8 (.t 3)),
 og 217 215 true (.load none (.t 216)),
 og 218 215 true (.move (.t 15)),
 og 219 215 true (.iaddr 10 (.t 217) (.t 218)),
 og 220 215 true (.faddr 1 (.t 219)),
 og 221 215 true (.load (some 9) (.t 220)),
 og 222 215 true (.move (.t 1)),
 og 223 215 true (.move (.t 2)),
 og 224 215 true (.call 53 [(.t 221), (.t 222), (.t 223)]),
 oo 225 (.pick (.t 215) (.t 224) (.c (.bool false))),
 mv 12 225])
 (.seq
 (.reg [oo 16 (.move (.c (.int .i64 0)))])
 (.block 7
 (.loop
 (.seq
 (.seq
 (.reg [mv 226 16,
 mv 227 15,
 oo 228 (.bin .int .lss (.t 226) (.t 227))])
 (.cond (.t 228)
 .skip
 (.exit 7)))
 (.seq
 (.block 8
 (.reg [mv 231 12,
 mv 232 231,
 og 233 232 true (.faddr 8 (.t 3)),
 og 234 232 true (.load none (.t 233)),
 og 235 232 true (.move (.t 16)),
 og 236 232 true (.iaddr 10 (.t 234) (.t 235)),
 og 237 232 true (.faddr 0 (.t 236)),
 og 238 232 true (.load none (.t 237)),
 og 239 232 true (.faddr 8 (.t 3)),
 og 240 232 true (.load none (.t 239)),
 og 241 232 true (.move (.t 15)),
 og 242 232 true (.iaddr 10 (.t 240) (.t 241)),
 og 243 232 true (.faddr 0 (.t 242)),
 og 244 232 true (.load none (.t 243)),
 og 245 232 true (.bin .int .neq (.t 238) (.t 244)),
 oo 246 (.pick (.t 232) (.t 245) (.c (.bool false))),
 mv 12 246]))
 (.reg [mv 229 16,
 oo 230 (.bin .int .add (.t 229) (.c (.int .i64 1))),
 mv 16 230]))))))))
 (.reg [mv 212 15,
 oo 213 (.bin .int .add (.t 212) (.c (.int .i64 1))),
 mv 15 213]))))))
 (.seq
 (.seq
 (.reg [oo 17 (.move (.c (.int .i64 0)))])
 (.block 9
 (.loop
 (.seq
 (.seq
 (.reg [mv 247 17,
 oo 248 (.faddr 6 (.t 3)),
 oo 249 (.load none (.t 248)),
 oo 250 (.len .slice (.t 249)),
 oo 251 (.bin .int .lss (.t 247) (.t 250))])
 (.cond (.t 251)
 .skip
 (.exit 9)))
 (.seq
 (.block 10
 (.draw [] [([⟨(some 254), .move (.t 12), none⟩], []),
 ([⟨(some 255), .move (.t 254), none⟩], []),
 ([⟨(some 256), .faddr 6 (.t 3), some (255, true)⟩], []),
 ([⟨(some 257), .load none (.t 256), some (255, true)⟩], []),
 ([⟨(some 258), .move (.t 17), some (255, true)⟩], []),
 ([⟨(some 259), .call 97 [(.t 257), (.t 258)], some (255, true)⟩], []),
 ([⟨(some 260), .pick (.t 255) (.t 259) (.c (.bool false)), none⟩], []),
 ([⟨(some 261), .move (.t 260), none⟩], []),
 ([⟨(some 262), .faddr 6 (.t 3), some (261, true)⟩], []),
 ([⟨(some 263), .load none (.t 262), some (261, true)⟩], []),
 ([⟨(some 264), .move (.t 17), some (261, true)⟩], []),
 ([⟨(some 265), .iaddr 13 (.t 263) (.t 264), some (261, true)⟩], []),
 ([⟨(some 266), .faddr 4 (.t 265), some (261, true)⟩], []),
 ([⟨(some 267), .load (some 9) (.t 266), some (261, true)⟩], []),
 ([⟨(some 268), .move (.t 1), some (261, true)⟩], []),
 ([⟨(some 269), .move (.t 2), some (261, true)⟩], []),
 ([⟨(some 270), .faddr 6 (.t 3), some (261, true)⟩], []),
 ([⟨(some 271), .load none (.t 270), some (261, true)⟩], []),
 ([⟨(some 272), .move (.t 17), some (261, true)⟩], []),
 ([⟨(some 273), .iaddr 13 (.t 271) (.t 272), some (261, true)⟩], []),
 ([⟨(some 274), .faddr 3 (.t 273), some (261, true)⟩], []),
 ([⟨(some 275), .load none (.t 274), some (261, true)⟩], []),
 ([⟨(some 276), .call 93 [(.t 269), (.t 275)], some (261, true)⟩], [⟨(some 262), .faddr 6 (.t 3), some (261, true)⟩, ⟨(some 263), .load none (.t 262), some (261, true)⟩, ⟨(some 265), .iaddr 13 (.t 263) (.t 264), some (261, true)⟩, ⟨(some 266), .faddr 4 (.t 265), some (261, true)⟩, ⟨(some 267), .load (some 9) (.t 266), some (261, true)⟩]),
 ([⟨(some 277), .call 53 [(.t 267), (.t 268), (.t 276)], some (261, true)⟩], []),
 ([⟨(some 278), .pick (.t 261) (.t 277) (.c (.bool false)), none⟩], []),
 ([⟨(some 12), .move (.t 278), none⟩], [])]))
 (.reg [mv 252 17,
 oo 253 (.bin .int .add (.t 252) (.c (.int .i64 1))),
 mv 17 253]))))))
 (.seq
 (.reg [mv 279 12,
 mv 6 279])
 .ret))))))))))))
theorem in53 {args : List AV} {σ : Store} {K : AV → Store → Prop} (hargs : args.length ≤ 280 := by simp) (h : AWP Try.prog Try.f53.ntmps c53 (fun e t s => match e with | .exit _ => False | _ => Res [.slot 6] K t s) (env (argList 0 args)) σ) : ACalls Try.prog 53 args σ K :=
  enter (own := []) Try.func53 (by kernel_rfl) (by kernel_rfl) (by kernel_rfl) hargs h
/-- changeling/changelingref15.joined -/
def c93 : ACode :=
(.seq
 (.reg [oo 4 (.move (.c .nils))])
 (.seq
 (.reg [oo 5 (.move (.c .nils))])
 (.seq
 (.seq
 (.reg [oo 6 (.move (.c (.int .i64 0)))])
 (.block 0
 (.loop
 (.seq
 (.seq
 (.reg [mv 8 6,
 mv 9 0,
 oo 10 (.len .slice (.t 9)),
 oo 11 (.bin .int .lss (.t 8) (.t 10))])
 (.cond (.t 11)
 .skip
 (.exit 0)))
 (.seq
 (.block 1
 (.reg [mv 14 5,
 mv 15 0,
 mv 16 6,
 oo 17 (.iaddr 1 (.t 15) (.t 16)),
 oo 18 (.load none (.t 17)),
 oo 19 (.lit false 9 1 [(.t 18)]),
 oo 20 (.append 9 1 16 (.t 14) (.t 19)),
 mv 5 20]))
 (.reg [mv 12 6,
 oo 13 (.bin .int .add (.t 12) (.c (.int .i64 1))),
 mv 6 13]))))))
 (.seq
 (.seq
 (.reg [oo 7 (.move (.c (.int .i64 0)))])
 (.block 2
 (.loop
 (.seq
 (.seq
 (.reg [mv 21 7,
 mv 22 1,
 oo 23 (.len .slice (.t 22)),
 oo 24 (.bin .int .lss (.t 21) (.t 23))])
 (.cond (.t 24)
 .skip
 (.exit 2)))
 (.seq
 (.block 3
 (.reg [mv 27 5,
 mv 28 1,
 mv 29 7,
 oo 30 (.iaddr 1 (.t 28) (.t 29)),
 oo 31 (.load none (.t 30)),
 oo 32 (.lit false 9 1 [(.t 31)]),
 oo 33 (.append 9 1 16 (.t 27) (.t 32)),
 mv 5 33]))
 (.reg [mv 25 7,
 oo 26 (.bin .int .add (.t 25) (.c (.int .i64 1))),
 mv 7 26]))))))
 (.seq
 (.reg [mv 34 5,
 mv 4 34])
 .ret)))))
theorem in93 {args : List AV} {σ : Store} {K : AV → Store → Prop} (hargs : args.length ≤ 35 := by simp) (h : AWP Try.prog Try.f93.ntmps c93 (fun e t s => match e with | .exit _ => False | _ => Res [.slot 4] K t s) (env (argList 0 args)) σ) : ACalls Try.prog 93 args σ K :=
  enter (own := []) Try.func93 (by kernel_rfl) (by kernel_rfl) (by kernel_rfl) hargs h
/-- changeling/changelingref15.names -/
def c94 : ACode :=
(.seq
 (.reg [oo 2 (.move (.c .nils))])
 (.seq
 (.reg [oo 3 (.move (.c .nils))])
 (.seq
 (.seq
 (.reg [oo 4 (.move (.c (.int .i64 0)))])
 (.block 0
 (.loop
 (.seq
 (.seq
 (.reg [mv 5 4,
 mv 6 0,
 oo 7 (.len .slice (.t 6)),
 oo 8 (.bin .int .lss (.t 5) (.t 7))])
 (.cond (.t 8)
 .skip
 (.exit 0)))
 (.seq
 (.block 1
 (.reg [mv 11 3,
 mv 12 0,
 mv 13 4,
 oo 14 (.iaddr 10 (.t 12) (.t 13)),
 oo 15 (.faddr 0 (.t 14)),
 oo 16 (.load none (.t 15)),
 oo 17 (.lit false 9 1 [(.t 16)]),
 oo 18 (.append 9 1 16 (.t 11) (.t 17)),
 mv 3 18]))
 (.reg [mv 9 4,
 oo 10 (.bin .int .add (.t 9) (.c (.int .i64 1))),
 mv 4 10]))))))
 (.seq
 (.reg [mv 19 3,
 mv 2 19])
 .ret))))
theorem in94 {args : List AV} {σ : Store} {K : AV → Store → Prop} (hargs : args.length ≤ 20 := by simp) (h : AWP Try.prog Try.f94.ntmps c94 (fun e t s => match e with | .exit _ => False | _ => Res [.slot 2] K t s) (env (argList 0 args)) σ) : ACalls Try.prog 94 args σ K :=
  enter (own := []) Try.func94 (by kernel_rfl) (by kernel_rfl) (by kernel_rfl) hargs h
/-- changeling/changelingref15.counts -/
def c96 : ACode :=
(.seq
 (.reg [oo 1 (.new 54 (.t 0)),
 oo 2 (.move (.c .nils))])
 (.seq
 (.reg [oo 3 (.faddr 4 (.t 1)),
 oo 4 (.load none (.t 3)),
 oo 5 (.len .slice (.t 4)),
 oo 6 (.faddr 5 (.t 1)),
 oo 7 (.load none (.t 6)),
 oo 8 (.len .slice (.t 7)),
 oo 9 (.faddr 6 (.t 1)),
 oo 10 (.load none (.t 9)),
 oo 11 (.len .slice (.t 10)),
 oo 12 (.faddr 7 (.t 1)),
 oo 13 (.load none (.t 12)),
 oo 14 (.len .slice (.t 13)),
 oo 15 (.faddr 8 (.t 1)),
 oo 16 (.load none (.t 15)),
 oo 17 (.len .slice (.t 16)),
 oo 18 (.lit false 3 1 [(.t 5), (.t 8), (.t 11), (.t 14), (.t 17)]),
 mv 2 18])
 .ret))
theorem in96 {args : List AV} {σ : Store} {K : AV → Store → Prop} (hargs : args.length ≤ 19 := by simp) (h : AWP Try.prog Try.f96.ntmps c96 (fun e t s => match e with | .exit _ => False | _ => Res [.slot 2] K t s) (env (argList 0 args)) σ) : ACalls Try.prog 96 args σ K :=
  enter (own := []) Try.func96 (by kernel_rfl) (by kernel_rfl) (by kernel_rfl) hargs h
/-- changeling/changelingref01.SameInts -/
def c95 : ACode :=
(.seq
 (.reg [oo 4 (.move (.c (.bool false)))])
 (.seq
 (.seq
 (.reg [mv 6 0,
 oo 7 (.len .slice (.t 6)),
 mv 8 1,
 oo 9 (.len .slice (.t 8)),
 oo 10 (.bin .int .neq (.t 7) (.t 9))])
 (.cond (.t 10)
 (.seq
 (.reg [oo 4 (.move (.c (.bool false)))])
 .ret)
 .skip))
 (.seq
 (.seq
 (.reg [oo 5 (.move (.c (.int .i64 0)))])
 (.block 0
 (.loop
 (.seq
 (.seq
 (.reg [mv 11 5,
 mv 12 0,
 oo 13 (.len .slice (.t 12)),
 oo 14 (.bin .int .lss (.t 11) (.t 13))])
 (.cond (.t 14)
 .skip
 (.exit 0)))
 (.seq
 (.block 1
 (.seq
 (.reg [mv 17 0,
 mv 18 5,
 oo 19 (.iaddr 1 (.t 17) (.t 18)),
 oo 20 (.load none (.t 19)),
 mv 21 1,
 mv 22 5,
 oo 23 (.iaddr 1 (.t 21) (.t 22)),
 oo 24 (.load none (.t 23)),
 oo 25 (.bin .int .neq (.t 20) (.t 24))])
 (.cond (.t 25)
 (.seq
 (.reg [oo 4 (.move (.c (.bool false)))])
 .ret)
 .skip)))
 (.reg [mv 15 5,
 oo 16 (.bin .int .add (.t 15) (.c (.int .i64 1))),
 mv 5 16]))))))
 (.seq
 (.reg [oo 4 (.move (.c (.bool true)))])
 .ret))))
theorem in95 {args : List AV} {σ : Store} {K : AV → Store → Prop} (hargs : args.length ≤ 26 := by simp) (h : AWP Try.prog Try.f95.ntmps c95 (fun e t s => match e with | .exit _ => False | _ => Res [.slot 4] K t s) (env (argList 0 args)) σ) : ACalls Try.prog 95 args σ K :=
  enter (own := []) Try.func95 (by kernel_rfl) (by kernel_rfl) (by kernel_rfl) hargs h
/-- changeling/changelingref15.alt -/
def c97 : ACode :=
(.seq
 (.reg [oo 4 (.move (.c (.bool false)))])
 (.seq
 (.reg [mv 8 0,
 mv 9 1,
 oo 10 (.iaddr 13 (.t 8) (.t 9)),
 oo 11 (.load (some 13) (.t 10)),
 oo 5 (.new 113 (.c (.agg [(.int .i64 0), (.str ⟨#[]⟩), (.int .i64 0), .nils, (.int .i64 0), (.str ⟨#[]⟩), (.int .i64 0), (.int .i64 0), .nils, .nils, .nils, .nils, .nils]))),
 ⟨none, .store 13 (.t 5) (.t 11), none⟩])
 (.seq
 (.seq
 (.reg [oo 6 (.move (.c (.int .i64 0)))])
 (.block 0
 (.loop
 (.seq
 (.seq
 (.reg [mv 12 6,
 mv 13 1,
 oo 14 (.bin .int .lss (.t 12) (.t 13))])
 (.cond (.t 14)
 .skip
 (.exit 0)))
 (.seq
 (.block 1
 (.seq
 (.reg [mv 17 0,
 mv 18 6,
 oo 19 (.iaddr 13 (.t 17) (.t 18)),
 oo 20 (.load (some 13) (.t 19)),
 oo 7 (.new 113 (.c (.agg [(.int .i64 0), (.str ⟨#[]⟩), (.int .i64 0), .nils, (.int .i64 0), (.str ⟨#[]⟩), (.int .i64 0), (.int .i64 0), .nils, .nils, .nils, .nils, .nils]))),
 ⟨none, .store 13 (.t 7) (.t 20), none⟩])
 (.seq
 (.reg [oo 21 (.faddr 0 (.t 7)),
 oo 22 (.load none (.t 21)),
 oo 23 (.faddr 0 (.t 5)),
 oo 24 (.load none (.t 23)),
 oo 25 (.bin .int .neq (.t 22) (.t 24)),
 mv 26 25,
 og 27 26 true (.faddr 0 (.t 5)),
 og 28 26 true (.load none (.t 27)),
 og 29 26 true (.bin .int .neq (.t 28) (.c (.int .i64 3))),
 oo 30 (.pick (.t 26) (.t 29) (.c (.bool false))),
 mv 31 30,
 og 32 31 false (.faddr 0 (.t 5)),
 og 33 31 false (.load none (.t 32)),
 og 34 31 false (.bin .int .eql (.t 33) (.c (.int .i64 1))),
 og 35 31 false (.move (.t 34)),
 og 36 35 true (.faddr 1 (.t 7)),
 og 37 35 true (.load none (.t 36)),
 og 38 35 true (.faddr 1 (.t 5)),
 og 39 35 true (.load none (.t 38)),
 og 40 35 true (.bin .str .eql (.t 37) (.t 39)),
 og 41 31 false (.pick (.t 35) (.t 40) (.c (.bool false))),
 oo 42 (.pick (.t 31) (.c (.bool true)) (.t 41)),
 mv 43 42,
 og 44 43 false (.faddr 0 (.t 5)),
 og 45 43 false (.load none (.t 44)),
 og 46 43 false (.bin .int .eql (.t 45) (.c (.int .i64 2))),
 og 47 43 false (.move (.t 46)),
 og 48 47 true (.faddr 2 (.t 7)),
 og 49 47 true (.load none (.t 48)),
 og 50 47 true (.faddr 2 (.t 5)),
 og 51 47 true (.load none (.t 50)),
 og 52 47 true (.bin .int .eql (.t 49) (.t 51)),
 og 53 43 false (.pick (.t 47) (.t 52) (.c (.bool false))),
 oo 54 (.pick (.t 43) (.c (.bool true)) (.t 53)),
 mv 55 54,
 og 56 55 false (.faddr 0 (.t 7)),
 og 57 55 false (.load none (.t 56)),
 og 58 55 false (.bin .int .eql (.t 57) (.c (.int .i64 3))),
 oo 59 (.pick (.t 55) (.c (.bool true)) (.t 58))])
 (.cond (.t 59)
 (.seq
 (.reg [oo 4 (.move (.c (.bool false)))])
 .ret)
 .skip))))
 (.reg [mv 15 6,
 oo 16 (.bin .int .add (.t 15) (.c (.int .i64 1))),
 mv 6 16]))))))
 (.seq
 (.seq
 (.reg [oo 60 (.faddr 0 (.t 5)),
 oo 61 (.load none (.t 60)),
 oo 62 (.bin .int .eql (.t 61) (.c (.int .i64 1)))])
 (.cond (.t 62)
 (.seq
 (.reg [oo 63 (.faddr 1 (.t 5)),
 oo 64 (.load none (.t 63)),
 oo 65 (.bin .str .neq (.t 64) (.c (.str ⟨#[]⟩))),
 mv 66 65,
 og 67 66 true (.faddr 2 (.t 5)),
 og 68 66 true (.load none (.t 67)),
 og 69 66 true (.bin .int .geq (.t 68) (.c (.int .i64 0))),
 oo 70 (.pick (.t 66) (.t 69) (.c (.bool false))),
 mv 71 70,
 og 72 71 true (.faddr 3 (.t 5)),
 og 73 71 true (.load none (.t 72)),
 og 74 71 true (.call 92 [(.t 73)]),
 oo 75 (.pick (.t 71) (.t 74) (.c (.bool false))),
 mv 4 75])
 .ret)
 .skip))
 (.seq
 (.reg [oo 76 (.faddr 1 (.t 5)),
 oo 77 (.load none (.t 76)),
 oo 78 (.bin .str .eql (.t 77) (.c (.str ⟨#[]⟩))),
 mv 79 78,
 og 80 79 true (.faddr 3 (.t 5)),
 og 81 79 true (.load none (.t 80)),
 og 82 79 true (.len .slice (.t 81)),
 og 83 79 true (.bin .int .eql (.t 82) (.c (.int .i64 0))),
 oo 84 (.pick (.t 79) (.t 83) (.c (.bool false))),
 mv 85 84,
 og 86 85 true (.faddr 0 (.t 5)),
 og 87 85 true (.load none (.t 86)),
 og 88 85 true (.bin .int .eql (.t 87) (.c (.int .i64 2))),
 og 89 85 true (.move (.t 88)),
 og 90 89 false (.faddr 0 (.t 5)),
 og 91 89 false (.load none (.t 90)),
 og 92 89 false (.bin .int .eql (.t 91) (.c (.int .i64 3))),
 og 93 89 false (.move (.t 92)),
 og 94 93 true (.faddr 2 (.t 5)),
 og 95 93 true (.load none (.t 94)),
 og 96 93 true (.bin .int .eql (.t 95) (.c (.int .i64 0))),
 og 97 89 false (.pick (.t 93) (.t 96) (.c (.bool false))),
 og 98 85 true (.pick (.t 89) (.c (.bool true)) (.t 97)),
 oo 99 (.pick (.t 85) (.t 98) (.c (.bool false))),
 mv 4 99])
 .ret)))))
theorem in97 {args : List AV} {σ : Store} {K : AV → Store → Prop} (hargs : args.length ≤ 100 := by simp) (h : AWP Try.prog Try.f97.ntmps c97 (fun e t s => match e with | .exit _ => False | _ => Res [.slot 4] K t s) (env (argList 0 args)) σ) : ACalls Try.prog 97 args σ K :=
  enter (own := []) Try.func97 (by kernel_rfl) (by kernel_rfl) (by kernel_rfl) hargs h
/-- changeling/changelingref17.fits -/
def c156 : ACode :=
(.seq
 (.reg [oo 3 (.new 162 (.t 0)),
 oo 6 (.move (.c (.bool false)))])
 (.seq
 (.reg [oo 8 (.faddr 1 (.t 3)),
 oo 9 (.load none (.t 8)),
 mv 10 1,
 oo 11 (.call 126 [(.t 9), (.t 10)]),
 mv 7 11])
 (.seq
 (.reg [mv 12 7,
 oo 13 (.bin .int .geq (.t 12) (.c (.int .i64 0))),
 mv 14 13,
 og 15 14 true (.faddr 2 (.t 3)),
 og 16 14 true (.load none (.t 15)),
 og 17 14 true (.move (.t 7)),
 og 18 14 true (.iaddr 1 (.t 16) (.t 17)),
 og 19 14 true (.load none (.t 18)),
 og 20 14 true (.move (.t 2)),
 og 21 14 true (.bin .int .eql (.t 19) (.t 20)),
 oo 22 (.pick (.t 14) (.t 21) (.c (.bool false))),
 mv 6 22])
 .ret)))
theorem in156 {args : List AV} {σ : Store} {K : AV → Store → Prop} (hargs : args.length ≤ 23 := by simp) (h : AWP Try.prog Try.f156.ntmps c156 (fun e t s => match e with | .exit _ => False | _ => Res [.slot 6] K t s) (env (argList 0 args)) σ) : ACalls Try.prog 156 args σ K :=
  enter (own := []) Try.func156 (by kernel_rfl) (by kernel_rfl) (by kernel_rfl) hargs h
/-- changeling/changelingref17.place -/
def c126 : ACode :=
(.seq
 (.reg [oo 4 (.move (.c (.int .i64 0)))])
 (.seq
 (.seq
 (.reg [oo 5 (.move (.c (.int .i64 0)))])
 (.block 0
 (.loop
 (.seq
 (.seq
 (.reg [mv 6 5,
 mv 7 0,
 oo 8 (.len .slice (.t 7)),
 oo 9 (.bin .int .lss (.t 6) (.t 8))])
 (.cond (.t 9)
 .skip
 (.exit 0)))
 (.seq
 (.block 1
 (.seq
 (.reg [mv 12 0,
 mv 13 5,
 oo 14 (.iaddr 1 (.t 12) (.t 13)),
 oo 15 (.load none (.t 14)),
 mv 16 1,
 oo 17 (.bin .str .eql (.t 15) (.t 16))])
 (.cond (.t 17)
 (.seq
 (.reg [mv 18 5,
 mv 4 18])
 .ret)
 .skip)))
 (.reg [mv 10 5,
 oo 11 (.bin .int .add (.t 10) (.c (.int .i64 1))),
 mv 5 11]))))))
 (.seq
 (.reg [oo 4 (.move (.c (.int .i64 (-1))))])
 .ret)))
theorem in126 {args : List AV} {σ : Store} {K : AV → Store → Prop} (hargs : args.length ≤ 19 := by simp) (h : AWP Try.prog Try.f126.ntmps c126 (fun e t s => match e with | .exit _ => False | _ => Res [.slot 4] K t s) (env (argList 0 args)) σ) : ACalls Try.prog 126 args σ K :=
  enter (own := []) Try.func126 (by kernel_rfl) (by kernel_rfl) (by kernel_rfl) hargs h
/-- changeling/changelingref17.known -/
def c119 : ACode :=
(.seq
 (.reg [oo 2 (.new 162 (.t 0)),
 oo 3 (.new 54 (.t 1)),
 oo 4 (.move (.c (.bool false)))])
 (.seq
 (.seq
 (.reg [oo 10 (.faddr 0 (.t 3)),
 oo 11 (.load none (.t 10)),
 oo 12 (.bin .int .eql (.t 11) (.c (.int .i64 4))),
 mv 13 12,
 og 14 13 true (.load (some 3) (.t 2)),
 og 15 13 true (.faddr 1 (.t 3)),
 og 16 13 true (.load none (.t 15)),
 og 17 13 true (.faddr 3 (.t 3)),
 og 18 13 true (.load none (.t 17)),
 og 19 13 true (.call 156 [(.t 14), (.t 16), (.t 18)]),
 og 20 13 true (.not (.t 19)),
 oo 21 (.pick (.t 13) (.t 20) (.c (.bool false)))])
 (.cond (.t 21)
 (.seq
 (.reg [oo 4 (.move (.c (.bool false)))])
 .ret)
 .skip))
 (.seq
 (.seq
 (.reg [oo 5 (.move (.c (.int .i64 0)))])
 (.block 0
 (.loop
 (.seq
 (.seq
 (.reg [mv 22 5,
 oo 23 (.faddr 5 (.t 3)),
 oo 24 (.load none (.t 23)),
 oo 25 (.len .slice (.t 24)),
 oo 26 (.bin .int .lss (.t 22) (.t 25))])
 (.cond (.t 26)
 .skip
 (.exit 0)))
 (.seq
 (.block 1
 (.seq
 (.reg [oo 29 (.load (some 3) (.t 2)),
 oo 30 (.faddr 5 (.t 3)),
 oo 31 (.load none (.t 30)),
 mv 32 5,
 oo 33 (.iaddr 9 (.t 31) (.t 32)),
 oo 34 (.load (some 9) (.t 33)),
 oo 35 (.call 119 [(.t 29), (.t 34)]),
 oo 36 (.not (.t 35))])
 (.cond (.t 36)
 (.seq
 (.reg [oo 4 (.move (.c (.bool false)))])
 .ret)
 .skip)))
 (.reg [mv 27 5,
 oo 28 (.bin .int .add (.t 27) (.c (.int .i64 1))),
 mv 5 28]))))))
 (.seq
 (.seq
 (.reg [oo 6 (.move (.c (.int .i64 0)))])
 (.block 2
 (.loop
 (.seq
 (.seq
 (.reg [mv 37 6,
 oo 38 (.faddr 6 (.t 3)),
 oo 39 (.load none (.t 38)),
 oo 40 (.len .slice (.t 39)),
 oo 41 (.bin .int .lss (.t 37) (.t 40))])
 (.cond (.t 41)
 .skip
 (.exit 2)))
 (.seq
 (.block 3
 (.seq
 (.reg [oo 44 (.faddr 6 (.t 3)),
 oo 45 (.load none (.t 44)),
 mv 46 6,
 oo 47 (.iaddr 13 (.t 45) (.t 46)),
 oo 48 (.load (some 13) (.t 47)),
 oo 7 (.new 113 (.c (.agg [(.int .i64 0), (.str ⟨#[]⟩), (.int .i64 0), .nils, (.int .i64 0), (.str ⟨#[]⟩), (.int .i64 0), (.int .i64 0), .nils, .nils, .nils, .nils, .nils]))),
 ⟨none, .store 13 (.t 7) (.t 48), none⟩])
 (.seq
 (.reg [oo 49 (.faddr 0 (.t 7)),
 oo 50 (.load none (.t 49)),
 oo 51 (.bin .int .eql (.t 50) (.c (.int .i64 1))),
 mv 52 51,
 og 53 52 true (.load (some 3) (.t 2)),
 og 54 52 true (.faddr 1 (.t 7)),
 og 55 52 true (.load none (.t 54)),
 og 56 52 true (.faddr 3 (.t 7)),
 og 57 52 true (.load none (.t 56)),
 og 58 52 true (.len .slice (.t 57)),
 og 59 52 true (.call 156 [(.t 53), (.t 55), (.t 58)]),
 og 60 52 true (.not (.t 59)),
 oo 61 (.pick (.t 52) (.t 60) (.c (.bool false))),
 mv 62 61,
 og 63 62 false (.load (some 3) (.t 2)),
 og 64 62 false (.faddr 4 (.t 7)),
 og 65 62 false (.load (some 9) (.t 64)),
 og 66 62 false (.call 119 [(.t 63), (.t 65)]),
 og 67 62 false (.not (.t 66)),
 oo 68 (.pick (.t 62) (.c (.bool true)) (.t 67))])
 (.cond (.t 68)
 (.seq
 (.reg [oo 4 (.move (.c (.bool false)))])
 .ret)
 .skip))))
 (.reg [mv 42 6,
 oo 43 (.bin .int .add (.t 42) (.c (.int .i64 1))),
 mv 6 43]))))))
 (.seq
 (.seq
 (.reg [oo 8 (.move (.c (.int .i64 0)))])
 (.block 4
 (.loop
 (.seq
 (.seq
 (.reg [mv 69 8,
 oo 70 (.faddr 7 (.t 3)),
 oo 71 (.load none (.t 70)),
 oo 72 (.len .slice (.t 71)),
 oo 73 (.bin .int .lss (.t 69) (.t 72))])
 (.cond (.t 73)
 .skip
 (.exit 4)))
 (.seq
 (.block 5
 (.seq
 (.reg [oo 76 (.load (some 3) (.t 2)),
 oo 77 (.faddr 7 (.t 3)),
 oo 78 (.load none (.t 77)),
 mv 79 8,
 oo 80 (.iaddr 10 (.t 78) (.t 79)),
 oo 81 (.faddr 1 (.t 80)),
 oo 82 (.load (some 9) (.t 81)),
 oo 83 (.call 119 [(.t 76), (.t 82)]),
 oo 84 (.not (.t 83))])
 (.cond (.t 84)
 (.seq
 (.reg [oo 4 (.move (.c (.bool false)))])
 .ret)
 .skip)))
 (.reg [mv 74 8,
 oo 75 (.bin .int .add (.t 74) (.c (.int .i64 1))),
 mv 8 75]))))))
 (.seq
 (.seq
 (.reg [oo 9 (.move (.c (.int .i64 0)))])
 (.block 6
 (.loop
 (.seq
 (.seq
 (.reg [mv 85 9,
 oo 86 (.faddr 8 (.t 3)),
 oo 87 (.load none (.t 86)),
 oo 88 (.len .slice (.t 87)),
 oo 89 (.bin .int .lss (.t 85) (.t 88))])
 (.cond (.t 89)
 .skip
 (.exit 6)))
 (.seq
 (.block 7
 (.seq
 (.reg [oo 92 (.load (some 3) (.t 2)),
 oo 93 (.faddr 8 (.t 3)),
 oo 94 (.load none (.t 93)),
 mv 95 9,
 oo 96 (.iaddr 10 (.t 94) (.t 95)),
 oo 97 (.faddr 1 (.t 96)),
 oo 98 (.load (some 9) (.t 97)),
 oo 99 (.call 119 [(.t 92), (.t 98)]),
 oo 100 (.not (.t 99))])
 (.cond (.t 100)
 (.seq
 (.reg [oo 4 (.move (.c (.bool false)))])
 .ret)
 .skip)))
 (.reg [mv 90 9,
 oo 91 (.bin .int .add (.t 90) (.c (.int .i64 1))),
 mv 9 91]))))))
 (.seq
 (.reg [oo 4 (.move (.c (.bool true)))])
 .ret)))))))
theorem in119 {args : List AV} {σ : Store} {K : AV → Store → Prop} (hargs : args.length ≤ 101 := by simp) (h : AWP Try.prog Try.f119.ntmps c119 (fun e t s => match e with | .exit _ => False | _ => Res [.slot 4] K t s) (env (argList 0 args)) σ) : ACalls Try.prog 119 args σ K :=
  enter (own := []) Try.func119 (by kernel_rfl) (by kernel_rfl) (by kernel_rfl) hargs h
/-- changeling/changelingref17.named -/
def c121 : ACode :=
(.seq
 (.reg [oo 2 (.new 54 (.t 0)),
 oo 4 (.move (.c (.bool false)))])
 (.seq
 (.seq
 (.reg [oo 7 (.faddr 0 (.t 2)),
 oo 8 (.load none (.t 7)),
 oo 9 (.bin .int .eql (.t 8) (.c (.int .i64 2))),
 mv 10 9,
 og 11 10 true (.move (.t 1)),
 og 12 10 true (.faddr 1 (.t 2)),
 og 13 10 true (.load none (.t 12)),
 og 14 10 true (.call 126 [(.t 11), (.t 13)]),
 og 15 10 true (.bin .int .lss (.t 14) (.c (.int .i64 0))),
 oo 16 (.pick (.t 10) (.t 15) (.c (.bool false))),
 mv 17 16,
 og 18 17 true (.faddr 1 (.t 2)),
 og 19 17 true (.load none (.t 18)),
 og 20 17 true (.call 50 [(.t 19)]),
 og 21 17 true (.bin .int .eql (.t 20) (.c (.int .i64 0))),
 oo 22 (.pick (.t 17) (.t 21) (.c (.bool false)))])
 (.cond (.t 22)
 (.seq
 (.reg [oo 4 (.move (.c (.bool false)))])
 .ret)
 .skip))
 (.seq
 (.seq
 (.reg [oo 5 (.move (.c (.int .i64 0)))])
 (.block 0
 (.loop
 (.seq
 (.seq
 (.reg [mv 23 5,
 oo 24 (.faddr 5 (.t 2)),
 oo 25 (.load none (.t 24)),
 oo 26 (.len .slice (.t 25)),
 oo 27 (.bin .int .lss (.t 23) (.t 26))])
 (.cond (.t 27)
 .skip
 (.exit 0)))
 (.seq
 (.block 1
 (.seq
 (.reg [oo 30 (.faddr 5 (.t 2)),
 oo 31 (.load none (.t 30)),
 mv 32 5,
 oo 33 (.iaddr 9 (.t 31) (.t 32)),
 oo 34 (.load (some 9) (.t 33)),
 mv 35 1,
 oo 36 (.call 121 [(.t 34), (.t 35)]),
 oo 37 (.not (.t 36))])
 (.cond (.t 37)
 (.seq
 (.reg [oo 4 (.move (.c (.bool false)))])
 .ret)
 .skip)))
 (.reg [mv 28 5,
 oo 29 (.bin .int .add (.t 28) (.c (.int .i64 1))),
 mv 5 29]))))))
 (.seq
 (.seq
 (.reg [oo 6 (.move (.c (.int .i64 0)))])
 (.block 2
 (.loop
 (.seq
 (.seq
 (.reg [mv 38 6,
 oo 39 (.faddr 7 (.t 2)),
 oo 40 (.load none (.t 39)),
 oo 41 (.len .slice (.t 40)),
 oo 42 (.bin .int .lss (.t 38) (.t 41))])
 (.cond (.t 42)
 .skip
 (.exit 2)))
 (.seq
 (.block 3
 (.seq
 (.reg [oo 45 (.faddr 7 (.t 2)),
 oo 46 (.load none (.t 45)),
 mv 47 6,
 oo 48 (.iaddr 10 (.t 46) (.t 47)),
 oo 49 (.faddr 1 (.t 48)),
 oo 50 (.load (some 9) (.t 49)),
 mv 51 1,
 oo 52 (.call 121 [(.t 50), (.t 51)]),
 oo 53 (.not (.t 52))])
 (.cond (.t 53)
 (.seq
 (.reg [oo 4 (.move (.c (.bool false)))])
 .ret)
 .skip)))
 (.reg [mv 43 6,
 oo 44 (.bin .int .add (.t 43) (.c (.int .i64 1))),
 mv 6 44]))))))
 (.seq
 (.reg [oo 4 (.move (.c (.bool true)))])
 .ret)))))
theorem in121 {args : List AV} {σ : Store} {K : AV → Store → Prop} (hargs : args.length ≤ 54 := by simp) (h : AWP Try.prog Try.f121.ntmps c121 (fun e t s => match e with | .exit _ => False | _ => Res [.slot 4] K t s) (env (argList 0 args)) σ) : ACalls Try.prog 121 args σ K :=
  enter (own := []) Try.func121 (by kernel_rfl) (by kernel_rfl) (by kernel_rfl) hargs h
/-- changeling/changelingref17.shaped -/
def c123 : ACode :=
(.seq
 (.reg [oo 2 (.new 54 (.t 0)),
 oo 4 (.move (.c (.bool false)))])
 (.seq
 (.reg [oo 5 (.move (.c (.str ⟨#[120]⟩)))])
 (.seq
 (.block 0
 (.loop
 (.seq
 (.seq
 (.reg [mv 8 1,
 oo 9 (.call 122 [(.t 8)]),
 mv 10 5,
 oo 11 (.call 126 [(.t 9), (.t 10)]),
 oo 12 (.bin .int .geq (.t 11) (.c (.int .i64 0)))])
 (.cond (.t 12)
 .skip
 (.exit 0)))
 (.block 1
 (.reg [mv 13 5,
 oo 14 (.bin .str .add (.t 13) (.c (.str ⟨#[120]⟩))),
 mv 5 14])))))
 (.seq
 (.reg [oo 6 (.move (.c .nils))])
 (.seq
 (.seq
 (.reg [oo 7 (.move (.c (.int .i64 0)))])
 (.block 2
 (.loop
 (.seq
 (.seq
 (.reg [mv 15 7,
 mv 16 1,
 oo 17 (.len .slice (.t 16)),
 oo 18 (.bin .int .lss (.t 15) (.t 17))])
 (.cond (.t 18)
 .skip
 (.exit 2)))
 (.seq
 (.block 3
 (.reg [mv 21 6,
 mv 22 1,
 mv 23 7,
 oo 24 (.iaddr 11 (.t 22) (.t 23)),
 oo 25 (.load (some 11) (.t 24)),
 oo 26 (.lit false 71 11 [(.t 25)]),
 oo 27 (.append 71 11 200 (.t 21) (.t 26)),
 mv 6 27]))
 (.reg [mv 19 7,
 oo 20 (.bin .int .add (.t 19) (.c (.int .i64 1))),
 mv 7 20]))))))
 (.seq
 (.reg [mv 28 6,
 mv 29 5,
 oo 30 (.load (some 9) (.t 2)),
 oo 31 (.build [(.str ⟨#[]⟩), .nils, (.int .i64 0), (.str ⟨#[]⟩), (.int .i64 0), (.int .i64 0), .nils, .nils, .nils, .nils, .nils] [(0, 1, (.t 29)), (2, 9, (.t 30))]),
 oo 32 (.lit false 71 11 [(.t 31)]),
 oo 33 (.append 71 11 200 (.t 28) (.t 32)),
 oo 34 (.call 155 [(.t 33)]),
 mv 4 34])
 .ret))))))
theorem in123 {args : List AV} {σ : Store} {K : AV → Store → Prop} (hargs : args.length ≤ 35 := by simp) (h : AWP Try.prog Try.f123.ntmps c123 (fun e t s => match e with | .exit _ => False | _ => Res [.slot 4] K t s) (env (argList 0 args)) σ) : ACalls Try.prog 123 args σ K :=
  enter (own := []) Try.func123 (by kernel_rfl) (by kernel_rfl) (by kernel_rfl) hargs h
/-- changeling/changelingref17.Later -/
def c69 : ACode :=
(.seq
 (.reg [oo 4 (.new 162 (.t 0)),
 oo 5 (.new 54 (.t 1)),
 oo 8 (.move (.c .nils))])
 (.seq
 (.seq
 (.reg [oo 11 (.faddr 0 (.t 5)),
 oo 12 (.load none (.t 11))])
 (.block 0
 (.seq
 (.reg [oo 14 (.bin .int .eql (.t 12) (.c (.int .i64 1))),
 mv 13 14])
 (.cond (.t 13)
 (.seq
 (.reg [mv 15 3,
 oo 16 (.bin .int .sub (.t 15) (.c (.int .i64 1))),
 mv 17 2,
 oo 18 (.faddr 1 (.t 5)),
 oo 19 (.load none (.t 18)),
 oo 20 (.call 124 [(.t 17), (.t 19)]),
 oo 21 (.bin .int .sub (.t 16) (.t 20)),
 oo 22 (.call 72 [(.c (.int .i64 1)), (.t 21)]),
 mv 8 22])
 .ret)
 (.seq
 (.reg [oo 24 (.bin .int .eql (.t 12) (.c (.int .i64 2))),
 mv 23 24])
 (.cond (.t 23)
 (.seq
 (.reg [oo 25 (.load (some 3) (.t 4)),
 oo 26 (.faddr 1 (.t 5)),
 oo 27 (.load none (.t 26)),
 oo 28 (.call 125 [(.t 25), (.t 27)]),
 oo 29 (.call 72 [(.c (.int .i64 2)), (.t 28)]),
 mv 8 29])
 .ret)
 (.seq
 (.reg [oo 31 (.bin .int .eql (.t 12) (.c (.int .i64 4))),
 mv 30 31])
 (.cond (.t 30)
 (.seq
 (.draw [] [([⟨(some 32), .faddr 0 (.t 4), none⟩], []),
 ([⟨(some 33), .load none (.t 32), none⟩], []),
 ([⟨(some 34), .len .slice (.t 33), none⟩], []),
 ([⟨(some 35), .faddr 1 (.t 4), none⟩], []),
 ([⟨(some 36), .load none (.t 35), none⟩], []),
 ([⟨(some 37), .faddr 1 (.t 5), none⟩], []),
 ([⟨(some 38), .load none (.t 37), none⟩], []),
 ([⟨(some 39), .call 126 [(.t 36), (.t 38)], none⟩], [⟨(some 32), .faddr 0 (.t 4), none⟩, ⟨(some 33), .load none (.t 32), none⟩]),
 ([⟨(some 40), .bin .int .add (.t 34) (.t 39), none⟩], []),
 ([⟨(some 41), .call 72 [(.c (.int .i64 2)), (.t 40)], none⟩], []),
 ([⟨(some 8), .move (.t 41), none⟩], [])])
 .ret)
 (.seq
 (.reg [oo 43 (.bin .int .eql (.t 12) (.c (.int .i64 3))),
 mv 42 43])
 (.cond (.t 42)
 (.seq
 (.reg [oo 44 (.faddr 2 (.t 5)),
 oo 45 (.load none (.t 44)),
 oo 46 (.build [(.int .i64 0), (.int .i64 0), (.int .i64 0), .nils] [(0, 1, (.c (.int .i64 3))), (2, 1, (.t 45))]),
 oo 47 (.lit false 139 4 [(.t 46)]),
 mv 8 47])
 .ret)
 (.seq
 (.reg [oo 49 (.bin .int .eql (.t 12) (.c (.int .i64 5))),
 mv 48 49])
 (.cond (.t 48)
 (.seq
 (.draw [] [([⟨(some 50), .load (some 3) (.t 4), none⟩], []),
 ([⟨(some 51), .faddr 5 (.t 5), none⟩], []),
 ([⟨(some 52), .load none (.t 51), none⟩], []),
 ([⟨(some 53), .iaddr 9 (.t 52) (.c (.int .i64 1)), none⟩], []),
 ([⟨(some 54), .load (some 9) (.t 53), none⟩], []),
 ([⟨(some 55), .move (.t 2), none⟩], []),
 ([⟨(some 56), .move (.t 3), none⟩], []),
 ([⟨(some 58), .load (some 3) (.t 4), none⟩], []),
 ([⟨(some 59), .faddr 5 (.t 5), none⟩], []),
 ([⟨(some 60), .load none (.t 59), none⟩], []),
 ([⟨(some 61), .iaddr 9 (.t 60) (.c (.int .i64 0)), none⟩], []),
 ([⟨(some 62), .load (some 9) (.t 61), none⟩], []),
 ([⟨(some 63), .move (.t 2), none⟩], []),
 ([⟨(some 64), .move (.t 3), none⟩], []),
 ([⟨(some 65), .bin .int .add (.t 64) (.c (.int .i64 1)), none⟩], []),
 ([⟨(some 57), .call 69 [(.t 50), (.t 54), (.t 55), (.t 56)], none⟩], [⟨(some 58), .load (some 3) (.t 4), none⟩, ⟨(some 59), .faddr 5 (.t 5), none⟩, ⟨(some 60), .load none (.t 59), none⟩, ⟨(some 61), .iaddr 9 (.t 60) (.c (.int .i64 0)), none⟩, ⟨(some 62), .load (some 9) (.t 61), none⟩]),
 ([⟨(some 66), .call 69 [(.t 58), (.t 62), (.t 63), (.t 65)], none⟩], []),
 ([⟨(some 67), .call 72 [(.c (.int .i64 4)), (.c (.int .i64 0))], none⟩], []),
 ([⟨(some 68), .lit false 79 1 [(.t 57), (.t 66), (.t 67)], none⟩], []),
 ([⟨(some 69), .call 71 [(.t 68)], none⟩], []),
 ([⟨(some 8), .move (.t 69), none⟩], [])])
 .ret)
 (.seq
 (.reg [oo 71 (.bin .int .eql (.t 12) (.c (.int .i64 9))),
 mv 70 71])
 (.cond (.t 70)
 (.seq
 (.draw [] [([⟨(some 72), .load (some 3) (.t 4), none⟩], []),
 ([⟨(some 73), .faddr 5 (.t 5), none⟩], []),
 ([⟨(some 74), .load none (.t 73), none⟩], []),
 ([⟨(some 75), .iaddr 9 (.t 74) (.c (.int .i64 1)), none⟩], []),
 ([⟨(some 76), .load (some 9) (.t 75), none⟩], []),
 ([⟨(some 77), .move (.t 2), none⟩], []),
 ([⟨(some 78), .move (.t 3), none⟩], []),
 ([⟨(some 80), .load (some 3) (.t 4), none⟩], []),
 ([⟨(some 81), .faddr 5 (.t 5), none⟩], []),
 ([⟨(some 82), .load none (.t 81), none⟩], []),
 ([⟨(some 83), .iaddr 9 (.t 82) (.c (.int .i64 0)), none⟩], []),
 ([⟨(some 84), .load (some 9) (.t 83), none⟩], []),
 ([⟨(some 85), .move (.t 2), none⟩], []),
 ([⟨(some 86), .move (.t 3), none⟩], []),
 ([⟨(some 87), .bin .int .add (.t 86) (.c (.int .i64 1)), none⟩], []),
 ([⟨(some 89), .load (some 3) (.t 4), none⟩], []),
 ([⟨(some 90), .faddr 2 (.t 5), none⟩], []),
 ([⟨(some 91), .load none (.t 90), none⟩], []),
 ([⟨(some 79), .call 69 [(.t 72), (.t 76), (.t 77), (.t 78)], none⟩], [⟨(some 80), .load (some 3) (.t 4), none⟩, ⟨(some 81), .faddr 5 (.t 5), none⟩, ⟨(some 82), .load none (.t 81), none⟩, ⟨(some 83), .iaddr 9 (.t 82) (.c (.int .i64 0)), none⟩, ⟨(some 84), .load (some 9) (.t 83), none⟩, ⟨(some 89), .load (some 3) (.t 4), none⟩, ⟨(some 90), .faddr 2 (.t 5), none⟩, ⟨(some 91), .load none (.t 90), none⟩]),
 ([⟨(some 88), .call 69 [(.t 80), (.t 84), (.t 85), (.t 87)], none⟩], [⟨(some 89), .load (some 3) (.t 4), none⟩, ⟨(some 90), .faddr 2 (.t 5), none⟩, ⟨(some 91), .load none (.t 90), none⟩]),
 ([⟨(some 92), .call 127 [(.t 89), (.t 91)], none⟩], []),
 ([⟨(some 93), .call 72 [(.c (.int .i64 2)), (.t 92)], none⟩], []),
 ([⟨(some 94), .call 72 [(.c (.int .i64 4)), (.c (.int .i64 0))], none⟩], []),
 ([⟨(some 95), .call 72 [(.c (.int .i64 4)), (.c (.int .i64 0))], none⟩], []),
 ([⟨(some 96), .lit false 79 1 [(.t 79), (.t 88), (.t 93), (.t 94), (.t 95)], none⟩], []),
 ([⟨(some 97), .call 71 [(.t 96)], none⟩], []),
 ([⟨(some 8), .move (.t 97), none⟩], [])])
 .ret)
 .skip))))))))))))))
 (.seq
 (.reg [oo 98 (.faddr 7 (.t 5)),
 oo 99 (.load none (.t 98)),
 oo 100 (.len .slice (.t 99)),
 mv 9 100])
 (.seq
 (.reg [mv 101 2,
 oo 102 (.faddr 7 (.t 5)),
 oo 103 (.load none (.t 102)),
 oo 104 (.call 129 [(.t 103)]),
 mv 105 3,
 oo 106 (.call 128 [(.t 101), (.t 104), (.t 105), (.c (.int .i64 1))]),
 mv 10 106])
 (.seq
 (.draw [] [([⟨(some 107), .load (some 3) (.t 4), none⟩], []),
 ([⟨(some 108), .faddr 7 (.t 5), none⟩], []),
 ([⟨(some 109), .load none (.t 108), none⟩], []),
 ([⟨(some 110), .move (.t 10), none⟩], []),
 ([⟨(some 111), .move (.t 3), none⟩], []),
 ([⟨(some 113), .load (some 3) (.t 4), none⟩], []),
 ([⟨(some 114), .faddr 5 (.t 5), none⟩], []),
 ([⟨(some 115), .load none (.t 114), none⟩], []),
 ([⟨(some 116), .iaddr 9 (.t 115) (.c (.int .i64 0)), none⟩], []),
 ([⟨(some 117), .load (some 9) (.t 116), none⟩], []),
 ([⟨(some 118), .move (.t 10), none⟩], []),
 ([⟨(some 119), .move (.t 3), none⟩], []),
 ([⟨(some 120), .move (.t 9), none⟩], []),
 ([⟨(some 121), .bin .int .add (.t 119) (.t 120), none⟩], []),
 ([⟨(some 123), .move (.t 9), none⟩], []),
 ([⟨(some 112), .call 130 [(.t 107), (.t 109), (.t 110), (.t 111)], none⟩], [⟨(some 113), .load (some 3) (.t 4), none⟩, ⟨(some 114), .faddr 5 (.t 5), none⟩, ⟨(some 115), .load none (.t 114), none⟩, ⟨(some 116), .iaddr 9 (.t 115) (.c (.int .i64 0)), none⟩, ⟨(some 117), .load (some 9) (.t 116), none⟩]),
 ([⟨(some 122), .call 69 [(.t 113), (.t 117), (.t 118), (.t 121)], none⟩], []),
 ([⟨(some 124), .call 72 [(.c (.int .i64 7)), (.t 123)], none⟩], []),
 ([⟨(some 125), .lit false 79 1 [(.t 112), (.t 122), (.t 124)], none⟩], []),
 ([⟨(some 126), .call 71 [(.t 125)], none⟩], []),
 ([⟨(some 8), .move (.t 126), none⟩], [])])
 .ret)))))
theorem in69 {args : List AV} {σ : Store} {K : AV → Store → Prop} (hargs : args.length ≤ 127 := by simp) (h : AWP Try.prog Try.f69.ntmps c69 (fun e t s => match e with | .exit _ => False | _ => Res [.slot 8] K t s) (env (argList 0 args)) σ) : ACalls Try.prog 69 args σ K :=
  enter (own := []) Try.func69 (by kernel_rfl) (by kernel_rfl) (by kernel_rfl) hargs h
/-- changeling/changelingref17.level -/
def c124 : ACode :=
(.seq
 (.reg [oo 4 (.move (.c (.int .i64 0)))])
 (.seq
 (.reg [oo 5 (.move (.c (.int .i64 0)))])
 (.seq
 (.seq
 (.reg [oo 6 (.move (.c (.int .i64 0)))])
 (.block 0
 (.loop
 (.seq
 (.seq
 (.reg [mv 7 6,
 mv 8 0,
 oo 9 (.len .slice (.t 8)),
 oo 10 (.bin .int .lss (.t 7) (.t 9))])
 (.cond (.t 10)
 .skip
 (.exit 0)))
 (.seq
 (.block 1
 (.seq
 (.reg [mv 13 0,
 mv 14 6,
 oo 15 (.iaddr 2 (.t 13) (.t 14)),
 oo 16 (.faddr 0 (.t 15)),
 oo 17 (.load none (.t 16)),
 mv 18 1,
 oo 19 (.bin .str .eql (.t 17) (.t 18))])
 (.cond (.t 19)
 (.reg [mv 20 0,
 mv 21 6,
 oo 22 (.iaddr 2 (.t 20) (.t 21)),
 oo 23 (.faddr 1 (.t 22)),
 oo 24 (.load none (.t 23)),
 mv 5 24])
 .skip)))
 (.reg [mv 11 6,
 oo 12 (.bin .int .add (.t 11) (.c (.int .i64 1))),
 mv 6 12]))))))
 (.seq
 (.reg [mv 25 5,
 mv 4 25])
 .ret))))
theorem in124 {args : List AV} {σ : Store} {K : AV → Store → Prop} (hargs : args.length ≤ 26 := by simp) (h : AWP Try.prog Try.f124.ntmps c124 (fun e t s => match e with | .exit _ => False | _ => Res [.slot 4] K t s) (env (argList 0 args)) σ) : ACalls Try.prog 124 args σ K :=
  enter (own := []) Try.func124 (by kernel_rfl) (by kernel_rfl) (by kernel_rfl) hargs h
/-- changeling/changelingref17.one -/
def c72 : ACode :=
(.seq
 (.reg [oo 4 (.move (.c .nils))])
 (.seq
 (.reg [mv 5 0,
 mv 6 1,
 oo 7 (.build [(.int .i64 0), (.int .i64 0), (.int .i64 0), .nils] [(0, 1, (.t 5)), (1, 1, (.t 6))]),
 oo 8 (.lit false 139 4 [(.t 7)]),
 mv 4 8])
 .ret))
theorem in72 {args : List AV} {σ : Store} {K : AV → Store → Prop} (hargs : args.length ≤ 9 := by simp) (h : AWP Try.prog Try.f72.ntmps c72 (fun e t s => match e with | .exit _ => False | _ => Res [.slot 4] K t s) (env (argList 0 args)) σ) : ACalls Try.prog 72 args σ K :=
  enter (own := []) Try.func72 (by kernel_rfl) (by kernel_rfl) (by kernel_rfl) hargs h
/-- changeling/changelingref17.glob -/
def c125 : ACode :=
(.seq
 (.reg [oo 2 (.new 162 (.t 0)),
 oo 4 (.move (.c (.int .i64 0)))])
 (.seq
 (.reg [oo 6 (.faddr 0 (.t 2)),
 oo 7 (.load none (.t 6)),
 mv 8 1,
 oo 9 (.call 126 [(.t 7), (.t 8)]),
 mv 5 9])
 (.seq
 (.seq
 (.reg [mv 10 5,
 oo 11 (.bin .int .geq (.t 10) (.c (.int .i64 0)))])
 (.cond (.t 11)
 (.seq
 (.reg [mv 12 5,
 mv 4 12])
 .ret)
 .skip))
 (.seq
 (.draw [] [([⟨(some 13), .load (some 3) (.t 2), none⟩], []),
 ([⟨(some 14), .move (.t 1), none⟩], []),
 ([⟨(some 15), .call 50 [(.t 14)], none⟩], [⟨(some 13), .load (some 3) (.t 2), none⟩]),
 ([⟨(some 16), .call 127 [(.t 13), (.t 15)], none⟩], []),
 ([⟨(some 4), .move (.t 16), none⟩], [])])
 .ret))))
theorem in125 {args : List AV} {σ : Store} {K : AV → Store → Prop} (hargs : args.length ≤ 17 := by simp) (h : AWP Try.prog Try.f125.ntmps c125 (fun e t s => match e with | .exit _ => False | _ => Res [.slot 4] K t s) (env (argList 0 args)) σ) : ACalls Try.prog 125 args σ K :=
  enter (own := []) Try.func125 (by kernel_rfl) (by kernel_rfl) (by kernel_rfl) hargs h
/-- changeling/changelingref17.operator -/
def c127 : ACode :=
(.seq
 (.reg [oo 2 (.new 162 (.t 0)),
 oo 4 (.move (.c (.int .i64 0)))])
 (.seq
 (.reg [oo 5 (.faddr 0 (.t 2)),
 oo 6 (.load none (.t 5)),
 oo 7 (.len .slice (.t 6)),
 oo 8 (.faddr 1 (.t 2)),
 oo 9 (.load none (.t 8)),
 oo 10 (.len .slice (.t 9)),
 oo 11 (.bin .int .add (.t 7) (.t 10)),
 mv 12 1,
 oo 13 (.bin .int .add (.t 11) (.t 12)),
 oo 14 (.bin .int .sub (.t 13) (.c (.int .i64 1))),
 mv 4 14])
 .ret))
theorem in127 {args : List AV} {σ : Store} {K : AV → Store → Prop} (hargs : args.length ≤ 15 := by simp) (h : AWP Try.prog Try.f127.ntmps c127 (fun e t s => match e with | .exit _ => False | _ => Res [.slot 4] K t s) (env (argList 0 args)) σ) : ACalls Try.prog 127 args σ K :=
  enter (own := []) Try.func127 (by kernel_rfl) (by kernel_rfl) (by kernel_rfl) hargs h
/-- changeling/changelingref17.few -/
def c71 : ACode :=
(.seq
 (.reg [oo 2 (.move (.c .nils))])
 (.seq
 (.reg [oo 3 (.move (.c .nils))])
 (.seq
 (.seq
 (.reg [oo 4 (.move (.c (.int .i64 0)))])
 (.block 0
 (.loop
 (.seq
 (.seq
 (.reg [mv 6 4,
 mv 7 0,
 oo 8 (.len .slice (.t 7)),
 oo 9 (.bin .int .lss (.t 6) (.t 8))])
 (.cond (.t 9)
 .skip
 (.exit 0)))
 (.seq
 (.block 1
 (.seq
 (.reg [oo 5 (.move (.c (.int .i64 0)))])
 (.block 2
 (.loop
 (.seq
 (.seq
 (.reg [mv 12 5,
 mv 13 0,
 mv 14 4,
 oo 15 (.iaddr 1 (.t 13) (.t 14)),
 oo 16 (.load none (.t 15)),
 oo 17 (.len .slice (.t 16)),
 oo 18 (.bin .int .lss (.t 12) (.t 17))])
 (.cond (.t 18)
 .skip
 (.exit 2)))
 (.seq
 (.block 3
 (.reg [mv 21 3,
 mv 22 0,
 mv 23 4,
 oo 24 (.iaddr 1 (.t 22) (.t 23)),
 oo 25 (.load none (.t 24)),
 mv 26 5,
 oo 27 (.iaddr 4 (.t 25) (.t 26)),
 oo 28 (.load (some 4) (.t 27)),
 oo 29 (.lit false 139 4 [(.t 28)]),
 oo 30 (.append 139 4 48 (.t 21) (.t 29)),
 mv 3 30]))
 (.reg [mv 19 5,
 oo 20 (.bin .int .add (.t 19) (.c (.int .i64 1))),
 mv 5 20])))))))
 (.reg [mv 10 4,
 oo 11 (.bin .int .add (.t 10) (.c (.int .i64 1))),
 mv 4 11]))))))
 (.seq
 (.reg [mv 31 3,
 mv 2 31])
 .ret))))
theorem in71 {args : List AV} {σ : Store} {K : AV → Store → Prop} (hargs : args.length ≤ 32 := by simp) (h : AWP Try.prog Try.f71.ntmps c71 (fun e t s => match e with | .exit _ => False | _ => Res [.slot 2] K t s) (env (argList 0 args)) σ) : ACalls Try.prog 71 args σ K :=
  enter (own := []) Try.func71 (by kernel_rfl) (by kernel_rfl) (by kernel_rfl) hargs h
/-- changeling/changelingref17.names -/
def c129 : ACode :=
(.seq
 (.reg [oo 2 (.move (.c .nils))])
 (.seq
 (.reg [oo 3 (.move (.c .nils))])
 (.seq
 (.seq
 (.reg [oo 4 (.move (.c (.int .i64 0)))])
 (.block 0
 (.loop
 (.seq
 (.seq
 (.reg [mv 5 4,
 mv 6 0,
 oo 7 (.len .slice (.t 6)),
 oo 8 (.bin .int .lss (.t 5) (.t 7))])
 (.cond (.t 8)
 .skip
 (.exit 0)))
 (.seq
 (.block 1
 (.reg [mv 11 3,
 mv 12 0,
 mv 13 4,
 oo 14 (.iaddr 10 (.t 12) (.t 13)),
 oo 15 (.faddr 0 (.t 14)),
 oo 16 (.load none (.t 15)),
 oo 17 (.lit false 9 1 [(.t 16)]),
 oo 18 (.append 9 1 16 (.t 11) (.t 17)),
 mv 3 18]))
 (.reg [mv 9 4,
 oo 10 (.bin .int .add (.t 9) (.c (.int .i64 1))),
 mv 4 10]))))))
 (.seq
 (.reg [mv 19 3,
 mv 2 19])
 .ret))))
theorem in129 {args : List AV} {σ : Store} {K : AV → Store → Prop} (hargs : args.length ≤ 20 := by simp) (h : AWP Try.prog Try.f129.ntmps c129 (fun e t s => match e with | .exit _ => False | _ => Res [.slot 2] K t s) (env (argList 0 args)) σ) : ACalls Try.prog 129 args σ K :=
  enter (own := []) Try.func129 (by kernel_rfl) (by kernel_rfl) (by kernel_rfl) hargs h
/-- changeling/changelingref17.with -/
def c128 : ACode :=
(.seq
 (.reg [oo 8 (.move (.c .nils))])
 (.seq
 (.reg [oo 9 (.move (.c .nils))])
 (.seq
 (.seq
 (.reg [oo 10 (.move (.c (.int .i64 0)))])
 (.block 0
 (.loop
 (.seq
 (.seq
 (.reg [mv 12 10,
 mv 13 0,
 oo 14 (.len .slice (.t 13)),
 oo 15 (.bin .int .lss (.t 12) (.t 14))])
 (.cond (.t 15)
 .skip
 (.exit 0)))
 (.seq
 (.block 1
 (.reg [mv 18 9,
 mv 19 0,
 mv 20 10,
 oo 21 (.iaddr 2 (.t 19) (.t 20)),
 oo 22 (.load (some 2) (.t 21)),
 oo 23 (.lit false 258 2 [(.t 22)]),
 oo 24 (.append 258 2 24 (.t 18) (.t 23)),
 mv 9 24]))
 (.reg [mv 16 10,
 oo 17 (.bin .int .add (.t 16) (.c (.int .i64 1))),
 mv 10 17]))))))
 (.seq
 (.seq
 (.reg [oo 11 (.move (.c (.int .i64 0)))])
 (.block 2
 (.loop
 (.seq
 (.seq
 (.reg [mv 25 11,
 mv 26 1,
 oo 27 (.len .slice (.t 26)),
 oo 28 (.bin .int .lss (.t 25) (.t 27))])
 (.cond (.t 28)
 .skip
 (.exit 2)))
 (.seq
 (.block 3
 (.reg [mv 31 9,
 mv 32 1,
 mv 33 11,
 oo 34 (.iaddr 1 (.t 32) (.t 33)),
 oo 35 (.load none (.t 34)),
 mv 36 2,
 mv 37 11,
 mv 38 3,
 oo 39 (.bin .int .mul (.t 37) (.t 38)),
 oo 40 (.bin .int .add (.t 36) (.t 39)),
 oo 41 (.build [(.str ⟨#[]⟩), (.int .i64 0)] [(0, 1, (.t 35)), (1, 1, (.t 40))]),
 oo 42 (.lit false 258 2 [(.t 41)]),
 oo 43 (.append 258 2 24 (.t 31) (.t 42)),
 mv 9 43]))
 (.reg [mv 29 11,
 oo 30 (.bin .int .add (.t 29) (.c (.int .i64 1))),
 mv 11 30]))))))
 (.seq
 (.reg [mv 44 9,
 mv 8 44])
 .ret)))))
theorem in128 {args : List AV} {σ : Store} {K : AV → Store → Prop} (hargs : args.length ≤ 45 := by simp) (h : AWP Try.prog Try.f128.ntmps c128 (fun e t s => match e with | .exit _ => False | _ => Res [.slot 8] K t s) (env (argList 0 args)) σ) : ACalls Try.prog 128 args σ K :=
  enter (own := []) Try.func128 (by kernel_rfl) (by kernel_rfl) (by kernel_rfl) hargs h
/-- changeling/changelingref17.Binds -/
def c130 : ACode :=
(.seq
 (.reg [oo 4 (.new 162 (.t 0)),
 oo 8 (.move (.c .nils))])
 (.seq
 (.reg [mv 12 1,
 oo 13 (.len .slice (.t 12)),
 mv 9 13])
 (.seq
 (.reg [mv 14 9,
 oo 15 (.call 72 [(.c (.int .i64 8)), (.t 14)]),
 mv 10 15])
 (.seq
 (.seq
 (.reg [oo 11 (.move (.c (.int .i64 0)))])
 (.block 0
 (.loop
 (.seq
 (.seq
 (.reg [mv 16 11,
 mv 17 9,
 oo 18 (.bin .int .lss (.t 16) (.t 17))])
 (.cond (.t 18)
 .skip
 (.exit 0)))
 (.seq
 (.block 1
 (.reg [mv 21 10,
 oo 22 (.load (some 3) (.t 4)),
 mv 23 1,
 mv 24 11,
 oo 25 (.iaddr 10 (.t 23) (.t 24)),
 oo 26 (.faddr 1 (.t 25)),
 oo 27 (.load (some 9) (.t 26)),
 mv 28 2,
 mv 29 3,
 mv 30 9,
 oo 31 (.bin .int .add (.t 29) (.t 30)),
 mv 33 9,
 oo 34 (.bin .int .sub (.t 33) (.c (.int .i64 1))),
 mv 35 11,
 oo 36 (.bin .int .sub (.t 34) (.t 35)),
 oo 32 (.call 69 [(.t 22), (.t 27), (.t 28), (.t 31)]),
 oo 37 (.call 72 [(.c (.int .i64 5)), (.t 36)]),
 oo 38 (.lit false 79 1 [(.t 21), (.t 32), (.t 37)]),
 oo 39 (.call 71 [(.t 38)]),
 mv 10 39]))
 (.reg [mv 19 11,
 oo 20 (.bin .int .add (.t 19) (.c (.int .i64 1))),
 mv 11 20]))))))
 (.seq
 (.reg [mv 40 10,
 mv 8 40])
 .ret)))))
theorem in130 {args : List AV} {σ : Store} {K : AV → Store → Prop} (hargs : args.length ≤ 41 := by simp) (h : AWP Try.prog Try.f130.ntmps c130 (fun e t s => match e with | .exit _ => False | _ => Res [.slot 8] K t s) (env (argList 0 args)) σ) : ACalls Try.prog 130 args σ K :=
  enter (own := []) Try.func130 (by kernel_rfl) (by kernel_rfl) (by kernel_rfl) hargs h
end Go.Proofs.Ytjjbjibbjbbeaaa
/- Numbers read, local names: exactly. -/
set_option linter.unusedVariables false
set_option linter.unusedSimpArgs false
namespace Go.AL
theorem valN_take {l : List UInt8} {i : Nat} {b : UInt8} (h : l[i]? = some b) : valN (l.take (i + 1)) = valN (l.take i) * 10 + (b.toNat - 48) := by
  rw [List.take_add_one, h, Option.toList_some, valN_snoc]
theorem dig_take {l : List UInt8} {i : Nat} {b : UInt8} (h : l[i]? = some b) (hd : ∀ c, c ∈ l.take i → digitB c) (hb : digitB b) : ∀ c, c ∈ l.take (i + 1) → digitB c := by
  intro c hc
  rw [List.take_add_one, h] at hc
  rcases List.mem_append.1 hc with h1 | h1
  · exact hd c h1
  · simp at h1; subst h1; exact hb
theorem valN_bd {l : List UInt8} (h : ∀ b, b ∈ l → digitB b) (hl : l.length ≤ 19) : valN l < 10000000000000000000 := by
  have h1 := valN_lt l.length l rfl h
  have h2 : (10 : Nat) ^ l.length ≤ 10 ^ 19 := Nat.pow_le_pow_right (by omega) hl
  omega
theorem u64_of {x : Int} (h0 : 0 ≤ x) (h1 : x < 18446744073709551616) : IntKind.u64.wrap x = x := by rw [wrap_u64']; omega
theorem u8_of {x : Int} (h0 : 0 ≤ x) (h1 : x < 256) : IntKind.u8.wrap x = x := by
  have : IntKind.u8.wrap x = x % 256 := by simp [IntKind.wrap, IntKind.bits, IntKind.signed]
  rw [this]; omega
/-- One digit more. -/
theorem valN_step {l : List UInt8} {i : Nat} {b : UInt8} (h : l[i]? = some b) (hl : l.length ≤ 19) (hd : ∀ c, c ∈ l.take i → digitB c) (hb : digitB b) :
    IntKind.u64.wrap (IntKind.u64.wrap (((valN (l.take i) : Nat) : Int) * 10) + IntKind.u64.wrap (IntKind.u8.wrap ((b.toNat : Int) - 48))) = ((valN (l.take (i + 1)) : Nat) : Int) := by
  have h1 := valN_bd (dig_take h hd hb) (by rw [List.length_take]; omega)
  have h2 := valN_take h
  unfold digitB at hb
  rw [u8_of (x := (b.toNat : Int) - 48) (by omega) (by omega), u64_of (x := (b.toNat : Int) - 48) (by omega) (by omega), u64_of (x := ((valN (l.take i) : Nat) : Int) * 10) (by omega) (by omega), u64_of (by omega) (by omega)]
  omega
theorem u8_eq (b c : UInt8) : ((b.toNat : Int) = (c.toNat : Int)) ↔ b = c := ⟨fun h => UInt8.toNat_inj.1 (by omega), fun h => by rw [h]⟩
theorem u8_45 (b : UInt8) : ((b.toNat : Int) = 45) ↔ b = 45 := u8_eq b 45
theorem u8_48 (b : UInt8) : ((b.toNat : Int) = 48) ↔ b = 48 := u8_eq b 48
theorem u8_35 (b : UInt8) : ((b.toNat : Int) = 35) ↔ b = 35 := u8_eq b 35
theorem bl_none {s : ByteArray} {i : Nat} (h : ¬ (i : Int) < (s.size : Int)) : (bl s)[i]? = none := List.getElem?_eq_none (by rw [bl_len]; omega)
theorem at_iff {l : List UInt8} {b c : UInt8} {i : Nat} (h : l[i]? = some b) : l[i]? = some c ↔ b = c := by rw [h]; exact ⟨fun e => by cases e; rfl, fun e => by rw [e]⟩
end Go.AL
namespace Go.Proofs.Ytjjbjibbjbbeaaa
open Go.AL
theorem parseE (s : ByteArray) (σ : Store) : ACalls Try.prog 141 [.str s] σ fun r σ' => (∃ p : Int × Int, r = .tuple [.int .i64 p.1, .int .i64 p.2] ∧ (p.2 = 0 ↔ NumT (bl s))) ∧ σ' = σ := by
  refine in141 (by simp) ?_
  unfold c141
  try simp only [YY, ↓reduceIte, Nat.reduceEqDiff, Nat.reduceAdd, Nat.reduceLeDiff, reduceCtorEq, Int.reduceEq, Int.reduceLT, Int.reduceLE, Int.reduceNeg, Int.reduceAdd, Int.reduceSub, Int.reduceToNat]
  iterate 5 ((with_reducible refine WW (by decide) ?_); refine unr ?_; try simp only [YY, ↓reduceIte, Nat.reduceEqDiff, Nat.reduceAdd, Nat.reduceLeDiff, reduceCtorEq, Int.reduceEq, Int.reduceLT, Int.reduceLE, Int.reduceNeg, Int.reduceAdd, Int.reduceSub, Int.reduceToNat])
  refine AWP_cut [0, 2, 3, 4, 5] (fun b : Bool => [.str s, .int .i64 0, .int .i64 0, .str s, .bool b]) (fun b t => t = σ ∧ (b = true ↔ (bl s)[0]? = some 45)) ?_ ?_
  · refine raw ?_
    repeat' (first | (with_reducible refine unr ?_; try simp only [YY, ↓reduceIte, Nat.reduceEqDiff, Nat.reduceAdd, Nat.reduceLeDiff, reduceCtorEq, Int.reduceEq, Int.reduceLT, Int.reduceLE, Int.reduceNeg, Int.reduceAdd, Int.reduceSub, Int.reduceToNat, str_nil, *]) | (with_reducible first | refine WW (by decide) ?_ | refine ok_idx (by first | assumption | omega) (fun b hb => raw ?_) | refine ok_iad (by first | assumption | omega) (fun x hx hxm => raw ?_) | refine And.intro (by omega) (raw ?_) | (refine guardW_b (fun h => raw ?_) (fun h => raw ?_) <;> try simp only [Ty] at h) | (refine ePick_b (fun h => raw ?_) (fun h => raw ?_) <;> try simp only [Ty] at h) | (refine condW_b (fun h => raw ?_) (fun h => raw ?_) <;> try simp only [Ty] at h)))
    · exact ⟨_, rfl, by rw [at_iff (l := bl s) hb, decide_eq_true_iff, u8_45]⟩
    · exact ⟨_, rfl, by rw [bl_none (i := 0) (by omega)]; simp⟩
  rintro b t ⟨rfl, hb⟩
  refine AWP_cut [0, 2, 3, 4, 5] (fun x : ByteArray => [.str s, .int .i64 0, .int .i64 0, .str x, .bool b]) (fun x s' => s' = t ∧ Hid (bl x = if b = true then (bl s).drop 1 else bl s)) ?_ ?_
  · cases b with
    | true =>
      have h0 : 0 < s.size := by rw [← bl_len]; exact (List.getElem?_eq_some_iff.1 (hb.1 rfl)).1
      have h1 : (1 : Int) ≤ (s.size : Int) := by omega
      refine raw ?_
      repeat (first | (with_reducible refine unr ?_; try simp only [YY, ↓reduceIte, Nat.reduceEqDiff, Nat.reduceAdd, Nat.reduceLeDiff, reduceCtorEq, Int.reduceEq, Int.reduceLT, Int.reduceLE, Int.reduceNeg, Int.reduceAdd, Int.reduceSub, Int.reduceToNat, h1]) | (with_reducible refine WW (by decide) ?_))
      exact ⟨_, rfl, ⟨by rw [bl_ext, List.take_of_length_le (by rw [bl_len]; simp)]⟩⟩
    | false =>
      refine raw ?_
      repeat (first | (with_reducible refine unr ?_; try simp only [YY, ↓reduceIte, Nat.reduceEqDiff, Nat.reduceAdd, Nat.reduceLeDiff, reduceCtorEq, Int.reduceEq, Int.reduceLT, Int.reduceLE, Int.reduceNeg, Int.reduceAdd, Int.reduceSub, Int.reduceToNat]) | (with_reducible refine WW (by decide) ?_))
      exact ⟨_, rfl, ⟨by simp⟩⟩
  rintro x t ⟨rfl, hx⟩
  have hN : Hid (NumD b (bl x) ↔ NumT (bl s)) := by
    refine ⟨?_⟩
    unfold NumT
    cases b with
    | true => rw [if_pos (hb.1 rfl), hx.out, if_pos rfl]
    | false => rw [if_neg (fun e => by have := hb.2 e; cases this), hx.out]; simp
  have hsz : Hid ((s.size : Int) = x.size + (if b = true then 1 else 0)) := by
    refine ⟨?_⟩
    have e := congrArg List.length hx.out
    cases b with
    | true =>
      have h0 : 0 < s.size := by rw [← bl_len]; exact (List.getElem?_eq_some_iff.1 (hb.1 rfl)).1
      simp [bl_len] at e; simp; omega
    | false => simp [bl_len] at e; simp; omega
  replace hb : Hid (b = true ↔ (bl s)[0]? = some 45) := ⟨hb⟩
  refine AWP_cut [0, 2, 3, 4, 5] (fun z : Unit => [.str s, .int .i64 0, .int .i64 0, .str x, .bool b]) (fun z s' => s' = t ∧ Hid (0 < x.size ∧ x.size ≤ 19 ∧ ((bl x)[0]? = some 48 → x.size = 1 ∧ b = false))) ?_ ?_
  · refine raw ?_
    repeat' (first | (with_reducible refine unr ?_; try simp only [YY, ↓reduceIte, Nat.reduceEqDiff, Nat.reduceAdd, Nat.reduceLeDiff, reduceCtorEq, Int.reduceEq, Int.reduceLT, Int.reduceLE, Int.reduceNeg, Int.reduceAdd, Int.reduceSub, Int.reduceToNat, str_nil, *]) | (with_reducible first | refine WW (by decide) ?_ | refine ok_idx (by first | assumption | omega) (fun b hb => raw ?_) | refine ok_iad (by first | assumption | omega) (fun x hx hxm => raw ?_) | refine And.intro (by omega) (raw ?_) | (refine guardW_b (fun h => raw ?_) (fun h => raw ?_) <;> try simp only [Ty] at h) | (refine ePick_b (fun h => raw ?_) (fun h => raw ?_) <;> try simp only [Ty] at h) | (refine condW_b (fun h => raw ?_) (fun h => raw ?_) <;> try simp only [Ty] at h)))
    · refine ⟨(_, _), rfl, ?_⟩
      rw [← hN.out]
      exact ⟨by simp, fun hh => absurd (bl_len x) (by rw [h]; exact fun e => hh.1 (List.eq_nil_of_length_eq_zero e))⟩
    · refine ⟨(_, _), rfl, ?_⟩
      rw [← hN.out]
      exact ⟨by simp, fun hh => by have := hh.2.1; rw [bl_len] at this; omega⟩
    · rename_i hq
      refine ⟨(_, _), rfl, ?_⟩
      rw [← hN.out]
      refine ⟨by simp, fun hh => ?_⟩
      have h2 := hh.2.2.2.1 (by rw [at_iff (l := bl x) hb]; exact (u8_48 _).1 hq)
      have h3 := hsz.out
      rw [bl_len] at h2
      rw [h2.2] at h3
      simp at h3
      omega
    · rename_i hq h
      refine ⟨(), ⟨by omega, by omega, fun _ => ?_⟩⟩
      have h3 := hsz.out
      revert h3
      split
      · intro h3; omega
      · rename_i hb0; intro h3; exact ⟨by omega, by simpa using hb0⟩
    · refine ⟨(), ⟨by omega, by omega, fun e => ?_⟩⟩
      rw [at_iff (l := bl x) hb] at e
      exact absurd ((u8_48 _).2 e) h
  rintro _ t ⟨rfl, hx2⟩
  obtain ⟨h0, h19, h48⟩ := hx2.out
  replace h48 : Hid ((bl x)[0]? = some 48 → x.size = 1 ∧ b = false) := ⟨h48⟩
  clear hx2 hx hsz
  try simp only [YY, ↓reduceIte, Nat.reduceEqDiff, Nat.reduceAdd, Nat.reduceLeDiff, reduceCtorEq, Int.reduceEq, Int.reduceLT, Int.reduceLE, Int.reduceNeg, Int.reduceAdd, Int.reduceSub, Int.reduceToNat]
  iterate 6 ((with_reducible refine WW (by decide) ?_); refine unr ?_; try simp only [YY, ↓reduceIte, Nat.reduceEqDiff, Nat.reduceAdd, Nat.reduceLeDiff, reduceCtorEq, Int.reduceEq, Int.reduceLT, Int.reduceLE, Int.reduceNeg, Int.reduceAdd, Int.reduceSub, Int.reduceToNat])
  refine AWP_cut [0, 5, 6, 7] (fun y : Int × Bool => [.str s, .bool b, .int .u64 y.1, .bool y.2]) (fun y s' => s' = t ∧ Hid ((y.2 = true → y.1 = valN (bl x) ∧ ∀ c, c ∈ bl x → digitB c) ∧ (y.2 = false → ∃ c, c ∈ bl x ∧ ¬ digitB c))) ?_ ?_
  · refine raw ?_
    repeat (first | (with_reducible refine unr ?_; try simp only [YY, ↓reduceIte, Nat.reduceEqDiff, Nat.reduceAdd, Nat.reduceLeDiff, reduceCtorEq, Int.reduceEq, Int.reduceLT, Int.reduceLE, Int.reduceNeg, Int.reduceAdd, Int.reduceSub, Int.reduceToNat]) | (with_reducible refine WW (by decide) ?_))
    refine AWP_while [0, 4, 5, 6, 7, 8] (fun i : Nat => x.size - i) (fun i => [.str s, .str x, .bool b, .int .u64 (valN ((bl x).take i)), .bool true, .int .i64 i]) (fun i s' => s' = t ∧ i ≤ x.size ∧ Hid (∀ c, c ∈ (bl x).take i → digitB c)) 0 ⟨rfl, by simp, ⟨by simp⟩⟩ ?_ ?_
    · refine raw ?_
      repeat (first | (with_reducible refine unr ?_; try simp only [YY, ↓reduceIte, Nat.reduceEqDiff, Nat.reduceAdd, Nat.reduceLeDiff, reduceCtorEq, Int.reduceEq, Int.reduceLT, Int.reduceLE, Int.reduceNeg, Int.reduceAdd, Int.reduceSub, Int.reduceToNat]) | (with_reducible refine WW (by decide) ?_))
      rfl
    rintro i t ⟨rfl, hi, hd⟩
    have hw := wrap_succ (i := i) (by omega)
    refine raw ?_
    repeat' (first | (with_reducible refine unr ?_; try simp only [YY, ↓reduceIte, Nat.reduceEqDiff, Nat.reduceAdd, Nat.reduceLeDiff, reduceCtorEq, Int.reduceEq, Int.reduceLT, Int.reduceLE, Int.reduceNeg, Int.reduceAdd, Int.reduceSub, Int.reduceToNat, str_nil, *]) | (with_reducible first | refine WW (by decide) ?_ | refine ok_idx (by first | assumption | omega) (fun b hb => raw ?_) | refine ok_iad (by first | assumption | omega) (fun x hx hxm => raw ?_) | refine And.intro (by omega) (raw ?_) | (refine guardW_b (fun h => raw ?_) (fun h => raw ?_) <;> try simp only [Ty] at h) | (refine ePick_b (fun h => raw ?_) (fun h => raw ?_) <;> try simp only [Ty] at h) | (refine condW_b (fun h => raw ?_) (fun h => raw ?_) <;> try simp only [Ty] at h)))
    · exact ⟨(_, false), rfl, ⟨by simp, fun _ => ⟨b, List.mem_of_getElem? (l := bl x) hb, by unfold digitB; omega⟩⟩⟩
    · exact ⟨(_, false), rfl, ⟨by simp, fun _ => ⟨b, List.mem_of_getElem? (l := bl x) hb, by unfold digitB; omega⟩⟩⟩
    · have hb3 : digitB b := by unfold digitB; omega
      rw [valN_step (l := bl x) hb (by rw [bl_len]; omega) hd.out hb3]
      exact ⟨i + 1, rfl, ⟨by omega, ⟨dig_take (l := bl x) hb hd.out hb3⟩⟩, by omega⟩
    · have hd := hd.out
      rw [List.take_of_length_le (by rw [bl_len]; omega)] at hd ⊢
      exact ⟨(_, true), rfl, ⟨fun _ => ⟨rfl, hd⟩, by simp⟩⟩
  rintro ⟨a, g⟩ t ⟨rfl, hg⟩
  simp only at hg
  cases g with
  | false =>
    obtain ⟨c, hc, hn⟩ := hg.out.2 rfl
    refine raw ?_
    repeat (first | (with_reducible refine unr ?_; try simp only [YY, ↓reduceIte, Nat.reduceEqDiff, Nat.reduceAdd, Nat.reduceLeDiff, reduceCtorEq, Int.reduceEq, Int.reduceLT, Int.reduceLE, Int.reduceNeg, Int.reduceAdd, Int.reduceSub, Int.reduceToNat]) | (with_reducible refine WW (by decide) ?_))
    refine ⟨(_, _), rfl, ?_⟩
    rw [← hN.out]
    exact ⟨by simp, fun hh => absurd (hh.2.2.1 c hc) hn⟩
  | true =>
    obtain ⟨rfl, hd⟩ := hg.out.1 rfl
    replace hd : Hid (∀ c, c ∈ bl x → digitB c) := ⟨hd⟩
    have hfin : Hid (NumT (bl s) ↔ valN (bl x) ≤ 9223372036854775808 ∧ (valN (bl x) = 9223372036854775808 → b = true)) := by
      refine ⟨?_⟩
      rw [← hN.out]
      have hne : bl x ≠ [] := fun e => by have := bl_len x; rw [e] at this; simp at this; omega
      exact ⟨fun h => ⟨h.2.2.2.2.1, h.2.2.2.2.2⟩, fun h => ⟨hne, by rw [bl_len]; exact h19, hd.out, fun e => by rw [bl_len]; exact h48.out e, h.1, h.2⟩⟩
    clear hg
    refine raw ?_
    repeat' (first | (with_reducible refine unr ?_; try simp only [YY, ↓reduceIte, Nat.reduceEqDiff, Nat.reduceAdd, Nat.reduceLeDiff, reduceCtorEq, Int.reduceEq, Int.reduceLT, Int.reduceLE, Int.reduceNeg, Int.reduceAdd, Int.reduceSub, Int.reduceToNat, str_nil, *]) | (with_reducible first | refine WW (by decide) ?_ | refine ok_idx (by first | assumption | omega) (fun b hb => raw ?_) | refine ok_iad (by first | assumption | omega) (fun x hx hxm => raw ?_) | refine And.intro (by omega) (raw ?_) | (refine guardW_b (fun h => raw ?_) (fun h => raw ?_) <;> try simp only [Ty] at h) | (refine ePick_b (fun h => raw ?_) (fun h => raw ?_) <;> try simp only [Ty] at h) | (refine condW_b (fun h => raw ?_) (fun h => raw ?_) <;> try simp only [Ty] at h)))
    all_goals refine ⟨(_, _), rfl, ?_⟩
    all_goals rw [hfin.out]
    · exact ⟨fun e => absurd e (by decide), fun hh => by omega⟩
    · exact ⟨fun e => absurd e (by decide), fun hh => by have := hh.2 (by omega); rw [h] at this; cases this⟩
    · exact ⟨fun _ => ⟨by omega, fun _ => h⟩, fun _ => rfl⟩
    · exact ⟨fun _ => ⟨by omega, fun e => by omega⟩, fun _ => rfl⟩
    · exact ⟨fun _ => ⟨by omega, fun e => by omega⟩, fun _ => rfl⟩
theorem prefixE (s p : ByteArray) (σ : Store) : ACalls Try.prog 173 [.str s, .str p] σ fun r σ' => (∃ b : Bool, r = .bool b ∧ (b = true ↔ (bl s).take p.size = bl p)) ∧ σ' = σ := by
  refine in173 (by simp) ?_
  unfold c173
  by_cases h : p.size ≤ s.size
  · have h' : (p.size : Int) ≤ (s.size : Int) := by omega
    have h0 : (0 : Int) ≤ (p.size : Int) := by omega
    refine raw ?_
    repeat (first | (with_reducible refine unr ?_; try simp only [YY, ↓reduceIte, Nat.reduceEqDiff, Nat.reduceAdd, Nat.reduceLeDiff, reduceCtorEq, Int.reduceEq, Int.reduceLT, Int.reduceLE, Int.reduceNeg, Int.reduceAdd, Int.reduceSub, Int.reduceToNat, h', h0]) | (with_reducible refine WW (by decide) ?_))
    exact ⟨_, rfl, by rw [decide_eq_true_iff, bl_eq, bl_ext]; simp⟩
  · have h' : ¬ (p.size : Int) ≤ (s.size : Int) := by omega
    refine raw ?_
    repeat (first | (with_reducible refine unr ?_; try simp only [YY, ↓reduceIte, Nat.reduceEqDiff, Nat.reduceAdd, Nat.reduceLeDiff, reduceCtorEq, Int.reduceEq, Int.reduceLT, Int.reduceLE, Int.reduceNeg, Int.reduceAdd, Int.reduceSub, Int.reduceToNat, h']) | (with_reducible refine WW (by decide) ?_))
    refine ⟨_, rfl, by simp, fun e => ?_⟩
    have := congrArg List.length e
    rw [List.length_take, bl_len, bl_len] at this
    omega
theorem hasPrefixE (s p : ByteArray) (σ : Store) : ACalls Try.prog 169 [.str s, .str p] σ fun r σ' => (∃ b : Bool, r = .bool b ∧ (b = true ↔ (bl s).take p.size = bl p)) ∧ σ' = σ := by
  refine in169 (by simp) ?_
  unfold c169
  refine raw ?_
  repeat (first | (with_reducible refine unr ?_; try simp only [YY, ↓reduceIte, Nat.reduceEqDiff, Nat.reduceAdd, Nat.reduceLeDiff, reduceCtorEq, Int.reduceEq, Int.reduceLT, Int.reduceLE, Int.reduceNeg, Int.reduceAdd, Int.reduceSub, Int.reduceToNat]) | (with_reducible refine WW (by decide) ?_))
  refine (prefixE s p σ).mono ?_
  rintro r t ⟨⟨b, rfl, hb⟩, rfl⟩
  refine raw ?_
  repeat (first | (with_reducible refine unr ?_; try simp only [YY, ↓reduceIte, Nat.reduceEqDiff, Nat.reduceAdd, Nat.reduceLeDiff, reduceCtorEq, Int.reduceEq, Int.reduceLT, Int.reduceLE, Int.reduceNeg, Int.reduceAdd, Int.reduceSub, Int.reduceToNat]) | (with_reducible refine WW (by decide) ?_))
  exact ⟨b, rfl, hb⟩
theorem localE (s : ByteArray) (σ : Store) : ACalls Try.prog 154 [.str s] σ fun r σ' => (∃ b : Bool, r = .bool b ∧ (b = true ↔ LocN s)) ∧ σ' = σ := by
  have p1 : (bl s).take 1 = [35] ↔ (bl s)[0]? = some 35 := by
    cases bl s with
    | nil => simp
    | cons x r => simp
  have p2 : (bl s).take 2 = [35, 45] ↔ (bl s)[0]? = some 35 ∧ (bl s)[1]? = some 45 := by
    cases bl s with
    | nil => simp
    | cons x r =>
      cases r with
      | nil => simp
      | cons y r => simp
  refine in154 (by simp) ?_
  unfold c154
  refine raw ?_
  repeat (first | (with_reducible refine unr ?_; try simp only [YY, ↓reduceIte, Nat.reduceEqDiff, Nat.reduceAdd, Nat.reduceLeDiff, reduceCtorEq, Int.reduceEq, Int.reduceLT, Int.reduceLE, Int.reduceNeg, Int.reduceAdd, Int.reduceSub, Int.reduceToNat]) | (with_reducible refine WW (by decide) ?_))
  refine (hasPrefixE s _ σ).mono ?_
  rintro r t ⟨⟨b, rfl, hb⟩, rfl⟩
  have hb : b = true ↔ (bl s)[0]? = some 35 := hb.trans p1
  cases b with
  | false =>
    refine raw ?_
    repeat (first | (with_reducible refine unr ?_; try simp only [YY, ↓reduceIte, Nat.reduceEqDiff, Nat.reduceAdd, Nat.reduceLeDiff, reduceCtorEq, Int.reduceEq, Int.reduceLT, Int.reduceLE, Int.reduceNeg, Int.reduceAdd, Int.reduceSub, Int.reduceToNat]) | (with_reducible refine WW (by decide) ?_))
    exact ⟨_, rfl, by simp, fun h => hb.2 h.1⟩
  | true =>
    have h0 : 0 < s.size := by rw [← bl_len]; exact (List.getElem?_eq_some_iff.1 (hb.1 rfl)).1
    have h1 : (1 : Int) ≤ (s.size : Int) := by omega
    refine raw ?_
    repeat (first | (with_reducible refine unr ?_; try simp only [YY, ↓reduceIte, Nat.reduceEqDiff, Nat.reduceAdd, Nat.reduceLeDiff, reduceCtorEq, Int.reduceEq, Int.reduceLT, Int.reduceLE, Int.reduceNeg, Int.reduceAdd, Int.reduceSub, Int.reduceToNat]) | (with_reducible refine WW (by decide) ?_))
    refine (hasPrefixE s _ _).mono ?_
    rintro r t ⟨⟨b2, rfl, hb2⟩, rfl⟩
    have hb2 : b2 = true ↔ (bl s)[0]? = some 35 ∧ (bl s)[1]? = some 45 := hb2.trans p2
    cases b2 with
    | true =>
      refine raw ?_
      repeat (first | (with_reducible refine unr ?_; try simp only [YY, ↓reduceIte, Nat.reduceEqDiff, Nat.reduceAdd, Nat.reduceLeDiff, reduceCtorEq, Int.reduceEq, Int.reduceLT, Int.reduceLE, Int.reduceNeg, Int.reduceAdd, Int.reduceSub, Int.reduceToNat]) | (with_reducible refine WW (by decide) ?_))
      exact ⟨_, rfl, by simp, fun h => absurd (hb2.1 rfl).2 h.2.1⟩
    | false =>
      refine raw ?_
      repeat (first | (with_reducible refine unr ?_; try simp only [YY, ↓reduceIte, Nat.reduceEqDiff, Nat.reduceAdd, Nat.reduceLeDiff, reduceCtorEq, Int.reduceEq, Int.reduceLT, Int.reduceLE, Int.reduceNeg, Int.reduceAdd, Int.reduceSub, Int.reduceToNat, h1]) | (with_reducible refine WW (by decide) ?_))
      refine (parseE _ _).mono ?_
      rintro r t ⟨⟨⟨n, e⟩, rfl, hp⟩, rfl⟩
      refine raw ?_
      repeat (first | (with_reducible refine unr ?_; try simp only [YY, ↓reduceIte, Nat.reduceEqDiff, Nat.reduceAdd, Nat.reduceLeDiff, reduceCtorEq, Int.reduceEq, Int.reduceLT, Int.reduceLE, Int.reduceNeg, Int.reduceAdd, Int.reduceSub, Int.reduceToNat]) | (with_reducible refine WW (by decide) ?_))
      refine ⟨_, rfl, ?_⟩
      rw [decide_eq_true_iff, hp, bl_ext, List.take_of_length_le (by rw [bl_len]; simp)]
      exact ⟨fun h => ⟨hb.1 rfl, fun e => (by have := hb2.2 ⟨hb.1 rfl, e⟩; cases this), h⟩, fun h => h.2.2⟩
end Go.Proofs.Ytjjbjibbjbbeaaa
/- Codes, as plain functions. -/
set_option linter.unusedVariables false
set_option linter.unusedSimpArgs false
namespace Go.AL
/-! ### Shapes: how many parts what has -/
inductive Cr.Tw : Cr → Prop
  | mk {k : Int} {nm : ByteArray} {n ar : Int} {ps : List ByteArray} {gs : List Cr} {al : List (AltH × Cr)} {bs : List (ByteArray × Cr)} {pk : List (Int × Cr)} (h0 : k = 9 → 1 ≤ n ∧ n ≤ 11) (h2 : k = 5 ∨ k = 9 → gs.length = 2) (h1 : k = 6 ∨ k = 7 ∨ k = 8 ∨ k = 11 → gs.length = 1)
    (g1 : ∀ x, x ∈ gs → Cr.Tw x) (g2 : ∀ x, x ∈ al → Cr.Tw x.2) (g3 : ∀ x, x ∈ bs → Cr.Tw x.2) (g4 : ∀ x, x ∈ pk → Cr.Tw x.2) : Cr.Tw (.mk k nm n ar ps gs al bs pk)
/-- An instruction. -/
structure Ins where
  op : Int
  k : Int
  n : Int
  js : List (Int × Int)
def jC (p : Int × Int) : List AV := [.int .i64 p.1, .int .i64 p.2]
def insC (i : Ins) : List AV := [.int .i64 i.op, .int .i64 i.k, .int .i64 i.n, .list (i.js.map jC)]
def ik (op k : Int) : Ins := ⟨op, k, 0, []⟩
/-- The globals: supercombinators, constructors with their numbers of fields. -/
structure Gl where
  sup : List ByteArray
  con : List (ByteArray × Nat)
noncomputable def idx (l : List ByteArray) (s : ByteArray) : Option Nat := l.findIdx? fun x => @decide (x = s) (Classical.propDecidable _)
noncomputable def conIdx (g : Gl) (s : ByteArray) : Int := match idx (g.con.map (·.1)) s with | some i => (i : Int) | none => 0
def operS (g : Gl) (op : Int) : Int := (g.sup.length : Int) + g.con.length + op - 1
noncomputable def globS (g : Gl) (O : ByteArray → Int) (s : ByteArray) : Int := match idx g.sup s with | some i => (i : Int) | none => operS g (O s)
abbrev Lv := List (ByteArray × Int)
def lvC (p : ByteArray × Int) : List AV := [.str p.1, .int .i64 p.2]
def nums : Nat → Int → Int → List ByteArray → Lv
  | i, fr, st, [] => []
  | i, fr, st, s :: r => (s, fr + i * st) :: nums (i + 1) fr st r
def withS (lv : Lv) (l : List ByteArray) (fr st : Int) : Lv := lv ++ nums 0 fr st l
noncomputable def findS : Lv → ByteArray → Int
  | [], s => 0
  | p :: r, s => @ite _ (∃ q ∈ r, q.1 = s) (Classical.propDecidable _) (findS r s) (@ite _ (p.1 = s) (Classical.propDecidable _) p.2 0)
theorem nums_len (l : List ByteArray) : ∀ i fr st, (nums i fr st l).length = l.length := by
  induction l with
  | nil => intros; rfl
  | cons s r ih => intro i fr st; rw [nums, List.length_cons, List.length_cons, ih]
theorem withS_len (lv : Lv) (l : List ByteArray) (fr st : Int) : (withS lv l fr st).length = lv.length + l.length := by rw [withS, List.length_append, nums_len]
section
variable (g : Gl) (O : ByteArray → Int)
mutual
noncomputable def latS (lv : Lv) (d : Int) : Cr → List Ins
  | .mk k nm n ar ps gs al bs pk =>
    if k = 1 then [ik 1 (d - 1 - findS lv nm)]
    else if k = 2 then [ik 2 (globS g O nm)]
    else if k = 4 then [ik 2 ((g.sup.length : Int) + conIdx g nm)]
    else if k = 3 then [⟨3, 0, n, []⟩]
    else if k = 5 then (latL lv (d + 1) gs).getD 1 [] ++ (latL lv (d + 1) gs).getD 0 [] ++ [ik 4 0]
    else if k = 9 then (latL lv (d + 1) gs).getD 1 [] ++ (latL lv (d + 1) gs).getD 0 [] ++ [ik 2 (operS g n), ik 4 0, ik 4 0]
    else if k = 7 then ik 8 bs.length :: latB (withS lv (bs.map (·.1)) d 1) (d + bs.length) (bs.length : Int) bs ++ (latL (withS lv (bs.map (·.1)) d 1) (d + bs.length) gs).getD 0 [] ++ [ik 7 bs.length]
    else []
noncomputable def latL (lv : Lv) (d : Int) : List Cr → List (List Ins)
  | [] => []
  | x :: r => latS lv d x :: latL lv (d - 1) r
noncomputable def latB (lv : Lv) (d n : Int) : List (ByteArray × Cr) → List Ins
  | [] => []
  | (s, x) :: r => latS lv d x ++ [ik 5 (n - 1)] ++ latB lv d (n - 1) r
end
/-- What makes bindings' nodes. -/
noncomputable def bindS (lv : Lv) (d : Int) (bs : List (ByteArray × Cr)) : List Ins := ik 8 bs.length :: latB g O (withS lv (bs.map (·.1)) d 1) (d + bs.length) (bs.length : Int) bs
def endS (d : Int) : List Ins := [ik 5 d, ik 6 d, ik 10 0]
mutual
noncomputable def valS (lv : Lv) (d : Int) (last : Bool) (base : Nat) : Cr → List Ins
  | .mk k nm n ar ps gs al bs pk =>
    if k = 9 then (valL lv d base 2 false gs).flatten ++ [⟨16, 0, n, []⟩] ++ (if last then endS d else [])
    else if k = 7 then bindS g O lv d bs ++ (valL (withS lv (bs.map (·.1)) d 1) (d + bs.length) (base + (bindS g O lv d bs).length) 1 last gs).flatten ++ (if last then [] else [ik 7 bs.length])
    else if k = 8 then
      (valL lv d base 1 false gs).flatten ++
        [⟨13, altK lv d last (base + (valL lv d base 1 false gs).flatten.length + 1) (-1) al, 0, altJ lv d last (base + (valL lv d base 1 false gs).flatten.length + 1) al⟩] ++
        altS lv d last (base + (valL lv d base 1 false gs).flatten.length + 1) (base + (valL lv d base 1 false gs).flatten.length + 1 + (altS lv d last (base + (valL lv d base 1 false gs).flatten.length + 1) 0 al).length) al
    else if k = 11 then
      [⟨14, ((base + 1 : Nat) : Int), 0, pickJ lv d last (base + 1 + (valL lv d (base + 1) 1 last gs).flatten.length + (if last then 0 else 1)) pk⟩] ++
        ((valL lv d (base + 1) 1 last gs).flatten ++ (if last then [] else [ik 15 ((base + 1 + (valL lv d (base + 1) 1 last gs).flatten.length + (if last then 0 else 1) + (pickS lv d last (base + 1 + (valL lv d (base + 1) 1 last gs).flatten.length + (if last then 0 else 1)) 0 pk).length : Nat) : Int)])) ++
        pickS lv d last (base + 1 + (valL lv d (base + 1) 1 last gs).flatten.length + (if last then 0 else 1)) (base + 1 + (valL lv d (base + 1) 1 last gs).flatten.length + (if last then 0 else 1) + (pickS lv d last (base + 1 + (valL lv d (base + 1) 1 last gs).flatten.length + (if last then 0 else 1)) 0 pk).length) pk
    else if k = 10 then [ik 17 0]
    else if k = 3 then [⟨3, 0, n, []⟩] ++ (if last then endS d else [])
    else latS g O lv d (.mk k nm n ar ps gs al bs pk) ++ (if last then endS d else [ik 9 0])
/-- Some parts, one behind the other, each one deeper. -/
noncomputable def valL (lv : Lv) (d : Int) (base : Nat) (m : Nat) (last : Bool) : List Cr → List (List Ins)
  | [] => []
  | x :: r => match m with | 0 => [] | m + 1 => valS lv d last base x :: valL lv (d + 1) (base + (valS lv d last base x).length) m last r
noncomputable def altS (lv : Lv) (d : Int) (last : Bool) (base e : Nat) : List (AltH × Cr) → List Ins
  | [] => []
  | (h, x) :: r =>
    ((if h.k = 1 then ik 12 h.ps.length else ik 6 1) :: valS (withS lv h.ps (d + h.ps.length - 1) (-1)) (d + h.ps.length) last (base + 1) x ++ (if h.k = 1 ∧ last = false then [ik 7 h.ps.length] else []) ++ (if last then [] else [ik 15 e])) ++
      altS lv d last (base + ((if h.k = 1 then ik 12 h.ps.length else ik 6 1) :: valS (withS lv h.ps (d + h.ps.length - 1) (-1)) (d + h.ps.length) last (base + 1) x ++ (if h.k = 1 ∧ last = false then [ik 7 h.ps.length] else []) ++ (if last then [] else [ik 15 (0 : Int)])).length) e r
noncomputable def altJ (lv : Lv) (d : Int) (last : Bool) (base : Nat) : List (AltH × Cr) → List (Int × Int)
  | [] => []
  | (h, x) :: r =>
    (if h.k = 1 then [(conIdx g h.nm, (base : Int))] else if h.k = 2 then [(h.n, (base : Int))] else []) ++
      altJ lv d last (base + ((if h.k = 1 then ik 12 h.ps.length else ik 6 1) :: valS (withS lv h.ps (d + h.ps.length - 1) (-1)) (d + h.ps.length) last (base + 1) x ++ (if h.k = 1 ∧ last = false then [ik 7 h.ps.length] else []) ++ (if last then [] else [ik 15 (0 : Int)])).length) r
noncomputable def altK (lv : Lv) (d : Int) (last : Bool) (base : Nat) (K : Int) : List (AltH × Cr) → Int
  | [] => K
  | (h, x) :: r =>
      altK lv d last (base + ((if h.k = 1 then ik 12 h.ps.length else ik 6 1) :: valS (withS lv h.ps (d + h.ps.length - 1) (-1)) (d + h.ps.length) last (base + 1) x ++ (if h.k = 1 ∧ last = false then [ik 7 h.ps.length] else []) ++ (if last then [] else [ik 15 (0 : Int)])).length) (if h.k = 1 ∨ h.k = 2 then K else (base : Int)) r
noncomputable def pickS (lv : Lv) (d : Int) (last : Bool) (base e : Nat) : List (Int × Cr) → List Ins
  | [] => []
  | (s, x) :: r => (valS lv d last base x ++ (if last then [] else [ik 15 e])) ++ pickS lv d last (base + (valS lv d last base x).length + (if last then 0 else 1)) e r
noncomputable def pickJ (lv : Lv) (d : Int) (last : Bool) (base : Nat) : List (Int × Cr) → List (Int × Int)
  | [] => []
  | (s, x) :: r => (s, (base : Int)) :: pickJ lv d last (base + (valS lv d last base x).length + (if last then 0 else 1)) r
end
end
end Go.AL
