/- A part of the proof of the claim: the abstract layer, the contracts of the functions, the law (no condition of its own). -/
import Derived.Test.YtjjbjibbjbbeaaaK6
import Derived.Test.YtjjbjibbjbbeaaaProg
import Derived.KernelRfl
import Derived.Test.YtjjbjibbjbbeaaaRows
/- Flat. -/
set_option linter.unusedVariables false
set_option linter.unusedSimpArgs false
namespace Go.AL
/-- Supercombinators' bulk. -/
def bulkS : List Sup → Nat
  | [] => 0
  | p :: r => p.nm.size + 1 + p.ps.length + p.bd.bulk + bulkS r
theorem bulkS_le {x : Sup} : ∀ {l : List Sup}, x ∈ l → x.nm.size + 1 + x.ps.length + x.bd.bulk ≤ bulkS l
  | y :: r, h => by
    rw [bulkS]
    rcases List.mem_cons.1 h with rfl | h
    · omega
    · have := bulkS_le h; omega
theorem lenS : ∀ l : List Sup, l.length ≤ bulkS l
  | [] => by simp
  | x :: r => by rw [bulkS, List.length_cons]; have := lenS r; omega
/-- What flat supercombinators are. -/
def FlatP (l : List Sup) : Prop := (∀ x, x ∈ l → x.bd.Tw) ∧ (l.map (·.nm)).Nodup
theorem supC_t11 (p : Sup) : List.take 11 (supC p) = supC p := List.take_of_length_le (by rw [supC_len]; omega)
end Go.AL
namespace Go.Proofs.Ytjjbjibbjbbeaaa
open Go.AL
theorem flatS_ok (l : List Sup) (hb : bulkS l ≤ 9000000) (σ : Store) :
    ACalls Try.prog 62 [.list (l.map supC)] σ fun r σ' => RB (FlatP l) r ∧ σ' = σ := by
  refine ACalls_fp (p := RB _) ?_
  refine in62 (by simp) ?_
  unfold c62
  have hdl := lenS l
  refine raw ?_
  repeat (first | (with_reducible refine unr ?_; try simp only [ZZ, ↓reduceIte, Nat.reduceEqDiff, Nat.reduceAdd, Nat.reduceLeDiff, reduceCtorEq, Int.reduceEq, Int.reduceLT, Int.reduceLE, Int.reduceNeg, Int.reduceAdd, Int.reduceSub, Int.reduceToNat]) | (with_reducible first | refine W1 ?_ | refine W2 ?_ | refine W3 ?_ | refine W4 ?_ | refine W5 ?_ | refine W6 ?_ | refine W7 ?_ | refine W8 ?_ | refine W9 ?_))
  generalize hs : Store.push _ _ = s
  have k1 : Kp σ s := by rw [← hs]; exact .pushed _ _
  have he : s.get σ.next = some (.cells 196 0 1 [[.nils]]) := by rw [← hs]; simp [Store.push_get]
  have hsn : s.next = σ.next + 1 := by rw [← hs]; rfl
  clear hs
  refine AWP_while [0, 3, 10, 11, 12] (fun i : Nat => l.length - i) (fun i => [.list (l.map supC), .ptr σ.next 0 0 0, .list (l.map supC), .int .i64 l.length, .int .i64 i])
    (fun i t => i ≤ l.length ∧ Kp σ t ∧ ((l.take i).map (·.nm)).Nodup ∧ ∃ v, Chk t σ.next v ((l.take i).map (·.nm)) ∧ ∀ j, j ∈ slIds v → σ.next < j) 0 ⟨by simp, k1, by simp, .nils, ⟨he, .nil _ _ _, by simp⟩, by simp [slIds]⟩ ?_ ?_
  · refine raw ?_
    repeat (first | (with_reducible refine unr ?_; try simp only [ZZ, ↓reduceIte, Nat.reduceEqDiff, Nat.reduceAdd, Nat.reduceLeDiff, reduceCtorEq, Int.reduceEq, Int.reduceLT, Int.reduceLE, Int.reduceNeg, Int.reduceAdd, Int.reduceSub, Int.reduceToNat]) | (with_reducible first | refine W1 ?_ | refine W2 ?_ | refine W3 ?_ | refine W4 ?_ | refine W5 ?_ | refine W6 ?_ | refine W7 ?_ | refine W8 ?_ | refine W9 ?_))
    rfl
  rintro i t ⟨hi, k2, hnd, v, hc, hf⟩
  have hw := wrap_succ (i := i) (by omega)
  by_cases hil : i < l.length
  · have hil' : (i : Int) < (l.length : Int) := by omega
    obtain ⟨x, hx⟩ : ∃ x, l[i]? = some x := ⟨_, List.getElem?_eq_getElem hil⟩
    have hxm := List.mem_of_getElem? hx
    have hg : (l.map supC)[i]? = some (supC x) := by simp [hx]
    have hxb := bulkS_le hxm
    have hcp := hc.keep (.pushed t (.cells 71 0 11 [supC x]))
    simp only [supC] at hcp
    have hq := lt_ne (t.lt hc.hd)
    have hcon := contains_ok (hcp.sl.rds) (by have := hcp.len; omega) x.nm
    generalize hdc : @decide (x.nm ∈ (l.take i).map (·.nm)) (Classical.propDecidable _) = dc at hcon
    refine raw ?_
    repeat' (first | (with_reducible refine unr ?_; try simp only [ZZ, ↓reduceIte, Nat.reduceEqDiff, Nat.reduceAdd, Nat.reduceLeDiff, reduceCtorEq, Int.reduceEq, Int.reduceLT, Int.reduceLE, Int.reduceNeg, Int.reduceAdd, Int.reduceSub, Int.reduceToNat, hil', hg, supC, Cr.len, Cr.take9, Cr.drop9, hc.hd, hq, str_nil, *]) | (with_reducible first | refine W1 ?_ | refine W2 ?_ | refine W3 ?_ | refine W4 ?_ | refine W5 ?_ | refine W6 ?_ | refine W7 ?_ | refine W8 ?_ | refine W9 ?_ | refine ok_idx (by first | assumption | omega) (fun b hb => raw ?_) | refine ok_iad (by first | assumption | omega) (fun x hx hxm => raw ?_) | refine And.intro (by omega) (raw ?_) | (refine guardW_b (fun h => raw ?_) (fun h => raw ?_) <;> try simp only [Ty] at h) | (refine ePick_b (fun h => raw ?_) (fun h => raw ?_) <;> try simp only [Ty] at h) | (refine condW_b (fun h => raw ?_) (fun h => raw ?_) <;> try simp only [Ty] at h) | (refine (op' _ _).mono ?_; rintro _ _ ⟨⟨b, rfl, hb⟩, rfl⟩; refine raw ?_) | (refine (locals' _ (by omega) _).mono ?_; rintro _ _ ⟨⟨b, rfl, hb⟩, rfl⟩; refine raw ?_) | (refine (hcon).mono ?_; rintro _ _ ⟨rfl, rfl⟩; refine raw ?_)))
    · exact FP.same (k2.trans (.pushed _ _)) RB.f (.bool _)
    · exact FP.same (k2.trans (.pushed _ _)) RB.f (.bool _)
    · exact FP.same (k2.trans (.pushed _ _)) RB.f (.bool _)
    · exact FP.same (k2.trans (.pushed _ _)) RB.f (.bool _)
    · rename_i hdf
      rw [hdf] at hdc
      have hnm : x.nm ∉ (l.take i).map (·.nm) := @of_decide_eq_false _ (Classical.propDecidable _) hdc
      refine ok_app hcp.sl (es2 := [[.str x.nm]]) (by simp) (by simp; omega) (by simp [maxLen]; omega) ?_
      intro v' t3 hsl hfr
      have kp : Kp t (t.push (.cells 71 0 11 [AV.str x.nm :: strs x.ps :: x.bd.cells])) := .pushed _ _
      have hlt0 := (t.push (.cells 71 0 11 [AV.str x.nm :: strs x.ps :: x.bd.cells])).lt hcp.hd
      have hd3 : t3.get σ.next = some (.cells 196 0 1 [[v]]) := by
        rw [hfr.keep _ hlt0 (fun hm => by have := hf _ hm; omega)]; exact hcp.hd
      have hlt := t3.lt hd3
      refine raw ?_
      repeat (first | (with_reducible refine unr ?_; try simp only [ZZ, ↓reduceIte, Nat.reduceEqDiff, Nat.reduceAdd, Nat.reduceLeDiff, reduceCtorEq, Int.reduceEq, Int.reduceLT, Int.reduceLE, Int.reduceNeg, Int.reduceAdd, Int.reduceSub, Int.reduceToNat, hd3, hw, hsl.co]) | (with_reducible first | refine W1 ?_ | refine W2 ?_ | refine W3 ?_ | refine W4 ?_ | refine W5 ?_ | refine W6 ?_ | refine W7 ?_ | refine W8 ?_ | refine W9 ?_))
      have hne : ∀ j, j ∈ slIds v' → σ.next < j := fun j hj => by
        rcases hfr.fresh j hj with h1 | h1
        · exact hf j h1
        · omega
      have et : (l.take (i + 1)).map (·.nm) = (l.take i).map (·.nm) ++ [x.nm] := by rw [take_succ_at hx]; simp
      refine ⟨i + 1, rfl, ⟨by omega, ⟨?_, fun j hj => ?_⟩, ?_, v', ⟨Store.get_upd_self _ _ hlt, ?_, by simp; omega⟩, hne⟩, by omega⟩
      · have := hfr.next; have := kp.next; have := k2.next; rw [Store.upd_next]; omega
      · rw [Store.get_upd_ne _ _ (by omega), hfr.keep j (by have := kp.next; have := k2.next; omega) (fun hm => by have := hf _ hm; omega), kp.keep j (by have := k2.next; omega), k2.keep j hj]
      · rw [et]
        exact List.nodup_append.2 ⟨hnd, by simp, by intro a ha b hb e; simp at hb; subst hb; subst e; exact hnm ha⟩
      · rw [et, List.map_append]
        exact hsl.keep fun j hj => Store.get_upd_ne _ _ (by have := hne j hj; omega)
  · have hil' : ¬ (i : Int) < (l.length : Int) := by omega
    rw [List.take_of_length_le (by omega)] at hc hnd
    refine raw ?_
    repeat (first | (with_reducible refine unr ?_; try simp only [ZZ, ↓reduceIte, Nat.reduceEqDiff, Nat.reduceAdd, Nat.reduceLeDiff, reduceCtorEq, Int.reduceEq, Int.reduceLT, Int.reduceLE, Int.reduceNeg, Int.reduceAdd, Int.reduceSub, Int.reduceToNat, hil']) | (with_reducible first | refine W1 ?_ | refine W2 ?_ | refine W3 ?_ | refine W4 ?_ | refine W5 ?_ | refine W6 ?_ | refine W7 ?_ | refine W8 ?_ | refine W9 ?_))
    refine AWP_while [3, 52, 53, 54] (fun i : Nat => l.length - i) (fun i => [.ptr σ.next 0 0 0, .list (l.map supC), .int .i64 l.length, .int .i64 i])
      (fun i s => i ≤ l.length ∧ Kp t s ∧ ∀ x, x ∈ l.take i → x.bd.Tw) 0 ⟨by simp, .refl _, by simp⟩ ?_ ?_
    · refine raw ?_
      repeat (first | (with_reducible refine unr ?_; try simp only [ZZ, ↓reduceIte, Nat.reduceEqDiff, Nat.reduceAdd, Nat.reduceLeDiff, reduceCtorEq, Int.reduceEq, Int.reduceLT, Int.reduceLE, Int.reduceNeg, Int.reduceAdd, Int.reduceSub, Int.reduceToNat]) | (with_reducible first | refine W1 ?_ | refine W2 ?_ | refine W3 ?_ | refine W4 ?_ | refine W5 ?_ | refine W6 ?_ | refine W7 ?_ | refine W8 ?_ | refine W9 ?_))
      rfl
    clear hw hil hil' hi
    rintro i t2 ⟨hi, k3, hall⟩
    have hw := wrap_succ (i := i) (by omega)
    by_cases hil : i < l.length
    · have hil' : (i : Int) < (l.length : Int) := by omega
      obtain ⟨x, hx⟩ : ∃ x, l[i]? = some x := ⟨_, List.getElem?_eq_getElem hil⟩
      have hxm := List.mem_of_getElem? hx
      have hg : (l.map supC)[i]? = some (supC x) := by simp [hx]
      have hxb := bulkS_le hxm
      refine raw ?_
      repeat' (first | (with_reducible refine unr ?_; try simp only [ZZ, ↓reduceIte, Nat.reduceEqDiff, Nat.reduceAdd, Nat.reduceLeDiff, reduceCtorEq, Int.reduceEq, Int.reduceLT, Int.reduceLE, Int.reduceNeg, Int.reduceAdd, Int.reduceSub, Int.reduceToNat, hil', hg, supC, Cr.len, Cr.take9, Cr.drop9, str_nil, *]) | (with_reducible first | refine W1 ?_ | refine W2 ?_ | refine W3 ?_ | refine W4 ?_ | refine W5 ?_ | refine W6 ?_ | refine W7 ?_ | refine W8 ?_ | refine W9 ?_ | refine ok_idx (by first | assumption | omega) (fun b hb => raw ?_) | refine ok_iad (by first | assumption | omega) (fun x hx hxm => raw ?_) | refine And.intro (by omega) (raw ?_) | (refine guardW_b (fun h => raw ?_) (fun h => raw ?_) <;> try simp only [Ty] at h) | (refine ePick_b (fun h => raw ?_) (fun h => raw ?_) <;> try simp only [Ty] at h) | (refine condW_b (fun h => raw ?_) (fun h => raw ?_) <;> try simp only [Ty] at h) | (refine (flat_ok x.bd (by omega) true _).mono ?_; rintro _ _ ⟨⟨b, rfl, hb⟩, rfl⟩; refine raw ?_) | (refine (rightT_ok x.bd _ _ _ _ x.ps ((hc.keep k3).keep (.pushed _ _)) (by omega)).mono ?_; rintro _ _ ⟨⟨b, rfl, hb⟩, rfl⟩; refine raw ?_)))
      · exact FP.same (k2.trans (k3.push _)) RB.f (.bool _)
      · exact FP.same (k2.trans (k3.push _)) RB.f (.bool _)
      · exact ⟨i + 1, rfl, ⟨by omega, k3.push _, all_succ (p := fun x : Sup => x.bd.Tw) hall hx (hb h)⟩, by omega⟩
    · have hil' : ¬ (i : Int) < (l.length : Int) := by omega
      rw [List.take_of_length_le (by omega)] at hall
      refine raw ?_
      repeat (first | (with_reducible refine unr ?_; try simp only [ZZ, ↓reduceIte, Nat.reduceEqDiff, Nat.reduceAdd, Nat.reduceLeDiff, reduceCtorEq, Int.reduceEq, Int.reduceLT, Int.reduceLE, Int.reduceNeg, Int.reduceAdd, Int.reduceSub, Int.reduceToNat, hil']) | (with_reducible first | refine W1 ?_ | refine W2 ?_ | refine W3 ?_ | refine W4 ?_ | refine W5 ?_ | refine W6 ?_ | refine W7 ?_ | refine W8 ?_ | refine W9 ?_))
      exact FP.same (k2.trans k3) (RB.t ⟨hall, hnd⟩) (.bool _)
end Go.Proofs.Ytjjbjibbjbbeaaa
/- The table of the globals. -/
set_option linter.unusedVariables false
set_option linter.unusedSimpArgs false
namespace Go.AL
/-- A constructor as a value. -/
structure Con5 where
  nm : ByteArray
  data : ByteArray
  tag : Int
  par : Int
  fs : List (List AV)
def con5C (c : Con5) : List AV := [.str c.nm, .str c.data, .int .i64 c.tag, .int .i64 c.par, .list c.fs]
def glOf (l : List Sup) (cons : List Con5) : Gl := ⟨l.map (·.nm), cons.map fun c => (c.nm, c.fs.length)⟩
def ents : Nat → List ByteArray → List (AV × AV)
  | i, [] => []
  | i, s :: r => (.str s, .int .i64 (i : Int)) :: ents (i + 1) r
theorem ents_len : ∀ (l : List ByteArray) (i : Nat), (ents i l).length = l.length
  | [], i => rfl
  | s :: r, i => by rw [ents, List.length_cons, List.length_cons, ents_len r]
theorem ents_app : ∀ (l m : List ByteArray) (i : Nat), ents i (l ++ m) = ents i l ++ ents (i + l.length) m
  | [], m, i => by simp [ents]
  | s :: r, m, i => by rw [List.cons_append, ents, ents, ents_app r m, List.length_cons, List.cons_append, show i + 1 + r.length = i + (r.length + 1) by omega]
theorem idx_cons (s k : ByteArray) (r : List ByteArray) : idx (s :: r) k = @ite _ (s = k) (Classical.propDecidable _) (some 0) ((idx r k).map (· + 1)) := by
  unfold idx
  rw [List.findIdx?_cons]
  by_cases h : s = k
  · simp [h]
  · simp [h]
theorem idx_none {l : List ByteArray} {k : ByteArray} : idx l k = none ↔ k ∉ l := by
  unfold idx
  rw [List.findIdx?_eq_none_iff]
  constructor
  · intro h hm
    have := h k hm
    simp at this
  · intro h x hx
    simp
    rintro rfl
    exact h hx
theorem aFind_ents (k : ByteArray) : ∀ (l : List ByteArray) (i p : Nat), (idx l k = none ∧ aFind .str (.str k) (ents i l) p = some none) ∨ ∃ m j, idx l k = some m ∧ aFind .str (.str k) (ents i l) p = some (some (j, .int .i64 ((i + m : Nat) : Int)))
  | [], i, p => .inl ⟨rfl, rfl⟩
  | s :: r, i, p => by
    rw [idx_cons, ents]
    simp only [aFind, keyEq_str]
    by_cases h : s = k
    · right
      refine ⟨0, p, by rw [if_pos h], ?_⟩
      rw [decide_eq_true h.symm]
      simp
    · rw [if_neg h, decide_eq_false (fun e => h e.symm)]
      rcases aFind_ents k r (i + 1) (p + 1) with ⟨h1, h2⟩ | ⟨m, j, h1, h2⟩
      · left; rw [h1]; exact ⟨rfl, h2⟩
      · right
        refine ⟨m + 1, j, by rw [h1]; rfl, ?_⟩
        rw [show i + (m + 1) = i + 1 + m by omega]
        exact h2
theorem aFind_new {k : ByteArray} {l : List ByteArray} (h : k ∉ l) : aFind .str (.str k) (ents 0 l) 0 = some none := by
  rcases aFind_ents k l 0 0 with ⟨_, h2⟩ | ⟨m, j, h1, _⟩
  · exact h2
  · rw [idx_none.2 h] at h1; cases h1
end Go.AL
namespace Go.Proofs.Ytjjbjibbjbbeaaa
open Go.AL
theorem fits_ok {σ : Store} {T tid : Nat} {g : Gl} (ht : TAt σ T tid g) (s : ByteArray) (n : Int) : ACalls Try.prog 113 [.ptr tid 0 0 0, .str s, .int .i64 n] σ fun r s' => (∃ b : Bool, r = .bool b ∧ True) ∧ s' = σ := by
  refine in113 (by simp) ?_
  unfold c113
  obtain ⟨⟨sm, cm, fv, sme, cme, t1, t2, t3, t4, t5, t6, t7, t8, t9, t10, t11⟩, hsm⟩ := ht
  rcases t6 s with ⟨hi, hf⟩ | ⟨i, j, hi, hf⟩
  · refine raw ?_
    repeat (first | (with_reducible refine unr ?_; try simp only [ZZ, ↓reduceIte, Nat.reduceEqDiff, Nat.reduceAdd, Nat.reduceLeDiff, reduceCtorEq, Int.reduceEq, Int.reduceLT, Int.reduceLE, Int.reduceNeg, Int.reduceAdd, Int.reduceSub, Int.reduceToNat, t1, t3, hf, findVal]) | (with_reducible first | refine W1 ?_ | refine W2 ?_ | refine W3 ?_ | refine W4 ?_ | refine W5 ?_ | refine W6 ?_ | refine W7 ?_ | refine W8 ?_ | refine W9 ?_))
    exact ⟨_, rfl⟩
  · have hlt := idx_lt hi
    simp only [List.length_map] at hlt
    obtain ⟨c, hc⟩ : ∃ c, g.con[i]? = some c := ⟨_, List.getElem?_eq_getElem hlt⟩
    obtain ⟨q, hq, hep⟩ := t7.rds.iad i [.int .i64 (c.2 : Int)] (by simp [hc])
    have hld := hep.load none
    refine raw ?_
    repeat (first | (with_reducible refine unr ?_; try simp only [ZZ, ↓reduceIte, Nat.reduceEqDiff, Nat.reduceAdd, Nat.reduceLeDiff, reduceCtorEq, Int.reduceEq, Int.reduceLT, Int.reduceLE, Int.reduceNeg, Int.reduceAdd, Int.reduceSub, Int.reduceToNat, t1, t3, hf, findVal, hq, hld]) | (with_reducible first | refine W1 ?_ | refine W2 ?_ | refine W3 ?_ | refine W4 ?_ | refine W5 ?_ | refine W6 ?_ | refine W7 ?_ | refine W8 ?_ | refine W9 ?_))
    exact ⟨_, rfl⟩
theorem tableOf_ok (l : List Sup) (hnd : (l.map (·.nm)).Nodup) (cons : List Con5) (hl : l.length + cons.length ≤ 100000000) (σ : Store) :
    ACalls Try.prog 105 [.list (l.map supC), .list (cons.map con5C)] σ fun r s => (r = .tuple [.nilp, .bool false] ∨ ∃ tid b, r = .tuple [.ptr tid 0 0 0, .bool b] ∧ TAt s s.next tid (glOf l cons)) ∧ Kp σ s := by
  refine in105 (by simp) ?_
  unfold c105
  try simp only [ZZ, ↓reduceIte, Nat.reduceEqDiff, Nat.reduceAdd, Nat.reduceLeDiff, reduceCtorEq, Int.reduceEq, Int.reduceLT, Int.reduceLE, Int.reduceNeg, Int.reduceAdd, Int.reduceSub, Int.reduceToNat]
  iterate 4 ((with_reducible first | refine W1 ?_ | refine W2 ?_ | refine W3 ?_ | refine W4 ?_ | refine W5 ?_ | refine W6 ?_ | refine W7 ?_ | refine W8 ?_ | refine W9 ?_); refine unr ?_; try simp only [ZZ, ↓reduceIte, Nat.reduceEqDiff, Nat.reduceAdd, Nat.reduceLeDiff, reduceCtorEq, Int.reduceEq, Int.reduceLT, Int.reduceLE, Int.reduceNeg, Int.reduceAdd, Int.reduceSub, Int.reduceToNat])
  generalize hs : Store.push _ _ = s1
  have k1 : Kp σ s1 := by rw [← hs]; exact ((Kp.pushed _ _).push _).push _
  have n1 : s1.next = σ.next + 3 := by rw [← hs]; rfl
  have e1 : s1.get σ.next = some (.map []) := by rw [← hs]; simp [Store.push_get, Store.push_next]; intro h; omega
  have e2 : s1.get (σ.next + 1) = some (.map []) := by rw [← hs]; simp [Store.push_get, Store.push_next]
  have e3 : s1.get (σ.next + 2) = some (.cells 223 0 3 [[.map σ.next, .map (σ.next + 1), .nils]]) := by rw [← hs]; simp [Store.push_get, Store.push_next]
  clear hs
  refine AWP_cut [1, 6] (fun _ : Unit => [.list (cons.map con5C), .ptr (σ.next + 2) 0 0 0]) (fun _ s => Kp σ s ∧ s.get σ.next = some (.map (ents 0 (l.map (·.nm)))) ∧ s.get (σ.next + 1) = some (.map []) ∧ s.get (σ.next + 2) = some (.cells 223 0 3 [[.map σ.next, .map (σ.next + 1), .nils]])) ?_ ?_
  · refine raw ?_
    repeat (first | (with_reducible refine unr ?_; try simp only [ZZ, ↓reduceIte, Nat.reduceEqDiff, Nat.reduceAdd, Nat.reduceLeDiff, reduceCtorEq, Int.reduceEq, Int.reduceLT, Int.reduceLE, Int.reduceNeg, Int.reduceAdd, Int.reduceSub, Int.reduceToNat]) | (with_reducible first | refine W1 ?_ | refine W2 ?_ | refine W3 ?_ | refine W4 ?_ | refine W5 ?_ | refine W6 ?_ | refine W7 ?_ | refine W8 ?_ | refine W9 ?_))
    refine AWP_while [1, 6, 17, 18, 19] (fun i : Nat => l.length - i) (fun i => [.list (cons.map con5C), .ptr (σ.next + 2) 0 0 0, .list (l.map supC), .int .i64 l.length, .int .i64 i])
      (fun i s => i ≤ l.length ∧ Kp σ s ∧ s.get σ.next = some (.map (ents 0 ((l.take i).map (·.nm)))) ∧ s.get (σ.next + 1) = some (.map []) ∧ s.get (σ.next + 2) = some (.cells 223 0 3 [[.map σ.next, .map (σ.next + 1), .nils]])) 0 ⟨by simp, k1, by simpa [ents] using e1, e2, e3⟩ ?_ ?_
    · refine raw ?_
      repeat (first | (with_reducible refine unr ?_; try simp only [ZZ, ↓reduceIte, Nat.reduceEqDiff, Nat.reduceAdd, Nat.reduceLeDiff, reduceCtorEq, Int.reduceEq, Int.reduceLT, Int.reduceLE, Int.reduceNeg, Int.reduceAdd, Int.reduceSub, Int.reduceToNat]) | (with_reducible first | refine W1 ?_ | refine W2 ?_ | refine W3 ?_ | refine W4 ?_ | refine W5 ?_ | refine W6 ?_ | refine W7 ?_ | refine W8 ?_ | refine W9 ?_))
      rfl
    rintro i s ⟨hi, k2, f1, f2, f3⟩
    have hw := wrap_succ (i := i) (by omega)
    by_cases hil : i < l.length
    · have hil' : (i : Int) < (l.length : Int) := by omega
      obtain ⟨x, hx⟩ : ∃ x, l[i]? = some x := ⟨_, List.getElem?_eq_getElem hil⟩
      have hg : (l.map supC)[i]? = some (supC x) := by simp [hx]
      have q1 := lt_ne (s.lt f1)
      have q2 := lt_ne (s.lt f2)
      have q3 := lt_ne (s.lt f3)
      have hnm : x.nm ∉ (l.take i).map (·.nm) := by
        intro hm
        have e := split_at hx
        rw [e, List.map_append, List.map_cons] at hnd
        exact (List.nodup_append.1 hnd).2.2 _ hm _ (by simp) rfl
      have hfn := aFind_new hnm
      refine raw ?_
      repeat (first | (with_reducible refine unr ?_; try simp only [ZZ, ↓reduceIte, Nat.reduceEqDiff, Nat.reduceAdd, Nat.reduceLeDiff, reduceCtorEq, Int.reduceEq, Int.reduceLT, Int.reduceLE, Int.reduceNeg, Int.reduceAdd, Int.reduceSub, Int.reduceToNat, hil', hg, supC, Cr.len, Cr.take9, Cr.drop9, f1, f3, q1, q2, q3, hfn, mapPut, hw]) | (with_reducible first | refine W1 ?_ | refine W2 ?_ | refine W3 ?_ | refine W4 ?_ | refine W5 ?_ | refine W6 ?_ | refine W7 ?_ | refine W8 ?_ | refine W9 ?_))
      have et : (l.take (i + 1)).map (·.nm) = (l.take i).map (·.nm) ++ [x.nm] := by rw [take_succ_at hx]; simp
      have hli : ((l.take i).map (·.nm)).length = i := by simp; omega
      refine ⟨i + 1, rfl, ⟨by omega, (k2.upd (Nat.le_refl _) _).push _, ?_, ?_, ?_⟩, by omega⟩
      · rw [Store.get_upd_self _ _ (s.lt f1), et, ents_app, hli, Nat.zero_add]
        rfl
      · rw [Store.get_upd_ne _ _ (by omega)]; exact f2
      · rw [Store.get_upd_ne _ _ (by omega)]; exact f3
    · have hil' : ¬ (i : Int) < (l.length : Int) := by omega
      rw [List.take_of_length_le (by omega)] at f1
      refine raw ?_
      repeat (first | (with_reducible refine unr ?_; try simp only [ZZ, ↓reduceIte, Nat.reduceEqDiff, Nat.reduceAdd, Nat.reduceLeDiff, reduceCtorEq, Int.reduceEq, Int.reduceLT, Int.reduceLE, Int.reduceNeg, Int.reduceAdd, Int.reduceSub, Int.reduceToNat, hil']) | (with_reducible first | refine W1 ?_ | refine W2 ?_ | refine W3 ?_ | refine W4 ?_ | refine W5 ?_ | refine W6 ?_ | refine W7 ?_ | refine W8 ?_ | refine W9 ?_))
      exact ⟨(), k2, f1, f2, f3⟩
  rintro _ s ⟨k2, f1, f2, f3⟩
  refine AWP_cut [6] (fun _ : Unit => [.ptr (σ.next + 2) 0 0 0]) (fun _ s => Kp σ s ∧ TAt s s.next (σ.next + 2) (glOf l cons)) ?_ ?_
  · refine raw ?_
    repeat (first | (with_reducible refine unr ?_; try simp only [ZZ, ↓reduceIte, Nat.reduceEqDiff, Nat.reduceAdd, Nat.reduceLeDiff, reduceCtorEq, Int.reduceEq, Int.reduceLT, Int.reduceLE, Int.reduceNeg, Int.reduceAdd, Int.reduceSub, Int.reduceToNat]) | (with_reducible first | refine W1 ?_ | refine W2 ?_ | refine W3 ?_ | refine W4 ?_ | refine W5 ?_ | refine W6 ?_ | refine W7 ?_ | refine W8 ?_ | refine W9 ?_))
    refine AWP_while [6, 32, 33, 34] (fun y : AV × Nat => cons.length - y.2) (fun y => [.ptr (σ.next + 2) 0 0 0, .list (cons.map con5C), .int .i64 cons.length, .int .i64 y.2])
      (fun y s => y.2 ≤ cons.length ∧ Kp σ s ∧ s.get σ.next = some (.map (ents 0 (l.map (·.nm)))) ∧ s.get (σ.next + 1) = some (.map (ents 0 ((cons.take y.2).map (·.nm)))) ∧ s.get (σ.next + 2) = some (.cells 223 0 3 [[.map σ.next, .map (σ.next + 1), y.1]]) ∧
        SliceAt s y.1 3 1 ((cons.take y.2).map fun c => [.int .i64 (c.fs.length : Int)]) ∧ ∀ j, j ∈ slIds y.1 → σ.next + 3 ≤ j) (.nils, 0) ⟨by simp, k2, f1, by simpa [ents] using f2, f3, by simpa using SliceAt.nil s 3 1, by simp [slIds]⟩ ?_ ?_
    · refine raw ?_
      repeat (first | (with_reducible refine unr ?_; try simp only [ZZ, ↓reduceIte, Nat.reduceEqDiff, Nat.reduceAdd, Nat.reduceLeDiff, reduceCtorEq, Int.reduceEq, Int.reduceLT, Int.reduceLE, Int.reduceNeg, Int.reduceAdd, Int.reduceSub, Int.reduceToNat]) | (with_reducible first | refine W1 ?_ | refine W2 ?_ | refine W3 ?_ | refine W4 ?_ | refine W5 ?_ | refine W6 ?_ | refine W7 ?_ | refine W8 ?_ | refine W9 ?_))
      rfl
    clear k2 f1 f2 f3
    rintro ⟨fv, i⟩ s ⟨hi, k2, f1, f2, f3, hsl, hfv⟩
    simp only at hi f2 f3 hsl hfv
    have hw := wrap_succ (i := i) (by omega)
    have q1 := lt_ne (s.lt f1)
    have q2 := lt_ne (s.lt f2)
    have q3 := lt_ne (s.lt f3)
    by_cases hil : i < cons.length
    · have hil' : (i : Int) < (cons.length : Int) := by omega
      obtain ⟨x, hx⟩ : ∃ x, cons[i]? = some x := ⟨_, List.getElem?_eq_getElem hil⟩
      have hg : (cons.map con5C)[i]? = some (con5C x) := by simp [hx]
      have kp := (k2.push (.cells 87 0 5 [con5C x]))
      by_cases hm : x.nm ∈ (cons.take i).map (·.nm)
      · obtain ⟨m, j, _, hf⟩ : ∃ m j, idx ((cons.take i).map (·.nm)) x.nm = some m ∧ aFind .str (.str x.nm) (ents 0 ((cons.take i).map (·.nm))) 0 = some (some (j, .int .i64 ((0 + m : Nat) : Int))) := by
          rcases aFind_ents x.nm ((cons.take i).map (·.nm)) 0 0 with ⟨h1, _⟩ | ⟨m, j, h1, h2⟩
          · exact absurd hm (idx_none.1 h1)
          · exact ⟨m, j, h1, h2⟩
        refine raw ?_
        repeat' (first | (with_reducible refine unr ?_; try simp only [ZZ, ↓reduceIte, Nat.reduceEqDiff, Nat.reduceAdd, Nat.reduceLeDiff, reduceCtorEq, Int.reduceEq, Int.reduceLT, Int.reduceLE, Int.reduceNeg, Int.reduceAdd, Int.reduceSub, Int.reduceToNat, hil', hg, con5C, f2, f3, q2, q3, hf, findVal, str_nil, *]) | (with_reducible first | refine W1 ?_ | refine W2 ?_ | refine W3 ?_ | refine W4 ?_ | refine W5 ?_ | refine W6 ?_ | refine W7 ?_ | refine W8 ?_ | refine W9 ?_ | refine ok_idx (by first | assumption | omega) (fun b hb => raw ?_) | refine ok_iad (by first | assumption | omega) (fun x hx hxm => raw ?_) | refine And.intro (by omega) (raw ?_) | (refine guardW_b (fun h => raw ?_) (fun h => raw ?_) <;> try simp only [Ty] at h) | (refine ePick_b (fun h => raw ?_) (fun h => raw ?_) <;> try simp only [Ty] at h) | (refine condW_b (fun h => raw ?_) (fun h => raw ?_) <;> try simp only [Ty] at h)))
        exact ⟨Or.inl trivial, kp⟩
      · have hf := aFind_new hm
        have hu2 : ∀ o, (s.upd (σ.next + 1) o).get (σ.next + 2) = some (.cells 223 0 3 [[.map σ.next, .map (σ.next + 1), fv]]) := fun o => by rw [Store.get_upd_ne _ _ (by omega)]; exact f3
        refine raw ?_
        repeat' (first | (with_reducible refine unr ?_; try simp only [ZZ, ↓reduceIte, Nat.reduceEqDiff, Nat.reduceAdd, Nat.reduceLeDiff, reduceCtorEq, Int.reduceEq, Int.reduceLT, Int.reduceLE, Int.reduceNeg, Int.reduceAdd, Int.reduceSub, Int.reduceToNat, hil', hg, con5C, f2, f3, q2, q3, hf, findVal, mapPut, hu2, str_nil, *]) | (with_reducible first | refine W1 ?_ | refine W2 ?_ | refine W3 ?_ | refine W4 ?_ | refine W5 ?_ | refine W6 ?_ | refine W7 ?_ | refine W8 ?_ | refine W9 ?_ | refine ok_idx (by first | assumption | omega) (fun b hb => raw ?_) | refine ok_iad (by first | assumption | omega) (fun x hx hxm => raw ?_) | refine And.intro (by omega) (raw ?_) | (refine guardW_b (fun h => raw ?_) (fun h => raw ?_) <;> try simp only [Ty] at h) | (refine ePick_b (fun h => raw ?_) (fun h => raw ?_) <;> try simp only [Ty] at h) | (refine condW_b (fun h => raw ?_) (fun h => raw ?_) <;> try simp only [Ty] at h)))
        · exact ⟨Or.inl trivial, kp⟩
        generalize hs4 : Store.push _ _ = s4
        have k4 : Kp σ s4 := by rw [← hs4]; exact (k2.upd (by omega) _).push _
        have n4 : s4.next = s.next + 1 := by rw [← hs4]; rfl
        have g1 : s4.get σ.next = some (.map (ents 0 (l.map (·.nm)))) := by rw [← hs4, Store.push_get, if_neg (by rw [Store.upd_next]; simpa using q1), Store.get_upd_ne _ _ (by omega)]; exact f1
        have et : (cons.take (i + 1)).map (·.nm) = (cons.take i).map (·.nm) ++ [x.nm] := by rw [take_succ_at hx]; simp
        have hli : ((cons.take i).map (·.nm)).length = i := by simp; omega
        have g2 : s4.get (σ.next + 1) = some (.map (ents 0 ((cons.take (i + 1)).map (·.nm)))) := by
          rw [← hs4, Store.push_get, if_neg (by rw [Store.upd_next]; simpa using q2), Store.get_upd_self _ _ (s.lt f2), et, ents_app, hli, Nat.zero_add]
          rfl
        have g3 : s4.get (σ.next + 2) = some (.cells 223 0 3 [[.map σ.next, .map (σ.next + 1), fv]]) := by rw [← hs4, Store.push_get, if_neg (by rw [Store.upd_next]; simpa using q3), Store.get_upd_ne _ _ (by omega)]; exact f3
        have hsl4 : SliceAt s4 fv 3 1 ((cons.take i).map fun c => [.int .i64 (c.fs.length : Int)]) := hsl.keep fun j hj => by
          have h1 := hfv j hj
          have h2 := hsl.lt hj
          rw [← hs4, Store.push_get, if_neg (by rw [Store.upd_next]; omega), Store.get_upd_ne _ _ (by omega)]
        clear hs4
        refine ok_app hsl4 (es2 := [[.int .i64 (x.fs.length : Int)]]) (by simp) (by simp; omega) (by simp [maxLen]; omega) ?_
        intro fv5 s5 hsl5 hfr
        have l3 := s.lt f3
        have m1 := hfr.keep σ.next (by omega) (fun hm => by have := hfv _ hm; omega)
        have m2 := hfr.keep (σ.next + 1) (by omega) (fun hm => by have := hfv _ hm; omega)
        have m3 := hfr.keep (σ.next + 2) (by omega) (fun hm => by have := hfv _ hm; omega)
        rw [g1] at m1
        rw [g2] at m2
        rw [g3] at m3
        have hfv5 : ∀ j, j ∈ slIds fv5 → σ.next + 3 ≤ j := fun j hj => (hfr.fresh j hj).elim (hfv j) (fun q => by have := k2.next; have := s.lt f3; omega)
        have k5 : Kp σ s5 := ⟨by have := k4.next; have := hfr.next; omega, fun j hj => by rw [hfr.keep j (by have := k4.next; omega) (fun hm => by have := hfv _ hm; omega), k4.keep j hj]⟩
        refine raw ?_
        repeat (first | (with_reducible refine unr ?_; try simp only [ZZ, ↓reduceIte, Nat.reduceEqDiff, Nat.reduceAdd, Nat.reduceLeDiff, reduceCtorEq, Int.reduceEq, Int.reduceLT, Int.reduceLE, Int.reduceNeg, Int.reduceAdd, Int.reduceSub, Int.reduceToNat, m3, hsl5.co, hw]) | (with_reducible first | refine W1 ?_ | refine W2 ?_ | refine W3 ?_ | refine W4 ?_ | refine W5 ?_ | refine W6 ?_ | refine W7 ?_ | refine W8 ?_ | refine W9 ?_))
        refine ⟨(fv5, i + 1), rfl, ⟨by simp only; omega, k5.upd (by omega) _, ?_, ?_, Store.get_upd_self _ _ (s5.lt m3), ?_, hfv5⟩, by simp only; omega⟩
        · rw [Store.get_upd_ne _ _ (by omega)]; exact m1
        · rw [Store.get_upd_ne _ _ (by omega)]; exact m2
        · have e : ((cons.take (i + 1)).map fun c => [AV.int .i64 (c.fs.length : Int)]) = ((cons.take i).map fun c => [AV.int .i64 (c.fs.length : Int)]) ++ [[AV.int .i64 (x.fs.length : Int)]] := by rw [take_succ_at hx]; simp
          simp only [e]
          exact hsl5.keep fun j hj => Store.get_upd_ne _ _ (by have := hfv5 j hj; omega)
    · have hil' : ¬ (i : Int) < (cons.length : Int) := by omega
      rw [List.take_of_length_le (by omega)] at f2 hsl
      refine raw ?_
      repeat (first | (with_reducible refine unr ?_; try simp only [ZZ, ↓reduceIte, Nat.reduceEqDiff, Nat.reduceAdd, Nat.reduceLeDiff, reduceCtorEq, Int.reduceEq, Int.reduceLT, Int.reduceLE, Int.reduceNeg, Int.reduceAdd, Int.reduceSub, Int.reduceToNat, hil']) | (with_reducible first | refine W1 ?_ | refine W2 ?_ | refine W3 ?_ | refine W4 ?_ | refine W5 ?_ | refine W6 ?_ | refine W7 ?_ | refine W8 ?_ | refine W9 ?_))
      refine ⟨(), k2, ⟨σ.next, σ.next + 1, fv, _, _, f3, f1, f2, ?_, ?_, ?_, ?_, s.lt f3, s.lt f1, s.lt f2, fun j hj => hsl.lt hj⟩, ?_⟩
      · rw [ents_len]; rfl
      · intro k
        rcases aFind_ents k (l.map (·.nm)) 0 0 with h | ⟨m, j, h1, h2⟩
        · exact .inl h
        · exact .inr ⟨m, j, h1, by simpa using h2⟩
      · intro k
        have e : (glOf l cons).con.map (·.1) = cons.map (·.nm) := by simp [glOf, Function.comp_def]
        rw [e]
        rcases aFind_ents k (cons.map (·.nm)) 0 0 with h | ⟨m, j, h1, h2⟩
        · exact .inl h
        · exact .inr ⟨m, j, h1, by simpa using h2⟩
      · have e : ((glOf l cons).con.map fun c => [AV.int .i64 (c.2 : Int)]) = cons.map fun c => [AV.int .i64 (c.fs.length : Int)] := by simp [glOf, Function.comp_def]
        rw [e]; exact hsl
      · simp [glOf]; omega
  rintro _ s ⟨k2, ht⟩
  refine raw ?_
  repeat (first | (with_reducible refine unr ?_; try simp only [ZZ, ↓reduceIte, Nat.reduceEqDiff, Nat.reduceAdd, Nat.reduceLeDiff, reduceCtorEq, Int.reduceEq, Int.reduceLT, Int.reduceLE, Int.reduceNeg, Int.reduceAdd, Int.reduceSub, Int.reduceToNat]) | (with_reducible first | refine W1 ?_ | refine W2 ?_ | refine W3 ?_ | refine W4 ?_ | refine W5 ?_ | refine W6 ?_ | refine W7 ?_ | refine W8 ?_ | refine W9 ?_))
  refine (fits_ok ht _ _).mono ?_
  rintro _ _ ⟨⟨b1, rfl, -⟩, rfl⟩
  rename_i s
  cases b1 with
  | true =>
    refine raw ?_
    repeat (first | (with_reducible refine unr ?_; try simp only [ZZ, ↓reduceIte, Nat.reduceEqDiff, Nat.reduceAdd, Nat.reduceLeDiff, reduceCtorEq, Int.reduceEq, Int.reduceLT, Int.reduceLE, Int.reduceNeg, Int.reduceAdd, Int.reduceSub, Int.reduceToNat]) | (with_reducible first | refine W1 ?_ | refine W2 ?_ | refine W3 ?_ | refine W4 ?_ | refine W5 ?_ | refine W6 ?_ | refine W7 ?_ | refine W8 ?_ | refine W9 ?_))
    refine (fits_ok ht _ _).mono ?_
    rintro _ _ ⟨⟨b2, rfl, -⟩, rfl⟩
    rename_i s
    refine raw ?_
    repeat (first | (with_reducible refine unr ?_; try simp only [ZZ, ↓reduceIte, Nat.reduceEqDiff, Nat.reduceAdd, Nat.reduceLeDiff, reduceCtorEq, Int.reduceEq, Int.reduceLT, Int.reduceLE, Int.reduceNeg, Int.reduceAdd, Int.reduceSub, Int.reduceToNat]) | (with_reducible first | refine W1 ?_ | refine W2 ?_ | refine W3 ?_ | refine W4 ?_ | refine W5 ?_ | refine W6 ?_ | refine W7 ?_ | refine W8 ?_ | refine W9 ?_))
    exact ⟨.inr ⟨_, _, rfl, ht⟩, k2⟩
  | false =>
    refine raw ?_
    repeat (first | (with_reducible refine unr ?_; try simp only [ZZ, ↓reduceIte, Nat.reduceEqDiff, Nat.reduceAdd, Nat.reduceLeDiff, reduceCtorEq, Int.reduceEq, Int.reduceLT, Int.reduceLE, Int.reduceNeg, Int.reduceAdd, Int.reduceSub, Int.reduceToNat]) | (with_reducible first | refine W1 ?_ | refine W2 ?_ | refine W3 ?_ | refine W4 ?_ | refine W5 ?_ | refine W6 ?_ | refine W7 ?_ | refine W8 ?_ | refine W9 ?_))
    exact ⟨.inr ⟨_, _, rfl, ht⟩, k2⟩
end Go.Proofs.Ytjjbjibbjbbeaaa
/- Which expressions are known; what is opened. -/
set_option linter.unusedVariables false
set_option linter.unusedSimpArgs false
namespace Go.AL
theorem TAt.kp {σ s : Store} {T tid : Nat} {g : Gl} (h : TAt σ T tid g) (hT : T ≤ σ.next) (k : Kp σ s) : TAt s T tid g := h.keep fun j hj => k.keep j (by omega)
end Go.AL
namespace Go.Proofs.Ytjjbjibbjbbeaaa
open Go.AL
abbrev KnownC (x : Cr) : Prop := ∀ (σ : Store) (T tid : Nat) (g : Gl), TAt σ T tid g → T ≤ σ.next → ACalls Try.prog 64 [.ptr tid 0 0 0, .agg x.cells] σ fun r s => (∃ b : Bool, r = .bool b ∧ True) ∧ s = σ
set_option maxHeartbeats 1000000 in
theorem known_okX : ∀ x : Cr, x.bulk ≤ 10000000 → KnownC x := by
  intro x
  induction x using Cr.ind with
  | _ k nm n ar ps gs al bs pk ih1 ih2 ih3 ih4 =>
    intro hb σ T tid g ht hT
    rw [Cr.bulk] at hb
    have l1 := Cr.lenL gs; have l2 := Cr.lenA al; have l3 := Cr.lenB bs; have l4 := Cr.lenP pk
    have i1 := fun (x : Cr) (hx : x ∈ gs) => ih1 x hx (by have := Cr.bulkL_le hx; omega)
    have i2 := fun (x : AltH × Cr) (hx : x ∈ al) => ih2 x hx (by have := Cr.bulkA_le hx; omega)
    have i3 := fun (x : ByteArray × Cr) (hx : x ∈ bs) => ih3 x hx (by have := Cr.bulkB_le hx; omega)
    have i4 := fun (x : Int × Cr) (hx : x ∈ pk) => ih4 x hx (by have := Cr.bulkP_le hx; omega)
    refine (ACalls_fp (p := SomeB) ?_).mono fun r s h => ⟨h.1.out, h.2⟩
    refine in64 (by simp) ?_
    unfold c64
    rw [Cr.cells_eq]
    try simp only [ZZ, ↓reduceIte, Nat.reduceEqDiff, Nat.reduceAdd, Nat.reduceLeDiff, reduceCtorEq, Int.reduceEq, Int.reduceLT, Int.reduceLE, Int.reduceNeg, Int.reduceAdd, Int.reduceSub, Int.reduceToNat]
    iterate 2 ((with_reducible first | refine W1 ?_ | refine W2 ?_ | refine W3 ?_ | refine W4 ?_ | refine W5 ?_ | refine W6 ?_ | refine W7 ?_ | refine W8 ?_ | refine W9 ?_); refine unr ?_; try simp only [ZZ, ↓reduceIte, Nat.reduceEqDiff, Nat.reduceAdd, Nat.reduceLeDiff, reduceCtorEq, Int.reduceEq, Int.reduceLT, Int.reduceLE, Int.reduceNeg, Int.reduceAdd, Int.reduceSub, Int.reduceToNat])
    generalize hs : Store.push _ _ = s1
    have k1 : Kp σ s1 := by rw [← hs]; exact .pushed _ _
    have g1 : s1.get σ.next = some (.cells 54 0 9 [[.int .i64 k, .str nm, .int .i64 n, .int .i64 ar, strs ps, .list (gs.map Cr.cells), .list (al.map altC), .list (bs.map bindC), .list (pk.map pickC)]]) := by rw [← hs]; simp [Store.push_get, Store.push_next]
    clear hs
    have he1 := g1
    have ht1 := ht.kp hT k1
    have hT1 : T ≤ s1.next := by have := k1.next; omega
    refine AWP_cut [0, 3] (fun _ : Unit => [.ptr tid 0 0 0, .ptr σ.next 0 0 0]) (fun _ s => s1 = s) ?_ ?_
    · refine raw ?_
      repeat' (first | (with_reducible refine unr ?_; try simp only [ZZ, ↓reduceIte, Nat.reduceEqDiff, Nat.reduceAdd, Nat.reduceLeDiff, reduceCtorEq, Int.reduceEq, Int.reduceLT, Int.reduceLE, Int.reduceNeg, Int.reduceAdd, Int.reduceSub, Int.reduceToNat, g1, str_nil, *]) | (with_reducible first | refine W1 ?_ | refine W2 ?_ | refine W3 ?_ | refine W4 ?_ | refine W5 ?_ | refine W6 ?_ | refine W7 ?_ | refine W8 ?_ | refine W9 ?_ | refine ok_idx (by first | assumption | omega) (fun b hb => raw ?_) | refine ok_iad (by first | assumption | omega) (fun x hx hxm => raw ?_) | refine And.intro (by omega) (raw ?_) | (refine guardW_b (fun h => raw ?_) (fun h => raw ?_) <;> try simp only [Ty] at h) | (refine ePick_b (fun h => raw ?_) (fun h => raw ?_) <;> try simp only [Ty] at h) | (refine condW_b (fun h => raw ?_) (fun h => raw ?_) <;> try simp only [Ty] at h) | (refine (fits_ok ht1 _ _).mono ?_; rintro _ _ ⟨⟨b, rfl, hb⟩, rfl⟩; refine raw ?_)))
      all_goals first
        | exact ⟨(), trivial⟩
        | exact FP.same k1 (SomeB.mk _) (.bool _)
    rintro _ _ rfl
    refine AWP_cut [0, 3] (fun _ : Unit => [.ptr tid 0 0 0, .ptr σ.next 0 0 0]) (fun _ s => Kp s1 s) ?_ ?_
    · refine raw ?_
      repeat (first | (with_reducible refine unr ?_; try simp only [ZZ, ↓reduceIte, Nat.reduceEqDiff, Nat.reduceAdd, Nat.reduceLeDiff, reduceCtorEq, Int.reduceEq, Int.reduceLT, Int.reduceLE, Int.reduceNeg, Int.reduceAdd, Int.reduceSub, Int.reduceToNat, he1]) | (with_reducible first | refine W1 ?_ | refine W2 ?_ | refine W3 ?_ | refine W4 ?_ | refine W5 ?_ | refine W6 ?_ | refine W7 ?_ | refine W8 ?_ | refine W9 ?_))
      refine AWP_while [0, 3, 26, 27, 28] (fun i : Nat => gs.length - i) (fun i => [.ptr tid 0 0 0, .ptr σ.next 0 0 0, .list (gs.map Cr.cells), .int .i64 gs.length, .int .i64 i]) (fun i t => Kp s1 t ∧ i ≤ gs.length) 0 ⟨.refl _, by simp⟩ ?_ ?_
      · refine raw ?_
        repeat (first | (with_reducible refine unr ?_; try simp only [ZZ, ↓reduceIte, Nat.reduceEqDiff, Nat.reduceAdd, Nat.reduceLeDiff, reduceCtorEq, Int.reduceEq, Int.reduceLT, Int.reduceLE, Int.reduceNeg, Int.reduceAdd, Int.reduceSub, Int.reduceToNat]) | (with_reducible first | refine W1 ?_ | refine W2 ?_ | refine W3 ?_ | refine W4 ?_ | refine W5 ?_ | refine W6 ?_ | refine W7 ?_ | refine W8 ?_ | refine W9 ?_))
        rfl
      rintro i t ⟨k2, hi⟩
      have he1 := k2.get g1
      have hq1 := lt_ne (t.lt he1)
      have kk := k1.trans k2
      have hw := wrap_succ (i := i) (by omega)
      by_cases hil : i < gs.length
      · have hil' : (i : Int) < (gs.length : Int) := by omega
        obtain ⟨x, hx⟩ : ∃ x, gs[i]? = some x := ⟨_, List.getElem?_eq_getElem hil⟩
        have hg : (gs.map Cr.cells)[i]? = some (Cr.cells x) := by simp [hx]
        have hxm := List.mem_of_getElem? hx
        have htp := fun o => ht1.kp hT1 (k2.push o)
        have hTp := fun o => (show T ≤ (t.push o).next by rw [Store.push_next]; have := k2.next; omega)
        refine raw ?_
        repeat' (first | (with_reducible refine unr ?_; try simp only [ZZ, ↓reduceIte, Nat.reduceEqDiff, Nat.reduceAdd, Nat.reduceLeDiff, reduceCtorEq, Int.reduceEq, Int.reduceLT, Int.reduceLE, Int.reduceNeg, Int.reduceAdd, Int.reduceSub, Int.reduceToNat, he1, hil', hg, Cr.len, Cr.take9, hq1, str_nil, *]) | (with_reducible first | refine W1 ?_ | refine W2 ?_ | refine W3 ?_ | refine W4 ?_ | refine W5 ?_ | refine W6 ?_ | refine W7 ?_ | refine W8 ?_ | refine W9 ?_ | refine ok_idx (by first | assumption | omega) (fun b hb => raw ?_) | refine ok_iad (by first | assumption | omega) (fun x hx hxm => raw ?_) | refine And.intro (by omega) (raw ?_) | (refine guardW_b (fun h => raw ?_) (fun h => raw ?_) <;> try simp only [Ty] at h) | (refine ePick_b (fun h => raw ?_) (fun h => raw ?_) <;> try simp only [Ty] at h) | (refine condW_b (fun h => raw ?_) (fun h => raw ?_) <;> try simp only [Ty] at h) | (refine (i1 x hxm _ T tid g (htp _) (hTp _)).mono ?_; rintro _ _ ⟨⟨b, rfl, hb⟩, rfl⟩; refine raw ?_)))
        all_goals first
          | exact FP.same (k1.trans (k2.push _)) (SomeB.mk _) (.bool _)
          | exact ⟨i + 1, rfl, ⟨k2.push _, by omega⟩, by omega⟩
          | exact ⟨i + 1, rfl, by omega, by omega⟩
      · have hil' : ¬ (i : Int) < (gs.length : Int) := by omega
        refine raw ?_
        repeat (first | (with_reducible refine unr ?_; try simp only [ZZ, ↓reduceIte, Nat.reduceEqDiff, Nat.reduceAdd, Nat.reduceLeDiff, reduceCtorEq, Int.reduceEq, Int.reduceLT, Int.reduceLE, Int.reduceNeg, Int.reduceAdd, Int.reduceSub, Int.reduceToNat, he1, hil']) | (with_reducible first | refine W1 ?_ | refine W2 ?_ | refine W3 ?_ | refine W4 ?_ | refine W5 ?_ | refine W6 ?_ | refine W7 ?_ | refine W8 ?_ | refine W9 ?_))
        exact ⟨(), k2⟩
    rintro _ s2 k2
    have he1 := k2.get g1
    refine AWP_cut [0, 3] (fun _ : Unit => [.ptr tid 0 0 0, .ptr σ.next 0 0 0]) (fun _ s => Kp s1 s) ?_ ?_
    · refine raw ?_
      repeat (first | (with_reducible refine unr ?_; try simp only [ZZ, ↓reduceIte, Nat.reduceEqDiff, Nat.reduceAdd, Nat.reduceLeDiff, reduceCtorEq, Int.reduceEq, Int.reduceLT, Int.reduceLE, Int.reduceNeg, Int.reduceAdd, Int.reduceSub, Int.reduceToNat, he1]) | (with_reducible first | refine W1 ?_ | refine W2 ?_ | refine W3 ?_ | refine W4 ?_ | refine W5 ?_ | refine W6 ?_ | refine W7 ?_ | refine W8 ?_ | refine W9 ?_))
      refine AWP_while [0, 3, 38, 39, 40] (fun i : Nat => al.length - i) (fun i => [.ptr tid 0 0 0, .ptr σ.next 0 0 0, .list (al.map altC), .int .i64 al.length, .int .i64 i]) (fun i t => Kp s1 t ∧ i ≤ al.length) 0 ⟨k2, by simp⟩ ?_ ?_
      · refine raw ?_
        repeat (first | (with_reducible refine unr ?_; try simp only [ZZ, ↓reduceIte, Nat.reduceEqDiff, Nat.reduceAdd, Nat.reduceLeDiff, reduceCtorEq, Int.reduceEq, Int.reduceLT, Int.reduceLE, Int.reduceNeg, Int.reduceAdd, Int.reduceSub, Int.reduceToNat]) | (with_reducible first | refine W1 ?_ | refine W2 ?_ | refine W3 ?_ | refine W4 ?_ | refine W5 ?_ | refine W6 ?_ | refine W7 ?_ | refine W8 ?_ | refine W9 ?_))
        rfl
      rintro i t ⟨k2, hi⟩
      have he1 := k2.get g1
      have hq1 := lt_ne (t.lt he1)
      have kk := k1.trans k2
      have hw := wrap_succ (i := i) (by omega)
      by_cases hil : i < al.length
      · have hil' : (i : Int) < (al.length : Int) := by omega
        obtain ⟨x, hx⟩ : ∃ x, al[i]? = some x := ⟨_, List.getElem?_eq_getElem hil⟩
        have hg : (al.map altC)[i]? = some (altC x) := by simp [hx]
        have hxm := List.mem_of_getElem? hx
        have htp := fun o => ht1.kp hT1 (k2.push o)
        have hTp := fun o => (show T ≤ (t.push o).next by rw [Store.push_next]; have := k2.next; omega)
        refine raw ?_
        repeat' (first | (with_reducible refine unr ?_; try simp only [ZZ, ↓reduceIte, Nat.reduceEqDiff, Nat.reduceAdd, Nat.reduceLeDiff, reduceCtorEq, Int.reduceEq, Int.reduceLT, Int.reduceLE, Int.reduceNeg, Int.reduceAdd, Int.reduceSub, Int.reduceToNat, he1, hil', hg, altC, AltH.cells, Cr.len, Cr.take9, hq1, str_nil, *]) | (with_reducible first | refine W1 ?_ | refine W2 ?_ | refine W3 ?_ | refine W4 ?_ | refine W5 ?_ | refine W6 ?_ | refine W7 ?_ | refine W8 ?_ | refine W9 ?_ | refine ok_idx (by first | assumption | omega) (fun b hb => raw ?_) | refine ok_iad (by first | assumption | omega) (fun x hx hxm => raw ?_) | refine And.intro (by omega) (raw ?_) | (refine guardW_b (fun h => raw ?_) (fun h => raw ?_) <;> try simp only [Ty] at h) | (refine ePick_b (fun h => raw ?_) (fun h => raw ?_) <;> try simp only [Ty] at h) | (refine condW_b (fun h => raw ?_) (fun h => raw ?_) <;> try simp only [Ty] at h) | (refine (i2 x hxm _ T tid g (htp _) (hTp _)).mono ?_; rintro _ _ ⟨⟨b, rfl, hb⟩, rfl⟩; refine raw ?_) | (refine (fits_ok (htp _) _ _).mono ?_; rintro _ _ ⟨⟨b, rfl, hb⟩, rfl⟩; refine raw ?_)))
        all_goals first
          | exact FP.same (k1.trans (k2.push _)) (SomeB.mk _) (.bool _)
          | exact ⟨i + 1, rfl, ⟨k2.push _, by omega⟩, by omega⟩
          | exact ⟨i + 1, rfl, by omega, by omega⟩
      · have hil' : ¬ (i : Int) < (al.length : Int) := by omega
        refine raw ?_
        repeat (first | (with_reducible refine unr ?_; try simp only [ZZ, ↓reduceIte, Nat.reduceEqDiff, Nat.reduceAdd, Nat.reduceLeDiff, reduceCtorEq, Int.reduceEq, Int.reduceLT, Int.reduceLE, Int.reduceNeg, Int.reduceAdd, Int.reduceSub, Int.reduceToNat, he1, hil']) | (with_reducible first | refine W1 ?_ | refine W2 ?_ | refine W3 ?_ | refine W4 ?_ | refine W5 ?_ | refine W6 ?_ | refine W7 ?_ | refine W8 ?_ | refine W9 ?_))
        exact ⟨(), k2⟩
    rintro _ s2 k2
    have he1 := k2.get g1
    refine AWP_cut [0, 3] (fun _ : Unit => [.ptr tid 0 0 0, .ptr σ.next 0 0 0]) (fun _ s => Kp s1 s) ?_ ?_
    · refine raw ?_
      repeat (first | (with_reducible refine unr ?_; try simp only [ZZ, ↓reduceIte, Nat.reduceEqDiff, Nat.reduceAdd, Nat.reduceLeDiff, reduceCtorEq, Int.reduceEq, Int.reduceLT, Int.reduceLE, Int.reduceNeg, Int.reduceAdd, Int.reduceSub, Int.reduceToNat, he1]) | (with_reducible first | refine W1 ?_ | refine W2 ?_ | refine W3 ?_ | refine W4 ?_ | refine W5 ?_ | refine W6 ?_ | refine W7 ?_ | refine W8 ?_ | refine W9 ?_))
      refine AWP_while [0, 3, 66, 67, 68] (fun i : Nat => bs.length - i) (fun i => [.ptr tid 0 0 0, .ptr σ.next 0 0 0, .list (bs.map bindC), .int .i64 bs.length, .int .i64 i]) (fun i t => Kp s1 t ∧ i ≤ bs.length) 0 ⟨k2, by simp⟩ ?_ ?_
      · refine raw ?_
        repeat (first | (with_reducible refine unr ?_; try simp only [ZZ, ↓reduceIte, Nat.reduceEqDiff, Nat.reduceAdd, Nat.reduceLeDiff, reduceCtorEq, Int.reduceEq, Int.reduceLT, Int.reduceLE, Int.reduceNeg, Int.reduceAdd, Int.reduceSub, Int.reduceToNat]) | (with_reducible first | refine W1 ?_ | refine W2 ?_ | refine W3 ?_ | refine W4 ?_ | refine W5 ?_ | refine W6 ?_ | refine W7 ?_ | refine W8 ?_ | refine W9 ?_))
        rfl
      rintro i t ⟨k2, hi⟩
      have he1 := k2.get g1
      have hq1 := lt_ne (t.lt he1)
      have kk := k1.trans k2
      have hw := wrap_succ (i := i) (by omega)
      by_cases hil : i < bs.length
      · have hil' : (i : Int) < (bs.length : Int) := by omega
        obtain ⟨x, hx⟩ : ∃ x, bs[i]? = some x := ⟨_, List.getElem?_eq_getElem hil⟩
        have hg : (bs.map bindC)[i]? = some (bindC x) := by simp [hx]
        have hxm := List.mem_of_getElem? hx
        have htp := fun o => ht1.kp hT1 (k2.push o)
        have hTp := fun o => (show T ≤ (t.push o).next by rw [Store.push_next]; have := k2.next; omega)
        refine raw ?_
        repeat' (first | (with_reducible refine unr ?_; try simp only [ZZ, ↓reduceIte, Nat.reduceEqDiff, Nat.reduceAdd, Nat.reduceLeDiff, reduceCtorEq, Int.reduceEq, Int.reduceLT, Int.reduceLE, Int.reduceNeg, Int.reduceAdd, Int.reduceSub, Int.reduceToNat, he1, hil', hg, bindC, Cr.len, Cr.take9, hq1, str_nil, *]) | (with_reducible first | refine W1 ?_ | refine W2 ?_ | refine W3 ?_ | refine W4 ?_ | refine W5 ?_ | refine W6 ?_ | refine W7 ?_ | refine W8 ?_ | refine W9 ?_ | refine ok_idx (by first | assumption | omega) (fun b hb => raw ?_) | refine ok_iad (by first | assumption | omega) (fun x hx hxm => raw ?_) | refine And.intro (by omega) (raw ?_) | (refine guardW_b (fun h => raw ?_) (fun h => raw ?_) <;> try simp only [Ty] at h) | (refine ePick_b (fun h => raw ?_) (fun h => raw ?_) <;> try simp only [Ty] at h) | (refine condW_b (fun h => raw ?_) (fun h => raw ?_) <;> try simp only [Ty] at h) | (refine (i3 x hxm _ T tid g (htp _) (hTp _)).mono ?_; rintro _ _ ⟨⟨b, rfl, hb⟩, rfl⟩; refine raw ?_)))
        all_goals first
          | exact FP.same (k1.trans (k2.push _)) (SomeB.mk _) (.bool _)
          | exact ⟨i + 1, rfl, ⟨k2.push _, by omega⟩, by omega⟩
          | exact ⟨i + 1, rfl, by omega, by omega⟩
      · have hil' : ¬ (i : Int) < (bs.length : Int) := by omega
        refine raw ?_
        repeat (first | (with_reducible refine unr ?_; try simp only [ZZ, ↓reduceIte, Nat.reduceEqDiff, Nat.reduceAdd, Nat.reduceLeDiff, reduceCtorEq, Int.reduceEq, Int.reduceLT, Int.reduceLE, Int.reduceNeg, Int.reduceAdd, Int.reduceSub, Int.reduceToNat, he1, hil']) | (with_reducible first | refine W1 ?_ | refine W2 ?_ | refine W3 ?_ | refine W4 ?_ | refine W5 ?_ | refine W6 ?_ | refine W7 ?_ | refine W8 ?_ | refine W9 ?_))
        exact ⟨(), k2⟩
    rintro _ s2 k2
    have he1 := k2.get g1
    refine raw ?_
    repeat (first | (with_reducible refine unr ?_; try simp only [ZZ, ↓reduceIte, Nat.reduceEqDiff, Nat.reduceAdd, Nat.reduceLeDiff, reduceCtorEq, Int.reduceEq, Int.reduceLT, Int.reduceLE, Int.reduceNeg, Int.reduceAdd, Int.reduceSub, Int.reduceToNat, he1]) | (with_reducible first | refine W1 ?_ | refine W2 ?_ | refine W3 ?_ | refine W4 ?_ | refine W5 ?_ | refine W6 ?_ | refine W7 ?_ | refine W8 ?_ | refine W9 ?_))
    refine AWP_while [0, 3, 79, 80, 81] (fun i : Nat => pk.length - i) (fun i => [.ptr tid 0 0 0, .ptr σ.next 0 0 0, .list (pk.map pickC), .int .i64 pk.length, .int .i64 i]) (fun i t => Kp s1 t ∧ i ≤ pk.length) 0 ⟨k2, by simp⟩ ?_ ?_
    · refine raw ?_
      repeat (first | (with_reducible refine unr ?_; try simp only [ZZ, ↓reduceIte, Nat.reduceEqDiff, Nat.reduceAdd, Nat.reduceLeDiff, reduceCtorEq, Int.reduceEq, Int.reduceLT, Int.reduceLE, Int.reduceNeg, Int.reduceAdd, Int.reduceSub, Int.reduceToNat]) | (with_reducible first | refine W1 ?_ | refine W2 ?_ | refine W3 ?_ | refine W4 ?_ | refine W5 ?_ | refine W6 ?_ | refine W7 ?_ | refine W8 ?_ | refine W9 ?_))
      rfl
    rintro i t ⟨k2, hi⟩
    have he1 := k2.get g1
    have hq1 := lt_ne (t.lt he1)
    have kk := k1.trans k2
    have hw := wrap_succ (i := i) (by omega)
    by_cases hil : i < pk.length
    · have hil' : (i : Int) < (pk.length : Int) := by omega
      obtain ⟨x, hx⟩ : ∃ x, pk[i]? = some x := ⟨_, List.getElem?_eq_getElem hil⟩
      have hg : (pk.map pickC)[i]? = some (pickC x) := by simp [hx]
      have hxm := List.mem_of_getElem? hx
      have htp := fun o => ht1.kp hT1 (k2.push o)
      have hTp := fun o => (show T ≤ (t.push o).next by rw [Store.push_next]; have := k2.next; omega)
      refine raw ?_
      repeat' (first | (with_reducible refine unr ?_; try simp only [ZZ, ↓reduceIte, Nat.reduceEqDiff, Nat.reduceAdd, Nat.reduceLeDiff, reduceCtorEq, Int.reduceEq, Int.reduceLT, Int.reduceLE, Int.reduceNeg, Int.reduceAdd, Int.reduceSub, Int.reduceToNat, he1, hil', hg, pickC, Cr.len, Cr.take9, hq1, str_nil, *]) | (with_reducible first | refine W1 ?_ | refine W2 ?_ | refine W3 ?_ | refine W4 ?_ | refine W5 ?_ | refine W6 ?_ | refine W7 ?_ | refine W8 ?_ | refine W9 ?_ | refine ok_idx (by first | assumption | omega) (fun b hb => raw ?_) | refine ok_iad (by first | assumption | omega) (fun x hx hxm => raw ?_) | refine And.intro (by omega) (raw ?_) | (refine guardW_b (fun h => raw ?_) (fun h => raw ?_) <;> try simp only [Ty] at h) | (refine ePick_b (fun h => raw ?_) (fun h => raw ?_) <;> try simp only [Ty] at h) | (refine condW_b (fun h => raw ?_) (fun h => raw ?_) <;> try simp only [Ty] at h) | (refine (i4 x hxm _ T tid g (htp _) (hTp _)).mono ?_; rintro _ _ ⟨⟨b, rfl, hb⟩, rfl⟩; refine raw ?_)))
      all_goals first
        | exact FP.same (k1.trans (k2.push _)) (SomeB.mk _) (.bool _)
        | exact ⟨i + 1, rfl, ⟨k2.push _, by omega⟩, by omega⟩
        | exact ⟨i + 1, rfl, by omega, by omega⟩
    · have hil' : ¬ (i : Int) < (pk.length : Int) := by omega
      refine raw ?_
      repeat (first | (with_reducible refine unr ?_; try simp only [ZZ, ↓reduceIte, Nat.reduceEqDiff, Nat.reduceAdd, Nat.reduceLeDiff, reduceCtorEq, Int.reduceEq, Int.reduceLT, Int.reduceLE, Int.reduceNeg, Int.reduceAdd, Int.reduceSub, Int.reduceToNat, he1, hil']) | (with_reducible first | refine W1 ?_ | refine W2 ?_ | refine W3 ?_ | refine W4 ?_ | refine W5 ?_ | refine W6 ?_ | refine W7 ?_ | refine W8 ?_ | refine W9 ?_))
      exact FP.same kk (SomeB.mk _) (.bool _)
end Go.Proofs.Ytjjbjibbjbbeaaa
/- What is opened. -/
set_option linter.unusedVariables false
set_option linter.unusedSimpArgs false
namespace Go.AL
theorem TAt.up {σ : Store} {T T' tid : Nat} {g : Gl} (h : TAt σ T tid g) (hT : T ≤ T') : TAt σ T' tid g := by
  obtain ⟨⟨sm, cm, fv, sme, cme, h1, h2, h3, h4, h5, h6, h7, h8, h9, h10, h11⟩, hs⟩ := h
  exact ⟨⟨sm, cm, fv, sme, cme, h1, h2, h3, h4, h5, h6, h7, by omega, by omega, by omega, fun j hj => by have := h11 j hj; omega⟩, hs⟩
end Go.AL
namespace Go.Proofs.Ytjjbjibbjbbeaaa
open Go.AL
theorem open_ok (l : List Sup) (cons : List Con5) (hb : bulkS l ≤ 9000000) (hl : l.length + cons.length ≤ 100000000) (σ : Store) :
    ACalls Try.prog 56 [.list (l.map supC), .list (cons.map con5C)] σ fun r s => (r = .tuple [.nilp, .bool false] ∨ ∃ tid, r = .tuple [.ptr tid 0 0 0, .bool true] ∧ TAt s s.next tid (glOf l cons) ∧ FlatP l) ∧ Kp σ s := by
  refine in56 (by simp) ?_
  unfold c56
  refine raw ?_
  repeat (first | (with_reducible refine unr ?_; try simp only [ZZ, ↓reduceIte, Nat.reduceEqDiff, Nat.reduceAdd, Nat.reduceLeDiff, reduceCtorEq, Int.reduceEq, Int.reduceLT, Int.reduceLE, Int.reduceNeg, Int.reduceAdd, Int.reduceSub, Int.reduceToNat]) | (with_reducible first | refine W1 ?_ | refine W2 ?_ | refine W3 ?_ | refine W4 ?_ | refine W5 ?_ | refine W6 ?_ | refine W7 ?_ | refine W8 ?_ | refine W9 ?_))
  refine (flatS_ok l hb _).mono ?_
  rintro _ _ ⟨⟨b, rfl, hF⟩, rfl⟩
  rename_i σ
  cases b with
  | false =>
    refine raw ?_
    repeat (first | (with_reducible refine unr ?_; try simp only [ZZ, ↓reduceIte, Nat.reduceEqDiff, Nat.reduceAdd, Nat.reduceLeDiff, reduceCtorEq, Int.reduceEq, Int.reduceLT, Int.reduceLE, Int.reduceNeg, Int.reduceAdd, Int.reduceSub, Int.reduceToNat]) | (with_reducible first | refine W1 ?_ | refine W2 ?_ | refine W3 ?_ | refine W4 ?_ | refine W5 ?_ | refine W6 ?_ | refine W7 ?_ | refine W8 ?_ | refine W9 ?_))
    exact ⟨.inl trivial, .refl _⟩
  | true =>
    have hF := hF rfl
    refine raw ?_
    repeat (first | (with_reducible refine unr ?_; try simp only [ZZ, ↓reduceIte, Nat.reduceEqDiff, Nat.reduceAdd, Nat.reduceLeDiff, reduceCtorEq, Int.reduceEq, Int.reduceLT, Int.reduceLE, Int.reduceNeg, Int.reduceAdd, Int.reduceSub, Int.reduceToNat]) | (with_reducible first | refine W1 ?_ | refine W2 ?_ | refine W3 ?_ | refine W4 ?_ | refine W5 ?_ | refine W6 ?_ | refine W7 ?_ | refine W8 ?_ | refine W9 ?_))
    refine (tableOf_ok l hF.2 cons hl _).mono ?_
    rintro _ s1 ⟨rfl | ⟨tid, b, rfl, ht⟩, k1⟩
    · refine raw ?_
      repeat (first | (with_reducible refine unr ?_; try simp only [ZZ, ↓reduceIte, Nat.reduceEqDiff, Nat.reduceAdd, Nat.reduceLeDiff, reduceCtorEq, Int.reduceEq, Int.reduceLT, Int.reduceLE, Int.reduceNeg, Int.reduceAdd, Int.reduceSub, Int.reduceToNat]) | (with_reducible first | refine W1 ?_ | refine W2 ?_ | refine W3 ?_ | refine W4 ?_ | refine W5 ?_ | refine W6 ?_ | refine W7 ?_ | refine W8 ?_ | refine W9 ?_))
      exact ⟨.inl trivial, k1⟩
    · cases b with
      | false =>
        refine raw ?_
        repeat (first | (with_reducible refine unr ?_; try simp only [ZZ, ↓reduceIte, Nat.reduceEqDiff, Nat.reduceAdd, Nat.reduceLeDiff, reduceCtorEq, Int.reduceEq, Int.reduceLT, Int.reduceLE, Int.reduceNeg, Int.reduceAdd, Int.reduceSub, Int.reduceToNat]) | (with_reducible first | refine W1 ?_ | refine W2 ?_ | refine W3 ?_ | refine W4 ?_ | refine W5 ?_ | refine W6 ?_ | refine W7 ?_ | refine W8 ?_ | refine W9 ?_))
        exact ⟨.inl trivial, k1⟩
      | true =>
        refine raw ?_
        repeat (first | (with_reducible refine unr ?_; try simp only [ZZ, ↓reduceIte, Nat.reduceEqDiff, Nat.reduceAdd, Nat.reduceLeDiff, reduceCtorEq, Int.reduceEq, Int.reduceLT, Int.reduceLE, Int.reduceNeg, Int.reduceAdd, Int.reduceSub, Int.reduceToNat]) | (with_reducible first | refine W1 ?_ | refine W2 ?_ | refine W3 ?_ | refine W4 ?_ | refine W5 ?_ | refine W6 ?_ | refine W7 ?_ | refine W8 ?_ | refine W9 ?_))
        refine AWP_while [0, 6, 21, 22, 23] (fun i : Nat => l.length - i) (fun i => [.list (l.map supC), .ptr tid 0 0 0, .list (l.map supC), .int .i64 l.length, .int .i64 i]) (fun i t => Kp s1 t ∧ i ≤ l.length) 0 ⟨.refl _, by simp⟩ ?_ ?_
        · refine raw ?_
          repeat (first | (with_reducible refine unr ?_; try simp only [ZZ, ↓reduceIte, Nat.reduceEqDiff, Nat.reduceAdd, Nat.reduceLeDiff, reduceCtorEq, Int.reduceEq, Int.reduceLT, Int.reduceLE, Int.reduceNeg, Int.reduceAdd, Int.reduceSub, Int.reduceToNat]) | (with_reducible first | refine W1 ?_ | refine W2 ?_ | refine W3 ?_ | refine W4 ?_ | refine W5 ?_ | refine W6 ?_ | refine W7 ?_ | refine W8 ?_ | refine W9 ?_))
          rfl
        rintro i t ⟨k2, hi⟩
        have hw := wrap_succ (i := i) (by omega)
        by_cases hil : i < l.length
        · have hil' : (i : Int) < (l.length : Int) := by omega
          obtain ⟨x, hx⟩ : ∃ x, l[i]? = some x := ⟨_, List.getElem?_eq_getElem hil⟩
          have hg : (l.map supC)[i]? = some (supC x) := by simp [hx]
          have hxm := List.mem_of_getElem? hx
          have hxb := bulkS_le hxm
          have htp := fun o => ht.kp (Nat.le_refl _) (k2.push o)
          have hTp := fun o => (show s1.next ≤ (t.push o).next by rw [Store.push_next]; have := k2.next; omega)
          refine raw ?_
          repeat' (first | (with_reducible refine unr ?_; try simp only [ZZ, ↓reduceIte, Nat.reduceEqDiff, Nat.reduceAdd, Nat.reduceLeDiff, reduceCtorEq, Int.reduceEq, Int.reduceLT, Int.reduceLE, Int.reduceNeg, Int.reduceAdd, Int.reduceSub, Int.reduceToNat, hil', hg, supC, Cr.len, Cr.take9, Cr.drop9, str_nil, *]) | (with_reducible first | refine W1 ?_ | refine W2 ?_ | refine W3 ?_ | refine W4 ?_ | refine W5 ?_ | refine W6 ?_ | refine W7 ?_ | refine W8 ?_ | refine W9 ?_ | refine ok_idx (by first | assumption | omega) (fun b hb => raw ?_) | refine ok_iad (by first | assumption | omega) (fun x hx hxm => raw ?_) | refine And.intro (by omega) (raw ?_) | (refine guardW_b (fun h => raw ?_) (fun h => raw ?_) <;> try simp only [Ty] at h) | (refine ePick_b (fun h => raw ?_) (fun h => raw ?_) <;> try simp only [Ty] at h) | (refine condW_b (fun h => raw ?_) (fun h => raw ?_) <;> try simp only [Ty] at h) | (refine (known_okX x.bd (by omega) _ _ _ _ (htp _) (hTp _)).mono ?_; rintro _ _ ⟨⟨b, rfl, hb⟩, rfl⟩; refine raw ?_)))
          · exact ⟨.inl trivial, k1.trans (k2.push _)⟩
          · exact ⟨i + 1, rfl, ⟨k2.push _, by omega⟩, by omega⟩
        · have hil' : ¬ (i : Int) < (l.length : Int) := by omega
          refine raw ?_
          repeat (first | (with_reducible refine unr ?_; try simp only [ZZ, ↓reduceIte, Nat.reduceEqDiff, Nat.reduceAdd, Nat.reduceLeDiff, reduceCtorEq, Int.reduceEq, Int.reduceLT, Int.reduceLE, Int.reduceNeg, Int.reduceAdd, Int.reduceSub, Int.reduceToNat, hil']) | (with_reducible first | refine W1 ?_ | refine W2 ?_ | refine W3 ?_ | refine W4 ?_ | refine W5 ?_ | refine W6 ?_ | refine W7 ?_ | refine W8 ?_ | refine W9 ?_))
          exact ⟨.inr ⟨tid, rfl, (ht.kp (Nat.le_refl _) k2).up k2.next , hF⟩, k1.trans k2⟩
end Go.Proofs.Ytjjbjibbjbbeaaa
/- What is compiled. -/
set_option linter.unusedVariables false
set_option linter.unusedSimpArgs false
namespace Go.AL
theorem codeC_len (c : Cd) : (codeC c).length = 4 := rfl
theorem codeC_t4 (c : Cd) : List.take 4 (codeC c) = codeC c := rfl
/-- The constructors' codes from a number on. -/
def consS : Nat → List Con5 → List Cd
  | _, [] => []
  | k, c :: r => conS k (c.nm, c.fs.length) :: consS (k + 1) r
theorem consS_len : ∀ (l : List Con5) (k : Nat), (consS k l).length = l.length
  | [], k => rfl
  | c :: r, k => by rw [consS, List.length_cons, List.length_cons, consS_len r]
theorem consS_app : ∀ (l m : List Con5) (k : Nat), consS k (l ++ m) = consS k l ++ consS (k + l.length) m
  | [], m, k => by simp [consS]
  | c :: r, m, k => by rw [List.cons_append, consS, consS, consS_app r m, List.length_cons, List.cons_append, show k + 1 + r.length = k + (r.length + 1) by omega]
def opsS (n : Nat) : List Cd := (List.range n).map fun (i : Nat) => opS' ((i + 1 : Nat) : Int)
theorem opsS_succ (n : Nat) : opsS (n + 1) = opsS n ++ [opS' ((n + 1 : Nat) : Int)] := by simp [opsS, List.range_succ]
noncomputable def compS (l : List Sup) (cons : List Con5) : List Cd := l.map (superS (glOf l cons)) ++ consS 0 cons ++ opsS 11
theorem codes_cln {n : Nat} (l : List Cd) : Cln n (.list (l.map codeC)) := by
  refine .list' fun e he c hc => ?_
  obtain ⟨y, _, rfl⟩ := List.mem_map.1 he
  simp only [codeC, List.mem_cons, List.not_mem_nil, or_false] at hc
  rcases hc with rfl | rfl | rfl | rfl
  · exact .str _
  · exact .int _ _
  · exact .bool _
  · refine .list' fun e he c hc => ?_
    obtain ⟨p, _, rfl⟩ := List.mem_map.1 he
    simp only [insC, List.mem_cons, List.not_mem_nil, or_false] at hc
    rcases hc with rfl | rfl | rfl | rfl
    · exact .int _ _
    · exact .int _ _
    · exact .int _ _
    · refine .list' fun e he c hc => ?_
      obtain ⟨p, _, rfl⟩ := List.mem_map.1 he
      simp only [jC, List.mem_cons, List.not_mem_nil, or_false] at hc
      rcases hc with rfl | rfl <;> exact .int _ _
/-- What is compiled, as a result. -/
def CompP (l : List Sup) (cons : List Con5) (r : AV) : Prop := r = .tuple [.nils, .int .i64 1] ∨ (FlatP l ∧ r = .tuple [.list ((compS l cons).map codeC), .int .i64 0])
@[congr] theorem CompP_congr {w : Prop} (hw : Visit = w) {l : List Sup} {cons : List Con5} {r r' : AV} (h : r = r') : CompP l cons r = CompP l cons r' := by rw [h]
end Go.AL
namespace Go.Proofs.Ytjjbjibbjbbeaaa
open Go.AL
theorem comp_ok (l : List Sup) (cons : List Con5) (hb : bulkS l ≤ 3000000) (hc : cons.length ≤ 10000000) (σ : Store) :
    ACalls Try.prog 27 [.list (l.map supC), .list (cons.map con5C)] σ fun r s => CompP l cons r ∧ s = σ := by
  refine ACalls_fp (p := CompP l cons) ?_
  have hll := lenS l
  refine in27 (by simp) ?_
  unfold c27
  refine raw ?_
  repeat (first | (with_reducible refine unr ?_; try simp only [ZZ, ↓reduceIte, Nat.reduceEqDiff, Nat.reduceAdd, Nat.reduceLeDiff, reduceCtorEq, Int.reduceEq, Int.reduceLT, Int.reduceLE, Int.reduceNeg, Int.reduceAdd, Int.reduceSub, Int.reduceToNat]) | (with_reducible first | refine W1 ?_ | refine W2 ?_ | refine W3 ?_ | refine W4 ?_ | refine W5 ?_ | refine W6 ?_ | refine W7 ?_ | refine W8 ?_ | refine W9 ?_))
  refine (open_ok l cons (by omega) (by omega) _).mono ?_
  rintro _ s1 ⟨rfl | ⟨tid, rfl, ht, hF⟩, k1⟩
  · refine raw ?_
    repeat (first | (with_reducible refine unr ?_; try simp only [ZZ, ↓reduceIte, Nat.reduceEqDiff, Nat.reduceAdd, Nat.reduceLeDiff, reduceCtorEq, Int.reduceEq, Int.reduceLT, Int.reduceLE, Int.reduceNeg, Int.reduceAdd, Int.reduceSub, Int.reduceToNat]) | (with_reducible first | refine W1 ?_ | refine W2 ?_ | refine W3 ?_ | refine W4 ?_ | refine W5 ?_ | refine W6 ?_ | refine W7 ?_ | refine W8 ?_ | refine W9 ?_))
    exact FP.same k1 (.inl rfl) (.tuple' (by simp [Cln.nils, Cln.int]))
  refine raw ?_
  repeat (first | (with_reducible refine unr ?_; try simp only [ZZ, ↓reduceIte, Nat.reduceEqDiff, Nat.reduceAdd, Nat.reduceLeDiff, reduceCtorEq, Int.reduceEq, Int.reduceLT, Int.reduceLE, Int.reduceNeg, Int.reduceAdd, Int.reduceSub, Int.reduceToNat]) | (with_reducible first | refine W1 ?_ | refine W2 ?_ | refine W3 ?_ | refine W4 ?_ | refine W5 ?_ | refine W6 ?_ | refine W7 ?_ | refine W8 ?_ | refine W9 ?_))
  generalize hgl : glOf l cons = g at ht
  have hcon : ∀ (i : Nat) (c : Con5), cons[i]? = some c → g.con[i]? = some (c.nm, c.fs.length) := by
    intro i c h
    rw [← hgl]
    simp [glOf, h]
  refine AWP_while [1, 6, 8, 22, 23, 24] (fun y : AV × Nat => l.length - y.2) (fun y => [.list (cons.map con5C), .ptr tid 0 0 0, y.1, .list (l.map supC), .int .i64 l.length, .int .i64 y.2])
    (fun y t => y.2 ≤ l.length ∧ Grow s1 t y.1 81 4 (((l.take y.2).map (superS g)).map codeC)) (.nils, 0) ⟨by simp, .start _ _ _⟩ ?_ ?_
  · refine raw ?_
    repeat (first | (with_reducible refine unr ?_; try simp only [ZZ, ↓reduceIte, Nat.reduceEqDiff, Nat.reduceAdd, Nat.reduceLeDiff, reduceCtorEq, Int.reduceEq, Int.reduceLT, Int.reduceLE, Int.reduceNeg, Int.reduceAdd, Int.reduceSub, Int.reduceToNat]) | (with_reducible first | refine W1 ?_ | refine W2 ?_ | refine W3 ?_ | refine W4 ?_ | refine W5 ?_ | refine W6 ?_ | refine W7 ?_ | refine W8 ?_ | refine W9 ?_))
    rfl
  rintro ⟨v, i⟩ t ⟨hi, hG⟩
  simp only at hi hG
  have hw := wrap_succ (i := i) (by omega)
  by_cases hil : i < l.length
  · have hil' : (i : Int) < (l.length : Int) := by omega
    obtain ⟨x, hx⟩ : ∃ x, l[i]? = some x := ⟨_, List.getElem?_eq_getElem hil⟩
    have hg : (l.map supC)[i]? = some (supC x) := by simp [hx]
    have hxm := List.mem_of_getElem? hx
    have hxb := bulkS_le hxm
    have hxl := supC_len x
    have hxt := supC_t11 x
    refine raw ?_
    repeat (first | (with_reducible refine unr ?_; try simp only [ZZ, ↓reduceIte, Nat.reduceEqDiff, Nat.reduceAdd, Nat.reduceLeDiff, reduceCtorEq, Int.reduceEq, Int.reduceLT, Int.reduceLE, Int.reduceNeg, Int.reduceAdd, Int.reduceSub, Int.reduceToNat, hil', hg, hxl, hxt]) | (with_reducible first | refine W1 ?_ | refine W2 ?_ | refine W3 ?_ | refine W4 ?_ | refine W5 ?_ | refine W6 ?_ | refine W7 ?_ | refine W8 ?_ | refine W9 ?_))
    have kp := (hG.push (.cells 71 0 11 [supC x])).kp
    refine (super_ok x (hF.1 x hxm) _ _ _ _ (ht.kp (Nat.le_refl _) kp) kp.next (by omega)).mono ?_
    rintro _ _ ⟨rfl, rfl⟩
    refine raw ?_
    repeat (first | (with_reducible refine unr ?_; try simp only [ZZ, ↓reduceIte, Nat.reduceEqDiff, Nat.reduceAdd, Nat.reduceLeDiff, reduceCtorEq, Int.reduceEq, Int.reduceLT, Int.reduceLE, Int.reduceNeg, Int.reduceAdd, Int.reduceSub, Int.reduceToNat, codeC_len, codeC_t4]) | (with_reducible first | refine W1 ?_ | refine W2 ?_ | refine W3 ?_ | refine W4 ?_ | refine W5 ?_ | refine W6 ?_ | refine W7 ?_ | refine W8 ?_ | refine W9 ?_))
    refine ok_grow (hG.push _) (es2 := [codeC (superS g x)]) (by simp [codeC_len]) (by simp; omega) (by simp [maxLen]; omega) ?_
    intro v' t3 hG3 _ _
    refine raw ?_
    repeat (first | (with_reducible refine unr ?_; try simp only [ZZ, ↓reduceIte, Nat.reduceEqDiff, Nat.reduceAdd, Nat.reduceLeDiff, reduceCtorEq, Int.reduceEq, Int.reduceLT, Int.reduceLE, Int.reduceNeg, Int.reduceAdd, Int.reduceSub, Int.reduceToNat, hw]) | (with_reducible first | refine W1 ?_ | refine W2 ?_ | refine W3 ?_ | refine W4 ?_ | refine W5 ?_ | refine W6 ?_ | refine W7 ?_ | refine W8 ?_ | refine W9 ?_))
    refine ⟨(v', i + 1), rfl, ⟨by simp only; omega, ?_⟩, by simp only; omega⟩
    simp only [take_succ_at hx, List.map_append]; exact hG3
  have hil' : ¬ (i : Int) < (l.length : Int) := by omega
  rw [List.take_of_length_le (by omega)] at hG
  refine raw ?_
  repeat (first | (with_reducible refine unr ?_; try simp only [ZZ, ↓reduceIte, Nat.reduceEqDiff, Nat.reduceAdd, Nat.reduceLeDiff, reduceCtorEq, Int.reduceEq, Int.reduceLT, Int.reduceLE, Int.reduceNeg, Int.reduceAdd, Int.reduceSub, Int.reduceToNat, hil']) | (with_reducible first | refine W1 ?_ | refine W2 ?_ | refine W3 ?_ | refine W4 ?_ | refine W5 ?_ | refine W6 ?_ | refine W7 ?_ | refine W8 ?_ | refine W9 ?_))
  clear hw hil hil' hi
  refine AWP_while [6, 8, 35, 36, 37] (fun y : AV × Nat => cons.length - y.2) (fun y => [.ptr tid 0 0 0, y.1, .list (cons.map con5C), .int .i64 cons.length, .int .i64 y.2])
    (fun y t => y.2 ≤ cons.length ∧ Grow s1 t y.1 81 4 ((l.map (superS g) ++ consS 0 (cons.take y.2)).map codeC)) (v, 0) ⟨by simp, by simpa [consS] using hG⟩ ?_ ?_
  · refine raw ?_
    repeat (first | (with_reducible refine unr ?_; try simp only [ZZ, ↓reduceIte, Nat.reduceEqDiff, Nat.reduceAdd, Nat.reduceLeDiff, reduceCtorEq, Int.reduceEq, Int.reduceLT, Int.reduceLE, Int.reduceNeg, Int.reduceAdd, Int.reduceSub, Int.reduceToNat]) | (with_reducible first | refine W1 ?_ | refine W2 ?_ | refine W3 ?_ | refine W4 ?_ | refine W5 ?_ | refine W6 ?_ | refine W7 ?_ | refine W8 ?_ | refine W9 ?_))
    rfl
  clear hG
  rintro ⟨v, i⟩ t ⟨hi, hG⟩
  simp only at hi hG
  have hw := wrap_succ (i := i) (by omega)
  by_cases hil : i < cons.length
  · have hil' : (i : Int) < (cons.length : Int) := by omega
    obtain ⟨x, hx⟩ : ∃ x, cons[i]? = some x := ⟨_, List.getElem?_eq_getElem hil⟩
    have hg : (cons.map con5C)[i]? = some (con5C x) := by simp [hx]
    have hgc := hcon i x hx
    refine raw ?_
    repeat (first | (with_reducible refine unr ?_; try simp only [ZZ, ↓reduceIte, Nat.reduceEqDiff, Nat.reduceAdd, Nat.reduceLeDiff, reduceCtorEq, Int.reduceEq, Int.reduceLT, Int.reduceLE, Int.reduceNeg, Int.reduceAdd, Int.reduceSub, Int.reduceToNat, hil', hg, con5C]) | (with_reducible first | refine W1 ?_ | refine W2 ?_ | refine W3 ?_ | refine W4 ?_ | refine W5 ?_ | refine W6 ?_ | refine W7 ?_ | refine W8 ?_ | refine W9 ?_))
    have kp := (hG.push (.cells 87 0 5 [con5C x])).kp
    refine (con_ok i _ _ _ _ g (ht.kp (Nat.le_refl _) kp) kp.next hgc).mono ?_
    rintro _ _ ⟨rfl, rfl⟩
    refine raw ?_
    repeat (first | (with_reducible refine unr ?_; try simp only [ZZ, ↓reduceIte, Nat.reduceEqDiff, Nat.reduceAdd, Nat.reduceLeDiff, reduceCtorEq, Int.reduceEq, Int.reduceLT, Int.reduceLE, Int.reduceNeg, Int.reduceAdd, Int.reduceSub, Int.reduceToNat, codeC_len, codeC_t4]) | (with_reducible first | refine W1 ?_ | refine W2 ?_ | refine W3 ?_ | refine W4 ?_ | refine W5 ?_ | refine W6 ?_ | refine W7 ?_ | refine W8 ?_ | refine W9 ?_))
    refine ok_grow (hG.push _) (es2 := [codeC (conS i (x.nm, x.fs.length))]) (by simp [codeC_len]) (by simp [consS_len]; omega) (by simp [maxLen, consS_len]; omega) ?_
    intro v' t3 hG3 _ _
    refine raw ?_
    repeat (first | (with_reducible refine unr ?_; try simp only [ZZ, ↓reduceIte, Nat.reduceEqDiff, Nat.reduceAdd, Nat.reduceLeDiff, reduceCtorEq, Int.reduceEq, Int.reduceLT, Int.reduceLE, Int.reduceNeg, Int.reduceAdd, Int.reduceSub, Int.reduceToNat, hw]) | (with_reducible first | refine W1 ?_ | refine W2 ?_ | refine W3 ?_ | refine W4 ?_ | refine W5 ?_ | refine W6 ?_ | refine W7 ?_ | refine W8 ?_ | refine W9 ?_))
    refine ⟨(v', i + 1), rfl, ⟨by simp only; omega, ?_⟩, by simp only; omega⟩
    have hli : (cons.take i).length = i := by simp; omega
    simp only [take_succ_at hx, consS_app, consS, hli, Nat.zero_add, ← List.append_assoc]
    rw [List.map_append]
    exact hG3
  have hil' : ¬ (i : Int) < (cons.length : Int) := by omega
  rw [List.take_of_length_le (by omega)] at hG
  refine raw ?_
  repeat (first | (with_reducible refine unr ?_; try simp only [ZZ, ↓reduceIte, Nat.reduceEqDiff, Nat.reduceAdd, Nat.reduceLeDiff, reduceCtorEq, Int.reduceEq, Int.reduceLT, Int.reduceLE, Int.reduceNeg, Int.reduceAdd, Int.reduceSub, Int.reduceToNat, hil']) | (with_reducible first | refine W1 ?_ | refine W2 ?_ | refine W3 ?_ | refine W4 ?_ | refine W5 ?_ | refine W6 ?_ | refine W7 ?_ | refine W8 ?_ | refine W9 ?_))
  clear hw hil hil' hi
  refine AWP_while [6, 8, 13] (fun y : AV × Nat => 11 - y.2) (fun y => [.ptr tid 0 0 0, y.1, .int .i64 ((y.2 + 1 : Nat) : Int)])
    (fun y t => y.2 ≤ 11 ∧ Grow s1 t y.1 81 4 ((l.map (superS g) ++ consS 0 cons ++ opsS y.2).map codeC)) (v, 0) ⟨by simp, by simpa [opsS] using hG⟩ ?_ ?_
  · refine raw ?_
    repeat (first | (with_reducible refine unr ?_; try simp only [ZZ, ↓reduceIte, Nat.reduceEqDiff, Nat.reduceAdd, Nat.reduceLeDiff, reduceCtorEq, Int.reduceEq, Int.reduceLT, Int.reduceLE, Int.reduceNeg, Int.reduceAdd, Int.reduceSub, Int.reduceToNat]) | (with_reducible first | refine W1 ?_ | refine W2 ?_ | refine W3 ?_ | refine W4 ?_ | refine W5 ?_ | refine W6 ?_ | refine W7 ?_ | refine W8 ?_ | refine W9 ?_))
    rfl
  clear hG
  rintro ⟨v, i⟩ t ⟨hi, hG⟩
  simp only at hi hG
  have hw := wrap_succ (i := i + 1) (by omega)
  by_cases hil : i < 11
  · have hil' : ((i + 1 : Nat) : Int) ≤ 11 := by omega
    refine raw ?_
    repeat (first | (with_reducible refine unr ?_; try simp only [ZZ, ↓reduceIte, Nat.reduceEqDiff, Nat.reduceAdd, Nat.reduceLeDiff, reduceCtorEq, Int.reduceEq, Int.reduceLT, Int.reduceLE, Int.reduceNeg, Int.reduceAdd, Int.reduceSub, Int.reduceToNat, hil']) | (with_reducible first | refine W1 ?_ | refine W2 ?_ | refine W3 ?_ | refine W4 ?_ | refine W5 ?_ | refine W6 ?_ | refine W7 ?_ | refine W8 ?_ | refine W9 ?_))
    refine (oper_ok _ _ _ _ g (ht.kp (Nat.le_refl _) hG.kp) hG.kp.next).mono ?_
    rintro _ _ ⟨rfl, rfl⟩
    refine raw ?_
    repeat (first | (with_reducible refine unr ?_; try simp only [ZZ, ↓reduceIte, Nat.reduceEqDiff, Nat.reduceAdd, Nat.reduceLeDiff, reduceCtorEq, Int.reduceEq, Int.reduceLT, Int.reduceLE, Int.reduceNeg, Int.reduceAdd, Int.reduceSub, Int.reduceToNat, codeC_len, codeC_t4]) | (with_reducible first | refine W1 ?_ | refine W2 ?_ | refine W3 ?_ | refine W4 ?_ | refine W5 ?_ | refine W6 ?_ | refine W7 ?_ | refine W8 ?_ | refine W9 ?_))
    refine ok_grow hG (es2 := [codeC (opS' ((i + 1 : Nat) : Int))]) (by simp [codeC_len]) (by simp [consS_len, opsS]; omega) (by simp [maxLen, consS_len, opsS]; omega) ?_
    intro v' t3 hG3 _ _
    refine raw ?_
    repeat (first | (with_reducible refine unr ?_; try simp only [ZZ, ↓reduceIte, Nat.reduceEqDiff, Nat.reduceAdd, Nat.reduceLeDiff, reduceCtorEq, Int.reduceEq, Int.reduceLT, Int.reduceLE, Int.reduceNeg, Int.reduceAdd, Int.reduceSub, Int.reduceToNat, hw]) | (with_reducible first | refine W1 ?_ | refine W2 ?_ | refine W3 ?_ | refine W4 ?_ | refine W5 ?_ | refine W6 ?_ | refine W7 ?_ | refine W8 ?_ | refine W9 ?_))
    refine ⟨(v', i + 1), rfl, ⟨by simp only; omega, ?_⟩, by simp only; omega⟩
    rw [opsS_succ, ← List.append_assoc, List.map_append]
    exact hG3
  have hil' : ¬ ((i + 1 : Nat) : Int) ≤ 11 := by omega
  obtain rfl : i = 11 := by omega
  refine raw ?_
  repeat (first | (with_reducible refine unr ?_; try simp only [ZZ, ↓reduceIte, Nat.reduceEqDiff, Nat.reduceAdd, Nat.reduceLeDiff, reduceCtorEq, Int.reduceEq, Int.reduceLT, Int.reduceLE, Int.reduceNeg, Int.reduceAdd, Int.reduceSub, Int.reduceToNat, hil']) | (with_reducible first | refine W1 ?_ | refine W2 ?_ | refine W3 ?_ | refine W4 ?_ | refine W5 ?_ | refine W6 ?_ | refine W7 ?_ | refine W8 ?_ | refine W9 ?_))
  have hcs : l.map (superS g) ++ consS 0 cons ++ opsS 11 = compS l cons := by rw [← hgl]; rfl
  rw [hcs] at hG
  refine FP.mk (.tuple [.list ((compS l cons).map codeC), .int .i64 0]) hG.sl (.tuple (.cons .here (.cons (.refl _) .nil))) (.inr ⟨hF, rfl⟩) (.tuple' ?_) (k1.trans hG.kp) (fun j hj => Nat.le_trans k1.next (hG.fresh j hj))
  intro c hc
  simp only [List.mem_cons, List.not_mem_nil, or_false] at hc
  rcases hc with rfl | rfl
  · exact codes_cln _
  · exact .int _ _
end Go.Proofs.Ytjjbjibbjbbeaaa
/- Two expressions of which Same says true are the same. -/
set_option linter.unusedVariables false
set_option linter.unusedSimpArgs false
namespace Go.AL
theorem alt_ext {x y : AltH × Cr} (h1 : x.1.k = y.1.k) (h2 : x.1.nm = y.1.nm) (h3 : x.1.n = y.1.n) (h4 : x.1.ps = y.1.ps) (h5 : x.2 = y.2) : x = y := by
  obtain ⟨⟨a, b, c, d⟩, e⟩ := x
  obtain ⟨⟨a', b', c', d'⟩, e'⟩ := y
  simp only at h1 h2 h3 h4 h5
  subst h1 h2 h3 h4 h5
  rfl
end Go.AL
namespace Go.Proofs.Ytjjbjibbjbbeaaa
open Go.AL
theorem sameT2_ok (a b : List ByteArray) (σ : Store) : ACalls Try.prog 29 [strs a, strs b] σ fun r σ' => (∃ c : Bool, r = .bool c ∧ (c = true → a = b)) ∧ σ' = σ :=
  (sameTexts_ok a b σ).mono fun r s h => ⟨⟨_, h.1, fun e => @of_decide_eq_true _ (Classical.propDecidable _) e⟩, h.2⟩
set_option maxHeartbeats 1000000 in
theorem same2_ok : ∀ (x y : Cr) (σ : Store), ACalls Try.prog 30 [.agg x.cells, .agg y.cells] σ fun r σ' => (∃ c : Bool, r = .bool c ∧ (c = true → x = y)) ∧ σ' = σ := by
  intro x
  induction x using Cr.ind with
  | _ k nm n ar ps gs al bs pk ih1 ih2 ih3 ih4 =>
    intro y σ
    obtain ⟨k', nm', n', ar', ps', gs', al', bs', pk'⟩ := y
    rw [Cr.cells_eq, Cr.cells_eq]
    refine ACalls_len2 (j := 0) (k := 5) rfl rfl fun hm1 => ?_
    refine ACalls_len2 (j := 0) (k := 6) rfl rfl fun hm2 => ?_
    refine ACalls_len2 (j := 0) (k := 7) rfl rfl fun hm3 => ?_
    refine ACalls_len2 (j := 0) (k := 8) rfl rfl fun hm4 => ?_
    simp only [List.length_map, maxLen] at hm1 hm2 hm3 hm4
    refine ACalls_fp (p := RB (Cr.mk k nm n ar ps gs al bs pk = Cr.mk k' nm' n' ar' ps' gs' al' bs' pk')) ?_
    refine in30 (by simp) ?_
    unfold c30
    try simp only [ZZ, ↓reduceIte, Nat.reduceEqDiff, Nat.reduceAdd, Nat.reduceLeDiff, reduceCtorEq, Int.reduceEq, Int.reduceLT, Int.reduceLE, Int.reduceNeg, Int.reduceAdd, Int.reduceSub, Int.reduceToNat]
    iterate 2 ((with_reducible first | refine W1 ?_ | refine W2 ?_ | refine W3 ?_ | refine W4 ?_ | refine W5 ?_ | refine W6 ?_ | refine W7 ?_ | refine W8 ?_ | refine W9 ?_); refine unr ?_; try simp only [ZZ, ↓reduceIte, Nat.reduceEqDiff, Nat.reduceAdd, Nat.reduceLeDiff, reduceCtorEq, Int.reduceEq, Int.reduceLT, Int.reduceLE, Int.reduceNeg, Int.reduceAdd, Int.reduceSub, Int.reduceToNat])
    generalize hs : Store.push _ _ = s1
    have k1 : Kp σ s1 := by rw [← hs]; exact (Kp.pushed _ _).push _
    have he1 : s1.get σ.next = some (.cells 54 0 9 [[.int .i64 k, .str nm, .int .i64 n, .int .i64 ar, strs ps, .list (gs.map Cr.cells), .list (al.map altC), .list (bs.map bindC), .list (pk.map pickC)]]) := by rw [← hs]; simp [Store.push_get, Store.push_next]
    have he2 : s1.get (σ.next + 1) = some (.cells 54 0 9 [[.int .i64 k', .str nm', .int .i64 n', .int .i64 ar', strs ps', .list (gs'.map Cr.cells), .list (al'.map altC), .list (bs'.map bindC), .list (pk'.map pickC)]]) := by rw [← hs]; simp [Store.push_get, Store.push_next]
    clear hs
    have g1 := he1
    have g2 := he2
    refine AWP_cut [2, 3] (fun _ : Unit => [.ptr σ.next 0 0 0, .ptr (σ.next + 1) 0 0 0]) (fun _ s => s1 = s ∧ k = k' ∧ nm = nm' ∧ n = n' ∧ ar = ar' ∧ ps = ps') ?_ ?_
    · refine raw ?_
      repeat' (first | (with_reducible refine unr ?_; try simp only [ZZ, ↓reduceIte, Nat.reduceEqDiff, Nat.reduceAdd, Nat.reduceLeDiff, reduceCtorEq, Int.reduceEq, Int.reduceLT, Int.reduceLE, Int.reduceNeg, Int.reduceAdd, Int.reduceSub, Int.reduceToNat, he1, he2, str_nil, *]) | (with_reducible first | refine W1 ?_ | refine W2 ?_ | refine W3 ?_ | refine W4 ?_ | refine W5 ?_ | refine W6 ?_ | refine W7 ?_ | refine W8 ?_ | refine W9 ?_ | refine ok_idx (by first | assumption | omega) (fun b hb => raw ?_) | refine ok_iad (by first | assumption | omega) (fun x hx hxm => raw ?_) | refine And.intro (by omega) (raw ?_) | (refine guardW_b (fun h => raw ?_) (fun h => raw ?_) <;> try simp only [Ty] at h) | (refine ePick_b (fun h => raw ?_) (fun h => raw ?_) <;> try simp only [Ty] at h) | (refine condW_b (fun h => raw ?_) (fun h => raw ?_) <;> try simp only [Ty] at h) | (refine (sameT2_ok _ _ _).mono ?_; rintro _ _ ⟨⟨b, rfl, hb⟩, rfl⟩; refine raw ?_)))
      all_goals first
        | exact FP.same k1 RB.f (.bool _)
        | exact ⟨(), by simp_all⟩
    rintro _ _ ⟨rfl, rfl, rfl, rfl, rfl, rfl⟩
    refine AWP_cut [2, 3] (fun _ : Unit => [.ptr σ.next 0 0 0, .ptr (σ.next + 1) 0 0 0]) (fun _ s => s1 = s ∧ gs.length = gs'.length ∧ al.length = al'.length ∧ bs.length = bs'.length ∧ pk.length = pk'.length) ?_ ?_
    · refine raw ?_
      repeat' (first | (with_reducible refine unr ?_; try simp only [ZZ, ↓reduceIte, Nat.reduceEqDiff, Nat.reduceAdd, Nat.reduceLeDiff, reduceCtorEq, Int.reduceEq, Int.reduceLT, Int.reduceLE, Int.reduceNeg, Int.reduceAdd, Int.reduceSub, Int.reduceToNat, he1, he2, str_nil, *]) | (with_reducible first | refine W1 ?_ | refine W2 ?_ | refine W3 ?_ | refine W4 ?_ | refine W5 ?_ | refine W6 ?_ | refine W7 ?_ | refine W8 ?_ | refine W9 ?_ | refine ok_idx (by first | assumption | omega) (fun b hb => raw ?_) | refine ok_iad (by first | assumption | omega) (fun x hx hxm => raw ?_) | refine And.intro (by omega) (raw ?_) | (refine guardW_b (fun h => raw ?_) (fun h => raw ?_) <;> try simp only [Ty] at h) | (refine ePick_b (fun h => raw ?_) (fun h => raw ?_) <;> try simp only [Ty] at h) | (refine condW_b (fun h => raw ?_) (fun h => raw ?_) <;> try simp only [Ty] at h)))
      all_goals first
        | exact FP.same k1 RB.f (.bool _)
        | exact ⟨(), by omega, by omega, by omega, by omega⟩
    rintro _ _ ⟨rfl, hl1, hl2, hl3, hl4⟩
    refine AWP_cut [2, 3] (fun _ : Unit => [.ptr σ.next 0 0 0, .ptr (σ.next + 1) 0 0 0]) (fun _ s => Kp s1 s ∧ gs = gs') ?_ ?_
    · refine raw ?_
      repeat (first | (with_reducible refine unr ?_; try simp only [ZZ, ↓reduceIte, Nat.reduceEqDiff, Nat.reduceAdd, Nat.reduceLeDiff, reduceCtorEq, Int.reduceEq, Int.reduceLT, Int.reduceLE, Int.reduceNeg, Int.reduceAdd, Int.reduceSub, Int.reduceToNat, he1, he2]) | (with_reducible first | refine W1 ?_ | refine W2 ?_ | refine W3 ?_ | refine W4 ?_ | refine W5 ?_ | refine W6 ?_ | refine W7 ?_ | refine W8 ?_ | refine W9 ?_))
      refine AWP_while [2, 3, 5] (fun i : Nat => gs.length - i) (fun i => [.ptr σ.next 0 0 0, .ptr (σ.next + 1) 0 0 0, .int .i64 i]) (fun i t => Kp s1 t ∧ i ≤ gs.length ∧ gs.take i = gs'.take i) 0 ⟨.refl _, by simp, by simp⟩ ?_ ?_
      · refine raw ?_
        repeat (first | (with_reducible refine unr ?_; try simp only [ZZ, ↓reduceIte, Nat.reduceEqDiff, Nat.reduceAdd, Nat.reduceLeDiff, reduceCtorEq, Int.reduceEq, Int.reduceLT, Int.reduceLE, Int.reduceNeg, Int.reduceAdd, Int.reduceSub, Int.reduceToNat]) | (with_reducible first | refine W1 ?_ | refine W2 ?_ | refine W3 ?_ | refine W4 ?_ | refine W5 ?_ | refine W6 ?_ | refine W7 ?_ | refine W8 ?_ | refine W9 ?_))
        rfl
      rintro i t ⟨k2, hi, hT⟩
      have he1 := k2.get g1
      have he2 := k2.get g2
      have hq1 := lt_ne (t.lt he1)
      have hq2 := lt_ne (t.lt he2)
      by_cases hil : i < gs.length
      · have hil' : (i : Int) < (gs.length : Int) := by omega
        have hil2 : (i : Int) < (gs'.length : Int) := by omega
        have hw := wrap_succ (i := i) (by omega)
        obtain ⟨x, hx⟩ : ∃ x, gs[i]? = some x := ⟨_, List.getElem?_eq_getElem hil⟩
        obtain ⟨y, hy⟩ : ∃ y, gs'[i]? = some y := ⟨_, List.getElem?_eq_getElem (by omega)⟩
        have hg : (gs.map Cr.cells)[i]? = some (Cr.cells x) := by simp [hx]
        have hg' : (gs'.map Cr.cells)[i]? = some (Cr.cells y) := by simp [hy]
        have hxm := List.mem_of_getElem? hx
        refine raw ?_
        repeat' (first | (with_reducible refine unr ?_; try simp only [ZZ, ↓reduceIte, Nat.reduceEqDiff, Nat.reduceAdd, Nat.reduceLeDiff, reduceCtorEq, Int.reduceEq, Int.reduceLT, Int.reduceLE, Int.reduceNeg, Int.reduceAdd, Int.reduceSub, Int.reduceToNat, he1, he2, hil', hil2, hg, hg', Cr.len, Cr.take9, Cr.drop9, hq1, hq2, str_nil, *]) | (with_reducible first | refine W1 ?_ | refine W2 ?_ | refine W3 ?_ | refine W4 ?_ | refine W5 ?_ | refine W6 ?_ | refine W7 ?_ | refine W8 ?_ | refine W9 ?_ | refine ok_idx (by first | assumption | omega) (fun b hb => raw ?_) | refine ok_iad (by first | assumption | omega) (fun x hx hxm => raw ?_) | refine And.intro (by omega) (raw ?_) | (refine guardW_b (fun h => raw ?_) (fun h => raw ?_) <;> try simp only [Ty] at h) | (refine ePick_b (fun h => raw ?_) (fun h => raw ?_) <;> try simp only [Ty] at h) | (refine condW_b (fun h => raw ?_) (fun h => raw ?_) <;> try simp only [Ty] at h) | (refine (ih1 x hxm _ _).mono ?_; rintro _ _ ⟨⟨b, rfl, hb⟩, rfl⟩; refine raw ?_) | (refine (sameT2_ok _ _ _).mono ?_; rintro _ _ ⟨⟨b, rfl, hb⟩, rfl⟩; refine raw ?_)))
        all_goals first
          | exact FP.same (k1.trans (k2)) RB.f (.bool _)
          | exact ⟨i + 1, rfl, ⟨k2, by omega, by rw [take_succ_at hx, take_succ_at hy, hT, show x = y from hb h]⟩, by omega⟩
          | exact ⟨i + 1, rfl, ⟨by omega, by rw [take_succ_at hx, take_succ_at hy, hT, show x = y from hb h]⟩, by omega⟩
      · have hil' : ¬ (i : Int) < (gs.length : Int) := by omega
        rw [List.take_of_length_le (by omega), List.take_of_length_le (by omega)] at hT
        refine raw ?_
        repeat (first | (with_reducible refine unr ?_; try simp only [ZZ, ↓reduceIte, Nat.reduceEqDiff, Nat.reduceAdd, Nat.reduceLeDiff, reduceCtorEq, Int.reduceEq, Int.reduceLT, Int.reduceLE, Int.reduceNeg, Int.reduceAdd, Int.reduceSub, Int.reduceToNat, he1, he2, hil']) | (with_reducible first | refine W1 ?_ | refine W2 ?_ | refine W3 ?_ | refine W4 ?_ | refine W5 ?_ | refine W6 ?_ | refine W7 ?_ | refine W8 ?_ | refine W9 ?_))
        exact ⟨(), k2, hT⟩
    rintro _ s2 ⟨k2, rfl⟩
    have he1 := k2.get g1
    have he2 := k2.get g2
    refine AWP_cut [2, 3] (fun _ : Unit => [.ptr σ.next 0 0 0, .ptr (σ.next + 1) 0 0 0]) (fun _ s => Kp s1 s ∧ al = al') ?_ ?_
    · refine raw ?_
      repeat (first | (with_reducible refine unr ?_; try simp only [ZZ, ↓reduceIte, Nat.reduceEqDiff, Nat.reduceAdd, Nat.reduceLeDiff, reduceCtorEq, Int.reduceEq, Int.reduceLT, Int.reduceLE, Int.reduceNeg, Int.reduceAdd, Int.reduceSub, Int.reduceToNat, he1, he2]) | (with_reducible first | refine W1 ?_ | refine W2 ?_ | refine W3 ?_ | refine W4 ?_ | refine W5 ?_ | refine W6 ?_ | refine W7 ?_ | refine W8 ?_ | refine W9 ?_))
      refine AWP_while [2, 3, 6] (fun i : Nat => al.length - i) (fun i => [.ptr σ.next 0 0 0, .ptr (σ.next + 1) 0 0 0, .int .i64 i]) (fun i t => Kp s1 t ∧ i ≤ al.length ∧ al.take i = al'.take i) 0 ⟨k2, by simp, by simp⟩ ?_ ?_
      · refine raw ?_
        repeat (first | (with_reducible refine unr ?_; try simp only [ZZ, ↓reduceIte, Nat.reduceEqDiff, Nat.reduceAdd, Nat.reduceLeDiff, reduceCtorEq, Int.reduceEq, Int.reduceLT, Int.reduceLE, Int.reduceNeg, Int.reduceAdd, Int.reduceSub, Int.reduceToNat]) | (with_reducible first | refine W1 ?_ | refine W2 ?_ | refine W3 ?_ | refine W4 ?_ | refine W5 ?_ | refine W6 ?_ | refine W7 ?_ | refine W8 ?_ | refine W9 ?_))
        rfl
      rintro i t ⟨k2, hi, hT⟩
      have he1 := k2.get g1
      have he2 := k2.get g2
      have hq1 := lt_ne (t.lt he1)
      have hq2 := lt_ne (t.lt he2)
      by_cases hil : i < al.length
      · have hil' : (i : Int) < (al.length : Int) := by omega
        have hil2 : (i : Int) < (al'.length : Int) := by omega
        have hw := wrap_succ (i := i) (by omega)
        obtain ⟨x, hx⟩ : ∃ x, al[i]? = some x := ⟨_, List.getElem?_eq_getElem hil⟩
        obtain ⟨y, hy⟩ : ∃ y, al'[i]? = some y := ⟨_, List.getElem?_eq_getElem (by omega)⟩
        have hg : (al.map altC)[i]? = some (altC x) := by simp [hx]
        have hg' : (al'.map altC)[i]? = some (altC y) := by simp [hy]
        have hxm := List.mem_of_getElem? hx
        refine raw ?_
        repeat' (first | (with_reducible refine unr ?_; try simp only [ZZ, ↓reduceIte, Nat.reduceEqDiff, Nat.reduceAdd, Nat.reduceLeDiff, reduceCtorEq, Int.reduceEq, Int.reduceLT, Int.reduceLE, Int.reduceNeg, Int.reduceAdd, Int.reduceSub, Int.reduceToNat, he1, he2, hil', hil2, hg, hg', altC, AltH.cells, Cr.len, Cr.take9, Cr.drop9, hq1, hq2, lt_ne2 (t.lt he1), lt_ne2 (t.lt he2), str_nil, *]) | (with_reducible first | refine W1 ?_ | refine W2 ?_ | refine W3 ?_ | refine W4 ?_ | refine W5 ?_ | refine W6 ?_ | refine W7 ?_ | refine W8 ?_ | refine W9 ?_ | refine ok_idx (by first | assumption | omega) (fun b hb => raw ?_) | refine ok_iad (by first | assumption | omega) (fun x hx hxm => raw ?_) | refine And.intro (by omega) (raw ?_) | (refine guardW_b (fun h => raw ?_) (fun h => raw ?_) <;> try simp only [Ty] at h) | (refine ePick_b (fun h => raw ?_) (fun h => raw ?_) <;> try simp only [Ty] at h) | (refine condW_b (fun h => raw ?_) (fun h => raw ?_) <;> try simp only [Ty] at h) | (refine (ih2 x hxm _ _).mono ?_; rintro _ _ ⟨⟨b, rfl, hb⟩, rfl⟩; refine raw ?_) | (refine (sameT2_ok _ _ _).mono ?_; rintro _ _ ⟨⟨b, rfl, hb⟩, rfl⟩; refine raw ?_)))
        all_goals first
          | exact FP.same (k1.trans ((k2.push _).push _)) RB.f (.bool _)
          | exact ⟨i + 1, rfl, ⟨(k2.push _).push _, by omega, by rw [take_succ_at hx, take_succ_at hy, hT, show x = y from alt_ext (by simp_all) (by simp_all) (by simp_all) (by simp_all) (by simp_all)]⟩, by omega⟩
          | exact ⟨i + 1, rfl, ⟨by omega, by rw [take_succ_at hx, take_succ_at hy, hT, show x = y from alt_ext (by simp_all) (by simp_all) (by simp_all) (by simp_all) (by simp_all)]⟩, by omega⟩
      · have hil' : ¬ (i : Int) < (al.length : Int) := by omega
        rw [List.take_of_length_le (by omega), List.take_of_length_le (by omega)] at hT
        refine raw ?_
        repeat (first | (with_reducible refine unr ?_; try simp only [ZZ, ↓reduceIte, Nat.reduceEqDiff, Nat.reduceAdd, Nat.reduceLeDiff, reduceCtorEq, Int.reduceEq, Int.reduceLT, Int.reduceLE, Int.reduceNeg, Int.reduceAdd, Int.reduceSub, Int.reduceToNat, he1, he2, hil']) | (with_reducible first | refine W1 ?_ | refine W2 ?_ | refine W3 ?_ | refine W4 ?_ | refine W5 ?_ | refine W6 ?_ | refine W7 ?_ | refine W8 ?_ | refine W9 ?_))
        exact ⟨(), k2, hT⟩
    rintro _ s2 ⟨k2, rfl⟩
    have he1 := k2.get g1
    have he2 := k2.get g2
    refine AWP_cut [2, 3] (fun _ : Unit => [.ptr σ.next 0 0 0, .ptr (σ.next + 1) 0 0 0]) (fun _ s => Kp s1 s ∧ bs = bs') ?_ ?_
    · refine raw ?_
      repeat (first | (with_reducible refine unr ?_; try simp only [ZZ, ↓reduceIte, Nat.reduceEqDiff, Nat.reduceAdd, Nat.reduceLeDiff, reduceCtorEq, Int.reduceEq, Int.reduceLT, Int.reduceLE, Int.reduceNeg, Int.reduceAdd, Int.reduceSub, Int.reduceToNat, he1, he2]) | (with_reducible first | refine W1 ?_ | refine W2 ?_ | refine W3 ?_ | refine W4 ?_ | refine W5 ?_ | refine W6 ?_ | refine W7 ?_ | refine W8 ?_ | refine W9 ?_))
      refine AWP_while [2, 3, 9] (fun i : Nat => bs.length - i) (fun i => [.ptr σ.next 0 0 0, .ptr (σ.next + 1) 0 0 0, .int .i64 i]) (fun i t => Kp s1 t ∧ i ≤ bs.length ∧ bs.take i = bs'.take i) 0 ⟨k2, by simp, by simp⟩ ?_ ?_
      · refine raw ?_
        repeat (first | (with_reducible refine unr ?_; try simp only [ZZ, ↓reduceIte, Nat.reduceEqDiff, Nat.reduceAdd, Nat.reduceLeDiff, reduceCtorEq, Int.reduceEq, Int.reduceLT, Int.reduceLE, Int.reduceNeg, Int.reduceAdd, Int.reduceSub, Int.reduceToNat]) | (with_reducible first | refine W1 ?_ | refine W2 ?_ | refine W3 ?_ | refine W4 ?_ | refine W5 ?_ | refine W6 ?_ | refine W7 ?_ | refine W8 ?_ | refine W9 ?_))
        rfl
      rintro i t ⟨k2, hi, hT⟩
      have he1 := k2.get g1
      have he2 := k2.get g2
      have hq1 := lt_ne (t.lt he1)
      have hq2 := lt_ne (t.lt he2)
      by_cases hil : i < bs.length
      · have hil' : (i : Int) < (bs.length : Int) := by omega
        have hil2 : (i : Int) < (bs'.length : Int) := by omega
        have hw := wrap_succ (i := i) (by omega)
        obtain ⟨x, hx⟩ : ∃ x, bs[i]? = some x := ⟨_, List.getElem?_eq_getElem hil⟩
        obtain ⟨y, hy⟩ : ∃ y, bs'[i]? = some y := ⟨_, List.getElem?_eq_getElem (by omega)⟩
        have hg : (bs.map bindC)[i]? = some (bindC x) := by simp [hx]
        have hg' : (bs'.map bindC)[i]? = some (bindC y) := by simp [hy]
        have hxm := List.mem_of_getElem? hx
        refine raw ?_
        repeat' (first | (with_reducible refine unr ?_; try simp only [ZZ, ↓reduceIte, Nat.reduceEqDiff, Nat.reduceAdd, Nat.reduceLeDiff, reduceCtorEq, Int.reduceEq, Int.reduceLT, Int.reduceLE, Int.reduceNeg, Int.reduceAdd, Int.reduceSub, Int.reduceToNat, he1, he2, hil', hil2, hg, hg', bindC, Cr.len, Cr.take9, Cr.drop9, hq1, hq2, str_nil, *]) | (with_reducible first | refine W1 ?_ | refine W2 ?_ | refine W3 ?_ | refine W4 ?_ | refine W5 ?_ | refine W6 ?_ | refine W7 ?_ | refine W8 ?_ | refine W9 ?_ | refine ok_idx (by first | assumption | omega) (fun b hb => raw ?_) | refine ok_iad (by first | assumption | omega) (fun x hx hxm => raw ?_) | refine And.intro (by omega) (raw ?_) | (refine guardW_b (fun h => raw ?_) (fun h => raw ?_) <;> try simp only [Ty] at h) | (refine ePick_b (fun h => raw ?_) (fun h => raw ?_) <;> try simp only [Ty] at h) | (refine condW_b (fun h => raw ?_) (fun h => raw ?_) <;> try simp only [Ty] at h) | (refine (ih3 x hxm _ _).mono ?_; rintro _ _ ⟨⟨b, rfl, hb⟩, rfl⟩; refine raw ?_) | (refine (sameT2_ok _ _ _).mono ?_; rintro _ _ ⟨⟨b, rfl, hb⟩, rfl⟩; refine raw ?_)))
        all_goals first
          | exact FP.same (k1.trans (k2)) RB.f (.bool _)
          | exact ⟨i + 1, rfl, ⟨k2, by omega, by rw [take_succ_at hx, take_succ_at hy, hT, show x = y from Prod.ext (by simp_all) (by simp_all)]⟩, by omega⟩
          | exact ⟨i + 1, rfl, ⟨by omega, by rw [take_succ_at hx, take_succ_at hy, hT, show x = y from Prod.ext (by simp_all) (by simp_all)]⟩, by omega⟩
      · have hil' : ¬ (i : Int) < (bs.length : Int) := by omega
        rw [List.take_of_length_le (by omega), List.take_of_length_le (by omega)] at hT
        refine raw ?_
        repeat (first | (with_reducible refine unr ?_; try simp only [ZZ, ↓reduceIte, Nat.reduceEqDiff, Nat.reduceAdd, Nat.reduceLeDiff, reduceCtorEq, Int.reduceEq, Int.reduceLT, Int.reduceLE, Int.reduceNeg, Int.reduceAdd, Int.reduceSub, Int.reduceToNat, he1, he2, hil']) | (with_reducible first | refine W1 ?_ | refine W2 ?_ | refine W3 ?_ | refine W4 ?_ | refine W5 ?_ | refine W6 ?_ | refine W7 ?_ | refine W8 ?_ | refine W9 ?_))
        exact ⟨(), k2, hT⟩
    rintro _ s2 ⟨k2, rfl⟩
    have he1 := k2.get g1
    have he2 := k2.get g2
    refine raw ?_
    repeat (first | (with_reducible refine unr ?_; try simp only [ZZ, ↓reduceIte, Nat.reduceEqDiff, Nat.reduceAdd, Nat.reduceLeDiff, reduceCtorEq, Int.reduceEq, Int.reduceLT, Int.reduceLE, Int.reduceNeg, Int.reduceAdd, Int.reduceSub, Int.reduceToNat, he1, he2]) | (with_reducible first | refine W1 ?_ | refine W2 ?_ | refine W3 ?_ | refine W4 ?_ | refine W5 ?_ | refine W6 ?_ | refine W7 ?_ | refine W8 ?_ | refine W9 ?_))
    refine AWP_while [2, 3, 10] (fun i : Nat => pk.length - i) (fun i => [.ptr σ.next 0 0 0, .ptr (σ.next + 1) 0 0 0, .int .i64 i]) (fun i t => Kp s1 t ∧ i ≤ pk.length ∧ pk.take i = pk'.take i) 0 ⟨k2, by simp, by simp⟩ ?_ ?_
    · refine raw ?_
      repeat (first | (with_reducible refine unr ?_; try simp only [ZZ, ↓reduceIte, Nat.reduceEqDiff, Nat.reduceAdd, Nat.reduceLeDiff, reduceCtorEq, Int.reduceEq, Int.reduceLT, Int.reduceLE, Int.reduceNeg, Int.reduceAdd, Int.reduceSub, Int.reduceToNat]) | (with_reducible first | refine W1 ?_ | refine W2 ?_ | refine W3 ?_ | refine W4 ?_ | refine W5 ?_ | refine W6 ?_ | refine W7 ?_ | refine W8 ?_ | refine W9 ?_))
      rfl
    rintro i t ⟨k2, hi, hT⟩
    have he1 := k2.get g1
    have he2 := k2.get g2
    have hq1 := lt_ne (t.lt he1)
    have hq2 := lt_ne (t.lt he2)
    by_cases hil : i < pk.length
    · have hil' : (i : Int) < (pk.length : Int) := by omega
      have hil2 : (i : Int) < (pk'.length : Int) := by omega
      have hw := wrap_succ (i := i) (by omega)
      obtain ⟨x, hx⟩ : ∃ x, pk[i]? = some x := ⟨_, List.getElem?_eq_getElem hil⟩
      obtain ⟨y, hy⟩ : ∃ y, pk'[i]? = some y := ⟨_, List.getElem?_eq_getElem (by omega)⟩
      have hg : (pk.map pickC)[i]? = some (pickC x) := by simp [hx]
      have hg' : (pk'.map pickC)[i]? = some (pickC y) := by simp [hy]
      have hxm := List.mem_of_getElem? hx
      refine raw ?_
      repeat' (first | (with_reducible refine unr ?_; try simp only [ZZ, ↓reduceIte, Nat.reduceEqDiff, Nat.reduceAdd, Nat.reduceLeDiff, reduceCtorEq, Int.reduceEq, Int.reduceLT, Int.reduceLE, Int.reduceNeg, Int.reduceAdd, Int.reduceSub, Int.reduceToNat, he1, he2, hil', hil2, hg, hg', pickC, Cr.len, Cr.take9, Cr.drop9, hq1, hq2, str_nil, *]) | (with_reducible first | refine W1 ?_ | refine W2 ?_ | refine W3 ?_ | refine W4 ?_ | refine W5 ?_ | refine W6 ?_ | refine W7 ?_ | refine W8 ?_ | refine W9 ?_ | refine ok_idx (by first | assumption | omega) (fun b hb => raw ?_) | refine ok_iad (by first | assumption | omega) (fun x hx hxm => raw ?_) | refine And.intro (by omega) (raw ?_) | (refine guardW_b (fun h => raw ?_) (fun h => raw ?_) <;> try simp only [Ty] at h) | (refine ePick_b (fun h => raw ?_) (fun h => raw ?_) <;> try simp only [Ty] at h) | (refine condW_b (fun h => raw ?_) (fun h => raw ?_) <;> try simp only [Ty] at h) | (refine (ih4 x hxm _ _).mono ?_; rintro _ _ ⟨⟨b, rfl, hb⟩, rfl⟩; refine raw ?_) | (refine (sameT2_ok _ _ _).mono ?_; rintro _ _ ⟨⟨b, rfl, hb⟩, rfl⟩; refine raw ?_)))
      all_goals first
        | exact FP.same (k1.trans (k2)) RB.f (.bool _)
        | exact ⟨i + 1, rfl, ⟨k2, by omega, by rw [take_succ_at hx, take_succ_at hy, hT, show x = y from Prod.ext (by simp_all) (by simp_all)]⟩, by omega⟩
        | exact ⟨i + 1, rfl, ⟨by omega, by rw [take_succ_at hx, take_succ_at hy, hT, show x = y from Prod.ext (by simp_all) (by simp_all)]⟩, by omega⟩
    · have hil' : ¬ (i : Int) < (pk.length : Int) := by omega
      rw [List.take_of_length_le (by omega), List.take_of_length_le (by omega)] at hT
      refine raw ?_
      repeat (first | (with_reducible refine unr ?_; try simp only [ZZ, ↓reduceIte, Nat.reduceEqDiff, Nat.reduceAdd, Nat.reduceLeDiff, reduceCtorEq, Int.reduceEq, Int.reduceLT, Int.reduceLE, Int.reduceNeg, Int.reduceAdd, Int.reduceSub, Int.reduceToNat, he1, he2, hil']) | (with_reducible first | refine W1 ?_ | refine W2 ?_ | refine W3 ?_ | refine W4 ?_ | refine W5 ?_ | refine W6 ?_ | refine W7 ?_ | refine W8 ?_ | refine W9 ?_))
      exact FP.same (k1.trans k2) (RB.t (by rw [hT])) (.bool _)
end Go.Proofs.Ytjjbjibbjbbeaaa
/- A code is the same as itself. -/
set_option linter.unusedVariables false
set_option linter.unusedSimpArgs false
namespace Go.AL
theorem insC_len (i : Ins) : (insC i).length = 4 := rfl
theorem insC_t4 (i : Ins) : List.take 4 (insC i) = insC i := rfl
theorem RelV.len {g : Ghost} {es : List (List AV)} {v : Value} (h : RelV g (.list es) v) : es.length ≤ maxLen := by
  cases h with
  | listNil => simp
  | list h1 h2 h3 h4 h5 h6 h7 => exact Nat.le_trans h6 h7
theorem RelV.cell {g : Ghost} {cs : List AV} {v : Value} {k : Nat} {c : AV} (h : RelV g (.agg cs) v) (hk : cs[k]? = some c) : ∃ w, RelV g c w := by
  cases h with
  | agg hs hc h1 => exact ⟨_, hc k c hk⟩
theorem RelV.elem {g : Ghost} {es : List (List AV)} {v : Value} {i j : Nat} {e : List AV} {c : AV} (h : RelV g (.list es) v) (hi : es[i]? = some e) (hj : e[j]? = some c) : ∃ w, RelV g c w := by
  cases h with
  | listNil => simp at hi
  | list h1 h2 h3 h4 h5 h6 h7 => exact ⟨_, h4 i j e c hi hj⟩
theorem ACalls_know {P : Program} {f : FuncId} {args : List AV} {σ : Store} {K : AV → Store → Prop} (j : Nat) {c : AV} (hj : args[j]? = some c) {p : Prop} (hp : ∀ (g : Ghost) (v : Value), RelV g c v → p) (h : p → ACalls P f args σ K) : ACalls P f args σ K := by
  intro B w0 g w vs hS hl hrel
  exact h (hp g _ (hrel j _ hj)) B w0 g w vs hS hl hrel
theorem row2_ne (a b : Int) : aBin (.row [.int, .int]) .neq (.agg [.int .i64 a, .int .i64 b]) (.agg [.int .i64 a, .int .i64 b]) = some (.bool false) := by
  simp [aBin, eqFs, eq1]
end Go.AL
namespace Go.Proofs.Ytjjbjibbjbbeaaa
open Go.AL
set_option maxHeartbeats 1000000 in
theorem sameC_ok (c : Cd) (σ : Store) : ACalls Try.prog 32 [.agg (codeC c), .agg (codeC c)] σ fun r σ' => r = .bool true ∧ σ' = σ := by
  obtain ⟨nm, ar, con, ops⟩ := c
  unfold codeC
  refine ACalls_len2 (j := 0) (k := 3) rfl rfl fun hm1 => ?_
  simp only [List.length_map, maxLen] at hm1
  refine ACalls_know 0 rfl (p := ∀ (i : Nat) x, ops[i]? = some x → x.js.length ≤ 2 ^ 63 - 1) (fun g v hr i x hx => ?_) fun hm2 => ?_
  · obtain ⟨w, hw⟩ := hr.cell (k := 3) rfl
    obtain ⟨w, hw⟩ := hw.elem (i := i) (j := 3) (e := insC x) (by simp [hx]) rfl
    simpa [maxLen] using hw.len
  refine ACalls_fp (p := fun r => r = .bool true) ?_
  refine in32 (by simp) ?_
  unfold c32
  try simp only [ZZ, ↓reduceIte, Nat.reduceEqDiff, Nat.reduceAdd, Nat.reduceLeDiff, reduceCtorEq, Int.reduceEq, Int.reduceLT, Int.reduceLE, Int.reduceNeg, Int.reduceAdd, Int.reduceSub, Int.reduceToNat]
  iterate 2 ((with_reducible first | refine W1 ?_ | refine W2 ?_ | refine W3 ?_ | refine W4 ?_ | refine W5 ?_ | refine W6 ?_ | refine W7 ?_ | refine W8 ?_ | refine W9 ?_); refine unr ?_; try simp only [ZZ, ↓reduceIte, Nat.reduceEqDiff, Nat.reduceAdd, Nat.reduceLeDiff, reduceCtorEq, Int.reduceEq, Int.reduceLT, Int.reduceLE, Int.reduceNeg, Int.reduceAdd, Int.reduceSub, Int.reduceToNat])
  generalize hs : Store.push _ _ = s1
  have k1 : Kp σ s1 := by rw [← hs]; exact (Kp.pushed _ _).push _
  have he1 : s1.get σ.next = some (.cells 81 0 4 [[.str nm, .int .i64 ar, .bool con, .list (ops.map insC)]]) := by rw [← hs]; simp [Store.push_get, Store.push_next]
  have he2 : s1.get (σ.next + 1) = some (.cells 81 0 4 [[.str nm, .int .i64 ar, .bool con, .list (ops.map insC)]]) := by rw [← hs]; simp [Store.push_get, Store.push_next]
  clear hs
  have g1 := he1
  have g2 := he2
  refine AWP_cut [2, 3] (fun _ : Unit => [.ptr σ.next 0 0 0, .ptr (σ.next + 1) 0 0 0]) (fun _ s => s1 = s) ?_ ?_
  · refine raw ?_
    repeat' (first | (with_reducible refine unr ?_; try simp only [ZZ, ↓reduceIte, Nat.reduceEqDiff, Nat.reduceAdd, Nat.reduceLeDiff, reduceCtorEq, Int.reduceEq, Int.reduceLT, Int.reduceLE, Int.reduceNeg, Int.reduceAdd, Int.reduceSub, Int.reduceToNat, he1, he2, str_nil, *]) | (with_reducible first | refine W1 ?_ | refine W2 ?_ | refine W3 ?_ | refine W4 ?_ | refine W5 ?_ | refine W6 ?_ | refine W7 ?_ | refine W8 ?_ | refine W9 ?_ | refine ok_idx (by first | assumption | omega) (fun b hb => raw ?_) | refine ok_iad (by first | assumption | omega) (fun x hx hxm => raw ?_) | refine And.intro (by omega) (raw ?_) | (refine guardW_b (fun h => raw ?_) (fun h => raw ?_) <;> try simp only [Ty] at h) | (refine ePick_b (fun h => raw ?_) (fun h => raw ?_) <;> try simp only [Ty] at h) | (refine condW_b (fun h => raw ?_) (fun h => raw ?_) <;> try simp only [Ty] at h)))
    exact ⟨(), trivial⟩
  rintro _ _ rfl
  refine raw ?_
  repeat (first | (with_reducible refine unr ?_; try simp only [ZZ, ↓reduceIte, Nat.reduceEqDiff, Nat.reduceAdd, Nat.reduceLeDiff, reduceCtorEq, Int.reduceEq, Int.reduceLT, Int.reduceLE, Int.reduceNeg, Int.reduceAdd, Int.reduceSub, Int.reduceToNat, he1, he2]) | (with_reducible first | refine W1 ?_ | refine W2 ?_ | refine W3 ?_ | refine W4 ?_ | refine W5 ?_ | refine W6 ?_ | refine W7 ?_ | refine W8 ?_ | refine W9 ?_))
  refine AWP_while [2, 3, 5] (fun i : Nat => ops.length - i) (fun i => [.ptr σ.next 0 0 0, .ptr (σ.next + 1) 0 0 0, .int .i64 i]) (fun i t => Kp s1 t ∧ i ≤ ops.length) 0 ⟨.refl _, by simp⟩ ?_ ?_
  · refine raw ?_
    repeat (first | (with_reducible refine unr ?_; try simp only [ZZ, ↓reduceIte, Nat.reduceEqDiff, Nat.reduceAdd, Nat.reduceLeDiff, reduceCtorEq, Int.reduceEq, Int.reduceLT, Int.reduceLE, Int.reduceNeg, Int.reduceAdd, Int.reduceSub, Int.reduceToNat]) | (with_reducible first | refine W1 ?_ | refine W2 ?_ | refine W3 ?_ | refine W4 ?_ | refine W5 ?_ | refine W6 ?_ | refine W7 ?_ | refine W8 ?_ | refine W9 ?_))
    rfl
  rintro i t ⟨k2, hi⟩
  have he1 := k2.get g1
  have he2 := k2.get g2
  have hq1 := lt_ne (t.lt he1)
  have hq2 := lt_ne (t.lt he2)
  by_cases hil : i < ops.length
  · have hil' : (i : Int) < (ops.length : Int) := by omega
    have hw := wrap_succ (i := i) (by omega)
    obtain ⟨x, hx⟩ : ∃ x, ops[i]? = some x := ⟨_, List.getElem?_eq_getElem hil⟩
    have hg : (ops.map insC)[i]? = some (insC x) := by simp [hx]
    have hjl := hm2 i x hx
    clear hm2
    try simp only [ZZ, ↓reduceIte, Nat.reduceEqDiff, Nat.reduceAdd, Nat.reduceLeDiff, reduceCtorEq, Int.reduceEq, Int.reduceLT, Int.reduceLE, Int.reduceNeg, Int.reduceAdd, Int.reduceSub, Int.reduceToNat, he1, he2, hil', hg, insC_len, insC_t4, hq1, hq2, lt_ne2 (t.lt he1), lt_ne2 (t.lt he2)]
    iterate 9 ((with_reducible first | refine W1 ?_ | refine W2 ?_ | refine W3 ?_ | refine W4 ?_ | refine W5 ?_ | refine W6 ?_ | refine W7 ?_ | refine W8 ?_ | refine W9 ?_); refine unr ?_; try simp only [ZZ, ↓reduceIte, Nat.reduceEqDiff, Nat.reduceAdd, Nat.reduceLeDiff, reduceCtorEq, Int.reduceEq, Int.reduceLT, Int.reduceLE, Int.reduceNeg, Int.reduceAdd, Int.reduceSub, Int.reduceToNat, he1, he2, hil', hg, insC_len, insC_t4, hq1, hq2, lt_ne2 (t.lt he1), lt_ne2 (t.lt he2)])
    generalize hs : Store.push _ _ = s3
    have k3 : Kp t s3 := by rw [← hs]; exact (Kp.pushed _ _).push _
    have f1 : s3.get t.next = some (.cells 139 0 4 [insC x]) := by rw [← hs]; simp [Store.push_get, Store.push_next]
    have f2 : s3.get (t.next + 1) = some (.cells 139 0 4 [insC x]) := by rw [← hs]; simp [Store.push_get, Store.push_next]
    clear hs
    unfold insC at f1 f2
    have d1 := f1
    have d2 := f2
    refine AWP_cut [2, 3, 5, 6, 7] (fun _ : Unit => [.ptr σ.next 0 0 0, .ptr (σ.next + 1) 0 0 0, .int .i64 i, .ptr t.next 0 0 0, .ptr (t.next + 1) 0 0 0]) (fun _ s => s3 = s) ?_ ?_
    · refine raw ?_
      repeat' (first | (with_reducible refine unr ?_; try simp only [ZZ, ↓reduceIte, Nat.reduceEqDiff, Nat.reduceAdd, Nat.reduceLeDiff, reduceCtorEq, Int.reduceEq, Int.reduceLT, Int.reduceLE, Int.reduceNeg, Int.reduceAdd, Int.reduceSub, Int.reduceToNat, f1, f2, str_nil, *]) | (with_reducible first | refine W1 ?_ | refine W2 ?_ | refine W3 ?_ | refine W4 ?_ | refine W5 ?_ | refine W6 ?_ | refine W7 ?_ | refine W8 ?_ | refine W9 ?_ | refine ok_idx (by first | assumption | omega) (fun b hb => raw ?_) | refine ok_iad (by first | assumption | omega) (fun x hx hxm => raw ?_) | refine And.intro (by omega) (raw ?_) | (refine guardW_b (fun h => raw ?_) (fun h => raw ?_) <;> try simp only [Ty] at h) | (refine ePick_b (fun h => raw ?_) (fun h => raw ?_) <;> try simp only [Ty] at h) | (refine condW_b (fun h => raw ?_) (fun h => raw ?_) <;> try simp only [Ty] at h)))
      exact ⟨(), trivial⟩
    rintro _ _ rfl
    refine raw ?_
    repeat (first | (with_reducible refine unr ?_; try simp only [ZZ, ↓reduceIte, Nat.reduceEqDiff, Nat.reduceAdd, Nat.reduceLeDiff, reduceCtorEq, Int.reduceEq, Int.reduceLT, Int.reduceLE, Int.reduceNeg, Int.reduceAdd, Int.reduceSub, Int.reduceToNat]) | (with_reducible first | refine W1 ?_ | refine W2 ?_ | refine W3 ?_ | refine W4 ?_ | refine W5 ?_ | refine W6 ?_ | refine W7 ?_ | refine W8 ?_ | refine W9 ?_))
    refine AWP_while [2, 3, 5, 6, 7, 8] (fun m : Nat => x.js.length - m) (fun m => [.ptr σ.next 0 0 0, .ptr (σ.next + 1) 0 0 0, .int .i64 i, .ptr t.next 0 0 0, .ptr (t.next + 1) 0 0 0, .int .i64 m]) (fun m u => Kp s3 u ∧ m ≤ x.js.length) 0 ⟨.refl _, by simp⟩ ?_ ?_
    · refine raw ?_
      repeat (first | (with_reducible refine unr ?_; try simp only [ZZ, ↓reduceIte, Nat.reduceEqDiff, Nat.reduceAdd, Nat.reduceLeDiff, reduceCtorEq, Int.reduceEq, Int.reduceLT, Int.reduceLE, Int.reduceNeg, Int.reduceAdd, Int.reduceSub, Int.reduceToNat]) | (with_reducible first | refine W1 ?_ | refine W2 ?_ | refine W3 ?_ | refine W4 ?_ | refine W5 ?_ | refine W6 ?_ | refine W7 ?_ | refine W8 ?_ | refine W9 ?_))
      rfl
    rintro m u ⟨k4, hmi⟩
    have f1 := k4.get d1
    have f2 := k4.get d2
    by_cases hml : m < x.js.length
    · have hml' : (m : Int) < (x.js.length : Int) := by omega
      have hw2 := wrap_succ (i := m) (by omega)
      obtain ⟨y, hy⟩ : ∃ y, x.js[m]? = some y := ⟨_, List.getElem?_eq_getElem hml⟩
      have hg2 : (x.js.map jC)[m]? = some (jC y) := by simp [hy]
      have hrow := row2_ne y.1 y.2
      refine raw ?_
      repeat' (first | (with_reducible refine unr ?_; try simp only [ZZ, ↓reduceIte, Nat.reduceEqDiff, Nat.reduceAdd, Nat.reduceLeDiff, reduceCtorEq, Int.reduceEq, Int.reduceLT, Int.reduceLE, Int.reduceNeg, Int.reduceAdd, Int.reduceSub, Int.reduceToNat, f1, f2, hml', hg2, jC, hrow, str_nil, *]) | (with_reducible first | refine W1 ?_ | refine W2 ?_ | refine W3 ?_ | refine W4 ?_ | refine W5 ?_ | refine W6 ?_ | refine W7 ?_ | refine W8 ?_ | refine W9 ?_ | refine ok_idx (by first | assumption | omega) (fun b hb => raw ?_) | refine ok_iad (by first | assumption | omega) (fun x hx hxm => raw ?_) | refine And.intro (by omega) (raw ?_) | (refine guardW_b (fun h => raw ?_) (fun h => raw ?_) <;> try simp only [Ty] at h) | (refine ePick_b (fun h => raw ?_) (fun h => raw ?_) <;> try simp only [Ty] at h) | (refine condW_b (fun h => raw ?_) (fun h => raw ?_) <;> try simp only [Ty] at h)))
      exact ⟨m + 1, rfl, by omega, by omega⟩
    · have hml' : ¬ (m : Int) < (x.js.length : Int) := by omega
      refine raw ?_
      repeat (first | (with_reducible refine unr ?_; try simp only [ZZ, ↓reduceIte, Nat.reduceEqDiff, Nat.reduceAdd, Nat.reduceLeDiff, reduceCtorEq, Int.reduceEq, Int.reduceLT, Int.reduceLE, Int.reduceNeg, Int.reduceAdd, Int.reduceSub, Int.reduceToNat, f1, f2, hml', hw]) | (with_reducible first | refine W1 ?_ | refine W2 ?_ | refine W3 ?_ | refine W4 ?_ | refine W5 ?_ | refine W6 ?_ | refine W7 ?_ | refine W8 ?_ | refine W9 ?_))
      exact ⟨i + 1, rfl, ⟨k2.trans (k3.trans k4), by omega⟩, by omega⟩
  · have hil' : ¬ (i : Int) < (ops.length : Int) := by omega
    refine raw ?_
    repeat (first | (with_reducible refine unr ?_; try simp only [ZZ, ↓reduceIte, Nat.reduceEqDiff, Nat.reduceAdd, Nat.reduceLeDiff, reduceCtorEq, Int.reduceEq, Int.reduceLT, Int.reduceLE, Int.reduceNeg, Int.reduceAdd, Int.reduceSub, Int.reduceToNat, he1, he2, hil']) | (with_reducible first | refine W1 ?_ | refine W2 ?_ | refine W3 ?_ | refine W4 ?_ | refine W5 ?_ | refine W6 ?_ | refine W7 ?_ | refine W8 ?_ | refine W9 ?_))
    exact FP.same (k1.trans k2) rfl (.bool _)
end Go.Proofs.Ytjjbjibbjbbeaaa
/- The resolved code of some functions. -/
set_option linter.unusedVariables false
namespace Go.Proofs.Ytjjbjibbjbbeaaa.Own
open Go.AL
/-- changeling/changelinglaw17.truths -/
def c31 : ACode :=
(.seq
 (.reg [⟨(some 0), .move (.c .nils), none⟩])
 (.seq
 (.reg [⟨(some 1), .build [(.str ⟨#[]⟩), (.str ⟨#[]⟩), (.int .i64 0), (.int .i64 0), .nils] [(0, 1, (.c (.str ⟨#[70, 97, 108, 115, 101]⟩))), (1, 1, (.c (.str ⟨#[66, 111, 111, 108]⟩)))], none⟩,
 ⟨(some 2), .build [(.str ⟨#[]⟩), (.str ⟨#[]⟩), (.int .i64 0), (.int .i64 0), .nils] [(0, 1, (.c (.str ⟨#[84, 114, 117, 101]⟩))), (1, 1, (.c (.str ⟨#[66, 111, 111, 108]⟩))), (2, 1, (.c (.int .i64 1)))], none⟩,
 ⟨(some 3), .lit true 87 5 [(.t 1), (.t 2)], none⟩,
 ⟨(some 0), .move (.t 3), none⟩])
 .ret))
theorem in31 {args : List AV} {σ : Store} {K : AV → Store → Prop} (hargs : args.length ≤ 4 := by simp) (h : AWP Try.prog Try.f31.ntmps c31 (fun e t s => match e with | .exit _ => False | _ => Res [.slot 0] K t s) (env (argList 0 args)) σ) : ACalls Try.prog 31 args σ K :=
  enter (own := [3]) Try.func31 (by kernel_rfl) (by kernel_rfl) (by kernel_rfl) hargs h
end Go.Proofs.Ytjjbjibbjbbeaaa.Own
/- The resolved code of some functions, as it is run on values. -/
set_option linter.unusedVariables false
namespace Go.Proofs.Ytjjbjibbjbbeaaa
open Go.AL
/-- changeling/changelinglaw17.known -/
def v26 : ACode :=
(.seq
 (.reg [⟨(some 0), .move (.c (.bool false)), none⟩])
 (.seq
 (.reg [⟨(some 5), .lit true 9 1 [(.c (.str ⟨#[35, 48]⟩)), (.c (.str ⟨#[35, 49]⟩))], none⟩,
 ⟨(some 6), .build [(.int .i64 0), (.str ⟨#[]⟩), (.int .i64 0), (.int .i64 0), .nils, .nils, .nils, .nils, .nils] [(0, 1, (.c (.int .i64 1))), (1, 1, (.c (.str ⟨#[35, 48]⟩)))], none⟩,
 ⟨(some 7), .build [(.str ⟨#[]⟩), .nils, (.int .i64 0), (.str ⟨#[]⟩), (.int .i64 0), (.int .i64 0), .nils, .nils, .nils, .nils, .nils] [(0, 1, (.c (.str ⟨#[107]⟩))), (1, 1, (.t 5)), (2, 9, (.t 6))], none⟩,
 ⟨(some 8), .lit true 71 11 [(.t 7)], none⟩,
 ⟨(some 9), .call 31 [], none⟩,
 ⟨(some 10), .call 27 [(.t 8), (.t 9)], none⟩,
 ⟨(some 4), .move (.t 10), none⟩,
 ⟨(some 11), .extract (.t 4) 0, none⟩,
 ⟨(some 12), .extract (.t 4) 1, none⟩,
 ⟨(some 1), .move (.t 11), none⟩,
 ⟨(some 2), .move (.t 12), none⟩])
 (.seq
 (.seq
 (.reg [⟨(some 13), .move (.t 2), none⟩,
 ⟨(some 14), .bin .int .neq (.t 13) (.c (.int .i64 0)), none⟩,
 ⟨(some 15), .move (.t 14), none⟩,
 ⟨(some 16), .move (.t 1), some (15, false)⟩,
 ⟨(some 17), .len .slice (.t 16), some (15, false)⟩,
 ⟨(some 18), .bin .int .neq (.t 17) (.c (.int .i64 14)), some (15, false)⟩,
 ⟨(some 19), .pick (.t 15) (.c (.bool true)) (.t 18), none⟩])
 (.cond (.t 19)
 (.seq
 (.reg [⟨(some 0), .move (.c (.bool false)), none⟩])
 .ret)
 .skip))
 (.seq
 (.reg [⟨(some 20), .build [(.int .i64 0), (.int .i64 0), (.int .i64 0), .nils] [(0, 1, (.c (.int .i64 1)))], none⟩,
 ⟨(some 21), .build [(.int .i64 0), (.int .i64 0), (.int .i64 0), .nils] [(0, 1, (.c (.int .i64 5))), (1, 1, (.c (.int .i64 2)))], none⟩,
 ⟨(some 22), .build [(.int .i64 0), (.int .i64 0), (.int .i64 0), .nils] [(0, 1, (.c (.int .i64 6))), (1, 1, (.c (.int .i64 2)))], none⟩,
 ⟨(some 23), .build [(.int .i64 0), (.int .i64 0), (.int .i64 0), .nils] [(0, 1, (.c (.int .i64 10)))], none⟩,
 ⟨(some 24), .lit true 139 4 [(.t 20), (.t 21), (.t 22), (.t 23)], none⟩,
 ⟨(some 25), .build [(.str ⟨#[]⟩), (.int .i64 0), (.bool false), .nils] [(0, 1, (.c (.str ⟨#[107]⟩))), (1, 1, (.c (.int .i64 2))), (3, 1, (.t 24))], none⟩,
 ⟨(some 3), .new 81 (.c (.agg [(.str ⟨#[]⟩), (.int .i64 0), (.bool false), .nils])), none⟩,
 ⟨none, .store 4 (.t 3) (.t 25), none⟩])
 (.seq
 (.reg [⟨(some 26), .move (.t 1), none⟩,
 ⟨(some 27), .iaddr 4 (.t 26) (.c (.int .i64 0)), none⟩,
 ⟨(some 28), .load (some 4) (.t 27), none⟩,
 ⟨(some 29), .load (some 4) (.t 3), none⟩,
 ⟨(some 30), .call 32 [(.t 28), (.t 29)], none⟩,
 ⟨(some 31), .move (.t 30), none⟩,
 ⟨(some 32), .move (.t 1), some (31, true)⟩,
 ⟨(some 33), .iaddr 4 (.t 32) (.c (.int .i64 1)), some (31, true)⟩,
 ⟨(some 34), .faddr 0 (.t 33), some (31, true)⟩,
 ⟨(some 35), .load none (.t 34), some (31, true)⟩,
 ⟨(some 36), .bin .str .eql (.t 35) (.c (.str ⟨#[70, 97, 108, 115, 101]⟩)), some (31, true)⟩,
 ⟨(some 37), .pick (.t 31) (.t 36) (.c (.bool false)), none⟩,
 ⟨(some 38), .move (.t 37), none⟩,
 ⟨(some 39), .move (.t 1), some (38, true)⟩,
 ⟨(some 40), .iaddr 4 (.t 39) (.c (.int .i64 1)), some (38, true)⟩,
 ⟨(some 41), .faddr 2 (.t 40), some (38, true)⟩,
 ⟨(some 42), .load none (.t 41), some (38, true)⟩,
 ⟨(some 43), .pick (.t 38) (.t 42) (.c (.bool false)), none⟩,
 ⟨(some 44), .move (.t 43), none⟩,
 ⟨(some 45), .move (.t 1), some (44, true)⟩,
 ⟨(some 46), .iaddr 4 (.t 45) (.c (.int .i64 13)), some (44, true)⟩,
 ⟨(some 47), .faddr 0 (.t 46), some (44, true)⟩,
 ⟨(some 48), .load none (.t 47), some (44, true)⟩,
 ⟨(some 49), .bin .str .eql (.t 48) (.c (.str ⟨#[62, 61]⟩)), some (44, true)⟩,
 ⟨(some 50), .pick (.t 44) (.t 49) (.c (.bool false)), none⟩,
 ⟨(some 0), .move (.t 50), none⟩])
 .ret)))))
theorem ent26 : EntOK Try.prog 26 ⟨51, v26, [.slot 0]⟩ := fun args σ K ha h =>
  enter (own := List.range 51) Try.func26 (by kernel_rfl) (by kernel_rfl) (by kernel_rfl) ha h
theorem ent27 : EntOK Try.prog 27 ⟨62, c27, [.slot 4, .slot 5]⟩ := fun args σ K ha h =>
  in27 ha h
theorem ent31 : EntOK Try.prog 31 ⟨4, c31, [.slot 0]⟩ := fun args σ K ha h =>
  in31 ha h
theorem ent32 : EntOK Try.prog 32 ⟨100, c32, [.slot 4]⟩ := fun args σ K ha h =>
  in32 ha h
theorem ent56 : EntOK Try.prog 56 ⟨34, c56, [.slot 4, .slot 5]⟩ := fun args σ K ha h =>
  in56 ha h
theorem ent57 : EntOK Try.prog 57 ⟨31, c57, [.cell 4 (some 4)]⟩ := fun args σ K ha h =>
  in57 ha h
theorem ent58 : EntOK Try.prog 58 ⟨44, c58, [.cell 6 (some 4)]⟩ := fun args σ K ha h =>
  in58 ha h
theorem ent59 : EntOK Try.prog 59 ⟨29, c59, [.cell 4 (some 4)]⟩ := fun args σ K ha h =>
  in59 ha h
theorem ent62 : EntOK Try.prog 62 ⟨72, c62, [.slot 2]⟩ := fun args σ K ha h =>
  in62 ha h
theorem ent64 : EntOK Try.prog 64 ⟨91, c64, [.slot 4]⟩ := fun args σ K ha h =>
  in64 ha h
theorem ent66 : EntOK Try.prog 66 ⟨133, c66, []⟩ := fun args σ K ha h =>
  in66 ha h
theorem ent67 : EntOK Try.prog 67 ⟨25, c67, [.slot 6]⟩ := fun args σ K ha h =>
  in67 ha h
theorem ent83 : EntOK Try.prog 83 ⟨15, c83, [.slot 2]⟩ := fun args σ K ha h =>
  in83 ha h
theorem ent85 : EntOK Try.prog 85 ⟨9, c85, [.slot 4]⟩ := fun args σ K ha h =>
  in85 ha h
theorem ent86 : EntOK Try.prog 86 ⟨266, c86, [.slot 6]⟩ := fun args σ K ha h =>
  in86 ha h
theorem ent105 : EntOK Try.prog 105 ⟨82, c105, [.slot 4, .slot 5]⟩ := fun args σ K ha h =>
  in105 ha h
theorem ent106 : EntOK Try.prog 106 ⟨102, c106, []⟩ := fun args σ K ha h =>
  in106 ha h
theorem ent107 : EntOK Try.prog 107 ⟨34, c107, [.slot 8]⟩ := fun args σ K ha h =>
  in107 ha h
theorem ent108 : EntOK Try.prog 108 ⟨12, c108, []⟩ := fun args σ K ha h =>
  in108 ha h
theorem ent109 : EntOK Try.prog 109 ⟨18, c109, []⟩ := fun args σ K ha h =>
  in109 ha h
theorem ent110 : EntOK Try.prog 110 ⟨26, c110, [.slot 2]⟩ := fun args σ K ha h =>
  in110 ha h
theorem ent111 : EntOK Try.prog 111 ⟨23, c111, [.slot 2]⟩ := fun args σ K ha h =>
  in111 ha h
theorem ent112 : EntOK Try.prog 112 ⟨92, c112, [.slot 4]⟩ := fun args σ K ha h =>
  in112 ha h
theorem ent113 : EntOK Try.prog 113 ⟨30, c113, [.slot 6]⟩ := fun args σ K ha h =>
  in113 ha h
theorem ent114 : EntOK Try.prog 114 ⟨25, c114, [.slot 4]⟩ := fun args σ K ha h =>
  in114 ha h
theorem ent115 : EntOK Try.prog 115 ⟨25, c115, [.slot 4]⟩ := fun args σ K ha h =>
  in115 ha h
theorem ent116 : EntOK Try.prog 116 ⟨25, c116, [.slot 4]⟩ := fun args σ K ha h =>
  in116 ha h
theorem ent117 : EntOK Try.prog 117 ⟨59, c117, [.slot 8]⟩ := fun args σ K ha h =>
  in117 ha h
theorem ent136 : EntOK Try.prog 136 ⟨19, c136, [.slot 2]⟩ := fun args σ K ha h =>
  in136 ha h
theorem ent141 : EntOK Try.prog 141 ⟨79, c141, [.slot 2, .slot 3]⟩ := fun args σ K ha h =>
  in141 ha h
theorem ent142 : EntOK Try.prog 142 ⟨19, c142, [.slot 4]⟩ := fun args σ K ha h =>
  in142 ha h
theorem ent143 : EntOK Try.prog 143 ⟨12, c143, [.slot 4]⟩ := fun args σ K ha h =>
  in143 ha h
theorem ent144 : EntOK Try.prog 144 ⟨128, c144, [.slot 6]⟩ := fun args σ K ha h =>
  in144 ha h
theorem ent145 : EntOK Try.prog 145 ⟨34, c145, [.slot 6]⟩ := fun args σ K ha h =>
  in145 ha h
theorem ent152 : EntOK Try.prog 152 ⟨147, c152, []⟩ := fun args σ K ha h =>
  in152 ha h
theorem ent153 : EntOK Try.prog 153 ⟨88, c153, []⟩ := fun args σ K ha h =>
  in153 ha h
theorem ent154 : EntOK Try.prog 154 ⟨20, c154, [.slot 2]⟩ := fun args σ K ha h =>
  in154 ha h
theorem ent160 : EntOK Try.prog 160 ⟨9, c160, [.slot 4]⟩ := fun args σ K ha h =>
  in160 ha h
theorem ent167 : EntOK Try.prog 167 ⟨14, c167, [.slot 6]⟩ := fun args σ K ha h =>
  in167 ha h
theorem ent168 : EntOK Try.prog 168 ⟨25, c168, []⟩ := fun args σ K ha h =>
  in168 ha h
theorem ent169 : EntOK Try.prog 169 ⟨8, c169, [.slot 4]⟩ := fun args σ K ha h =>
  in169 ha h
theorem ent172 : EntOK Try.prog 172 ⟨19, c172, [.slot 4]⟩ := fun args σ K ha h =>
  in172 ha h
theorem ent173 : EntOK Try.prog 173 ⟨18, c173, [.slot 4]⟩ := fun args σ K ha h =>
  in173 ha h
noncomputable def tabL : List (Nat × FEnt) := [(26, ⟨51, v26, [.slot 0]⟩),
  (27, ⟨62, c27, [.slot 4, .slot 5]⟩),
  (31, ⟨4, c31, [.slot 0]⟩),
  (32, ⟨100, c32, [.slot 4]⟩),
  (56, ⟨34, c56, [.slot 4, .slot 5]⟩),
  (57, ⟨31, c57, [.cell 4 (some 4)]⟩),
  (58, ⟨44, c58, [.cell 6 (some 4)]⟩),
  (59, ⟨29, c59, [.cell 4 (some 4)]⟩),
  (62, ⟨72, c62, [.slot 2]⟩),
  (64, ⟨91, c64, [.slot 4]⟩),
  (66, ⟨133, c66, []⟩),
  (67, ⟨25, c67, [.slot 6]⟩),
  (83, ⟨15, c83, [.slot 2]⟩),
  (85, ⟨9, c85, [.slot 4]⟩),
  (86, ⟨266, c86, [.slot 6]⟩),
  (105, ⟨82, c105, [.slot 4, .slot 5]⟩),
  (106, ⟨102, c106, []⟩),
  (107, ⟨34, c107, [.slot 8]⟩),
  (108, ⟨12, c108, []⟩),
  (109, ⟨18, c109, []⟩),
  (110, ⟨26, c110, [.slot 2]⟩),
  (111, ⟨23, c111, [.slot 2]⟩),
  (112, ⟨92, c112, [.slot 4]⟩),
  (113, ⟨30, c113, [.slot 6]⟩),
  (114, ⟨25, c114, [.slot 4]⟩),
  (115, ⟨25, c115, [.slot 4]⟩),
  (116, ⟨25, c116, [.slot 4]⟩),
  (117, ⟨59, c117, [.slot 8]⟩),
  (136, ⟨19, c136, [.slot 2]⟩),
  (141, ⟨79, c141, [.slot 2, .slot 3]⟩),
  (142, ⟨19, c142, [.slot 4]⟩),
  (143, ⟨12, c143, [.slot 4]⟩),
  (144, ⟨128, c144, [.slot 6]⟩),
  (145, ⟨34, c145, [.slot 6]⟩),
  (152, ⟨147, c152, []⟩),
  (153, ⟨88, c153, []⟩),
  (154, ⟨20, c154, [.slot 2]⟩),
  (160, ⟨9, c160, [.slot 4]⟩),
  (167, ⟨14, c167, [.slot 6]⟩),
  (168, ⟨25, c168, []⟩),
  (169, ⟨8, c169, [.slot 4]⟩),
  (172, ⟨19, c172, [.slot 4]⟩),
  (173, ⟨18, c173, [.slot 4]⟩)]
theorem tab_ok : (tabOf tabL).OK Try.prog := tabOf_ok (by
  unfold tabL
  refine .cons ent26 ?_
  refine .cons ent27 ?_
  refine .cons ent31 ?_
  refine .cons ent32 ?_
  refine .cons ent56 ?_
  refine .cons ent57 ?_
  refine .cons ent58 ?_
  refine .cons ent59 ?_
  refine .cons ent62 ?_
  refine .cons ent64 ?_
  refine .cons ent66 ?_
  refine .cons ent67 ?_
  refine .cons ent83 ?_
  refine .cons ent85 ?_
  refine .cons ent86 ?_
  refine .cons ent105 ?_
  refine .cons ent106 ?_
  refine .cons ent107 ?_
  refine .cons ent108 ?_
  refine .cons ent109 ?_
  refine .cons ent110 ?_
  refine .cons ent111 ?_
  refine .cons ent112 ?_
  refine .cons ent113 ?_
  refine .cons ent114 ?_
  refine .cons ent115 ?_
  refine .cons ent116 ?_
  refine .cons ent117 ?_
  refine .cons ent136 ?_
  refine .cons ent141 ?_
  refine .cons ent142 ?_
  refine .cons ent143 ?_
  refine .cons ent144 ?_
  refine .cons ent145 ?_
  refine .cons ent152 ?_
  refine .cons ent153 ?_
  refine .cons ent154 ?_
  refine .cons ent160 ?_
  refine .cons ent167 ?_
  refine .cons ent168 ?_
  refine .cons ent169 ?_
  refine .cons ent172 ?_
  refine .cons ent173 ?_
  exact .nil)
end Go.Proofs.Ytjjbjibbjbbeaaa
/- The law CodeAlone. -/
set_option linter.unusedVariables false
set_option linter.unusedSimpArgs false
namespace Go.Proofs.Ytjjbjibbjbbeaaa
open Go.AL
set_option maxRecDepth 1000000 in
theorem code_run : saysF true (callF (tabOf tabL) (runF (tabOf tabL) 300) 26 [] 0 .nil) = true := by kernel_rfl
theorem code_known (σ : Store) : ACalls Try.prog 26 [] σ fun r σ' => r = .bool true ∧ σ' = σ := ACalls_shut (ACalls_says tab_ok code_run) σ
theorem size7 (x : Cr) (h : x.Sm) (σ : Store) : ACalls Try.prog 17 [.agg x.cells] σ fun r σ' => (∃ n : Int, r = .int .i64 n ∧ True) ∧ σ' = σ := (size_ok x h σ).mono fun r s ⟨⟨n, hn⟩, hs⟩ => ⟨⟨n, hn, trivial⟩, hs⟩
theorem small_ok (l : List Sup) (hb : bulkS l ≤ 1048576) (σ : Store) : ACalls Try.prog 25 [.list (l.map supC)] σ fun r σ' => (∃ b : Bool, r = .bool b ∧ True) ∧ σ' = σ := by
  refine in25 (by simp) ?_
  unfold c25
  have hdl := lenS l
  refine raw ?_
  repeat (first | (with_reducible refine unr ?_; try simp only [ZZ, ↓reduceIte, Nat.reduceEqDiff, Nat.reduceAdd, Nat.reduceLeDiff, reduceCtorEq, Int.reduceEq, Int.reduceLT, Int.reduceLE, Int.reduceNeg, Int.reduceAdd, Int.reduceSub, Int.reduceToNat]) | (with_reducible first | refine W1 ?_ | refine W2 ?_ | refine W3 ?_ | refine W4 ?_ | refine W5 ?_ | refine W6 ?_ | refine W7 ?_ | refine W8 ?_ | refine W9 ?_))
  refine AWP_while [0, 3, 4] (fun y : Int × Nat => l.length - y.2) (fun y => [.list (l.map supC), .int .i64 y.1, .int .i64 y.2])
    (fun y t => σ = t ∧ y.2 ≤ l.length) (0, 0) ⟨rfl, by simp⟩ ?_ ?_
  · refine raw ?_
    repeat (first | (with_reducible refine unr ?_; try simp only [ZZ, ↓reduceIte, Nat.reduceEqDiff, Nat.reduceAdd, Nat.reduceLeDiff, reduceCtorEq, Int.reduceEq, Int.reduceLT, Int.reduceLE, Int.reduceNeg, Int.reduceAdd, Int.reduceSub, Int.reduceToNat]) | (with_reducible first | refine W1 ?_ | refine W2 ?_ | refine W3 ?_ | refine W4 ?_ | refine W5 ?_ | refine W6 ?_ | refine W7 ?_ | refine W8 ?_ | refine W9 ?_))
    rfl
  rintro ⟨a, i⟩ _ ⟨rfl, hi⟩
  simp only at hi
  have hw := wrap_succ (i := i) (by omega)
  by_cases hil : i < l.length
  · have hil' : (i : Int) < (l.length : Int) := by omega
    obtain ⟨x, hx⟩ : ∃ x, l[i]? = some x := ⟨_, List.getElem?_eq_getElem hil⟩
    have hg : (l.map supC)[i]? = some (supC x) := by simp [hx]
    have hxb := bulkS_le (List.mem_of_getElem? hx)
    have hsm := x.bd.sm_of_bulk (by omega)
    refine raw ?_
    repeat' (first | (with_reducible refine unr ?_; try simp only [ZZ, ↓reduceIte, Nat.reduceEqDiff, Nat.reduceAdd, Nat.reduceLeDiff, reduceCtorEq, Int.reduceEq, Int.reduceLT, Int.reduceLE, Int.reduceNeg, Int.reduceAdd, Int.reduceSub, Int.reduceToNat, hil', hg, supC, Cr.len, Cr.take9, Cr.drop9, str_nil, *]) | (with_reducible first | refine W1 ?_ | refine W2 ?_ | refine W3 ?_ | refine W4 ?_ | refine W5 ?_ | refine W6 ?_ | refine W7 ?_ | refine W8 ?_ | refine W9 ?_ | refine ok_idx (by first | assumption | omega) (fun b hb => raw ?_) | refine ok_iad (by first | assumption | omega) (fun x hx hxm => raw ?_) | refine And.intro (by omega) (raw ?_) | (refine guardW_b (fun h => raw ?_) (fun h => raw ?_) <;> try simp only [Ty] at h) | (refine ePick_b (fun h => raw ?_) (fun h => raw ?_) <;> try simp only [Ty] at h) | (refine condW_b (fun h => raw ?_) (fun h => raw ?_) <;> try simp only [Ty] at h) | (refine (size7 x.bd hsm _).mono ?_; rintro _ _ ⟨⟨b, rfl, hb⟩, rfl⟩; refine raw ?_)))
    all_goals first
      | exact ⟨_, rfl⟩
      | exact ⟨(_, i + 1), rfl, by simp only; omega, by simp only; omega⟩
  · have hil' : ¬ (i : Int) < (l.length : Int) := by omega
    refine raw ?_
    repeat (first | (with_reducible refine unr ?_; try simp only [ZZ, ↓reduceIte, Nat.reduceEqDiff, Nat.reduceAdd, Nat.reduceLeDiff, reduceCtorEq, Int.reduceEq, Int.reduceLT, Int.reduceLE, Int.reduceNeg, Int.reduceAdd, Int.reduceSub, Int.reduceToNat, hil']) | (with_reducible first | refine W1 ?_ | refine W2 ?_ | refine W3 ?_ | refine W4 ?_ | refine W5 ?_ | refine W6 ?_ | refine W7 ?_ | refine W8 ?_ | refine W9 ?_))
    exact ⟨_, rfl⟩
/-- The constructors of the law. -/
def consF : Con5 := ⟨⟨#[70, 97, 108, 115, 101]⟩, ⟨#[66, 111, 111, 108]⟩, 0, 0, []⟩
def consT : Con5 := ⟨⟨#[84, 114, 117, 101]⟩, ⟨#[66, 111, 111, 108]⟩, 1, 0, []⟩
def consN : Con5 := ⟨⟨#[78]⟩, ⟨#[]⟩, 0, 0, []⟩
def consC : Con5 := ⟨⟨#[67]⟩, ⟨#[]⟩, 1, 0, [[.int .i64 0, .int .i64 0, .str ⟨#[]⟩, .nils], [.int .i64 0, .int .i64 0, .str ⟨#[]⟩, .nils]]⟩
def rawCon (c : Con5) : List AV := [.str c.nm, .str c.data, .int .i64 c.tag, .int .i64 c.par, if c.fs = [] then .nils else .list c.fs]
theorem leD_con (c : Con5) : LeDL (rawCon c) (con5C c) := by
  unfold rawCon con5C
  refine .cons (.refl _) (.cons (.refl _) (.cons (.refl _) (.cons (.refl _) (.cons ?_ .nil))))
  split
  · rename_i h; rw [h]; exact .nil
  · exact .refl _
theorem truths_ok (σ : Store) : ACalls Try.prog 31 [] σ fun r s => Grow σ s r 87 5 [rawCon consF, rawCon consT] := by
  refine Own.in31 (by simp) ?_
  unfold Own.c31
  refine raw ?_
  repeat (first | (with_reducible refine unr ?_; try simp only [ZZ, ↓reduceIte, Nat.reduceEqDiff, Nat.reduceAdd, Nat.reduceLeDiff, reduceCtorEq, Int.reduceEq, Int.reduceLT, Int.reduceLE, Int.reduceNeg, Int.reduceAdd, Int.reduceSub, Int.reduceToNat]) | (with_reducible first | refine W1 ?_ | refine W2 ?_ | refine W3 ?_ | refine W4 ?_ | refine W5 ?_ | refine W6 ?_ | refine W7 ?_ | refine W8 ?_ | refine W9 ?_))
  exact ⟨.pushed _ _, .inr ⟨σ.next, 0, [], rfl, by simp [Store.push_get, rawCon, consF, consT]⟩, by simp [slIds]⟩
theorem consS_at (g : Gl) (l : List Sup) (cons : List Con5) (n : Nat) (x : Sup) (hx : l[n]? = some x) : (compS l cons)[n]? = some (superS (glOf l cons) x) := by
  obtain ⟨hn, rfl⟩ := List.getElem?_eq_some_iff.1 hx
  rw [compS, List.append_assoc, List.getElem?_append_left (by simpa using hn)]
  simp [hx]
theorem compS_len (l : List Sup) (cons : List Con5) : l.length ≤ (compS l cons).length := by
  rw [compS, List.append_assoc, List.length_append, List.length_map]; omega
theorem comp7 (l : List Sup) (cons : List Con5) (hb : bulkS l ≤ 3000000) (hc : cons.length ≤ 10000000) (σ : Store) :
    ACalls Try.prog 27 [.list (l.map supC), .list (cons.map con5C)] σ fun r s => (∃ b : Bool, r = .tuple [.list (if b then (compS l cons).map codeC else []), .int .i64 (if b then 0 else 1)] ∧ True) ∧ s = σ := by
  refine ACalls_leD ((comp_ok l cons hb hc σ).mono fun r s h => ?_)
  rcases h with ⟨rfl | ⟨_, rfl⟩, rfl⟩
  · exact ⟨.tuple [.list [], .int .i64 1], .tuple (.cons .nil (.cons (.refl _) .nil)), ⟨false, rfl, trivial⟩, rfl⟩
  · exact ⟨.tuple [.list ((compS l cons).map codeC), .int .i64 0], .refl _, ⟨true, rfl, trivial⟩, rfl⟩
def cons4 : List Con5 := [consF, consT, consN, consC]
theorem leD_cons4 : LeDE ([rawCon consF, rawCon consT] ++ [rawCon consN, rawCon consC]) (cons4.map con5C) :=
  .cons (leD_con _) (.cons (leD_con _) (.cons (leD_con _) (.cons (leD_con _) .nil)))
set_option maxHeartbeats 1000000 in
theorem law7 (l m : List Sup) (k : Int) (hb : bulkS l + bulkS m ≤ 1048576) (σ : Store) :
    ACalls Try.prog 7 [.list (l.map supC), .list (m.map supC), .int .i64 k] σ fun r σ' => r = .bool true ∧ σ' = σ := by
  have hdl := lenS l
  have hdm := lenS m
  have sl := small_ok l (by omega)
  have sm := small_ok m (by omega)
  refine ACalls_fp (p := fun r => r = .bool true) ?_
  refine in7 (by simp) ?_
  unfold c7
  rcases (show k < 0 ∨ (l.length : Int) ≤ k ∨ ∃ n : Nat, k = n ∧ n < l.length from (by
    by_cases h1 : k < 0
    · exact .inl h1
    by_cases h2 : (l.length : Int) ≤ k
    · exact .inr (.inl h2)
    · exact .inr (.inr ⟨k.toNat, by omega, by omega⟩))) with hk | hk | ⟨n, rfl, hn⟩
  · refine raw ?_
    repeat' (first | (with_reducible refine unr ?_; try simp only [ZZ, ↓reduceIte, Nat.reduceEqDiff, Nat.reduceAdd, Nat.reduceLeDiff, reduceCtorEq, Int.reduceEq, Int.reduceLT, Int.reduceLE, Int.reduceNeg, Int.reduceAdd, Int.reduceSub, Int.reduceToNat, hk, str_nil, *]) | (with_reducible first | refine W1 ?_ | refine W2 ?_ | refine W3 ?_ | refine W4 ?_ | refine W5 ?_ | refine W6 ?_ | refine W7 ?_ | refine W8 ?_ | refine W9 ?_ | refine ok_idx (by first | assumption | omega) (fun b hb => raw ?_) | refine ok_iad (by first | assumption | omega) (fun x hx hxm => raw ?_) | refine And.intro (by omega) (raw ?_) | (refine guardW_b (fun h => raw ?_) (fun h => raw ?_) <;> try simp only [Ty] at h) | (refine ePick_b (fun h => raw ?_) (fun h => raw ?_) <;> try simp only [Ty] at h) | (refine condW_b (fun h => raw ?_) (fun h => raw ?_) <;> try simp only [Ty] at h) | (refine (sl _).mono ?_; rintro _ _ ⟨⟨b, rfl, hb⟩, rfl⟩; refine raw ?_) | (refine (sm _).mono ?_; rintro _ _ ⟨⟨b, rfl, hb⟩, rfl⟩; refine raw ?_) | (refine (code_known _).mono ?_; rintro _ _ ⟨rfl, rfl⟩; refine raw ?_)))
    all_goals exact FP.same (.refl _) rfl (.bool _)
  · have hk' : ¬ k < 0 := by omega
    by_cases hlm : (l.length : Int) = (m.length : Int)
    · have hk2 : (m.length : Int) ≤ k := by omega
      refine raw ?_
      repeat' (first | (with_reducible refine unr ?_; try simp only [ZZ, ↓reduceIte, Nat.reduceEqDiff, Nat.reduceAdd, Nat.reduceLeDiff, reduceCtorEq, Int.reduceEq, Int.reduceLT, Int.reduceLE, Int.reduceNeg, Int.reduceAdd, Int.reduceSub, Int.reduceToNat, hk', hk2, str_nil, *]) | (with_reducible first | refine W1 ?_ | refine W2 ?_ | refine W3 ?_ | refine W4 ?_ | refine W5 ?_ | refine W6 ?_ | refine W7 ?_ | refine W8 ?_ | refine W9 ?_ | refine ok_idx (by first | assumption | omega) (fun b hb => raw ?_) | refine ok_iad (by first | assumption | omega) (fun x hx hxm => raw ?_) | refine And.intro (by omega) (raw ?_) | (refine guardW_b (fun h => raw ?_) (fun h => raw ?_) <;> try simp only [Ty] at h) | (refine ePick_b (fun h => raw ?_) (fun h => raw ?_) <;> try simp only [Ty] at h) | (refine condW_b (fun h => raw ?_) (fun h => raw ?_) <;> try simp only [Ty] at h) | (refine (sl _).mono ?_; rintro _ _ ⟨⟨b, rfl, hb⟩, rfl⟩; refine raw ?_) | (refine (sm _).mono ?_; rintro _ _ ⟨⟨b, rfl, hb⟩, rfl⟩; refine raw ?_) | (refine (code_known _).mono ?_; rintro _ _ ⟨rfl, rfl⟩; refine raw ?_)))
      all_goals exact FP.same (.refl _) rfl (.bool _)
    · refine raw ?_
      repeat' (first | (with_reducible refine unr ?_; try simp only [ZZ, ↓reduceIte, Nat.reduceEqDiff, Nat.reduceAdd, Nat.reduceLeDiff, reduceCtorEq, Int.reduceEq, Int.reduceLT, Int.reduceLE, Int.reduceNeg, Int.reduceAdd, Int.reduceSub, Int.reduceToNat, hk', str_nil, *]) | (with_reducible first | refine W1 ?_ | refine W2 ?_ | refine W3 ?_ | refine W4 ?_ | refine W5 ?_ | refine W6 ?_ | refine W7 ?_ | refine W8 ?_ | refine W9 ?_ | refine ok_idx (by first | assumption | omega) (fun b hb => raw ?_) | refine ok_iad (by first | assumption | omega) (fun x hx hxm => raw ?_) | refine And.intro (by omega) (raw ?_) | (refine guardW_b (fun h => raw ?_) (fun h => raw ?_) <;> try simp only [Ty] at h) | (refine ePick_b (fun h => raw ?_) (fun h => raw ?_) <;> try simp only [Ty] at h) | (refine condW_b (fun h => raw ?_) (fun h => raw ?_) <;> try simp only [Ty] at h) | (refine (sl _).mono ?_; rintro _ _ ⟨⟨b, rfl, hb⟩, rfl⟩; refine raw ?_) | (refine (sm _).mono ?_; rintro _ _ ⟨⟨b, rfl, hb⟩, rfl⟩; refine raw ?_) | (refine (code_known _).mono ?_; rintro _ _ ⟨rfl, rfl⟩; refine raw ?_)))
      all_goals exact FP.same (.refl _) rfl (.bool _)
  obtain ⟨x, hx⟩ : ∃ x, l[n]? = some x := ⟨_, List.getElem?_eq_getElem hn⟩
  have hgx : (l.map supC)[n]? = some (supC x) := by simp [hx]
  have hn0 : ¬ (n : Int) < 0 := by omega
  have hn1 : ¬ (l.length : Int) ≤ n := by omega
  try simp only [ZZ, ↓reduceIte, Nat.reduceEqDiff, Nat.reduceAdd, Nat.reduceLeDiff, reduceCtorEq, Int.reduceEq, Int.reduceLT, Int.reduceLE, Int.reduceNeg, Int.reduceAdd, Int.reduceSub, Int.reduceToNat]
  iterate 2 ((with_reducible first | refine W1 ?_ | refine W2 ?_ | refine W3 ?_ | refine W4 ?_ | refine W5 ?_ | refine W6 ?_ | refine W7 ?_ | refine W8 ?_ | refine W9 ?_); refine unr ?_; try simp only [ZZ, ↓reduceIte, Nat.reduceEqDiff, Nat.reduceAdd, Nat.reduceLeDiff, reduceCtorEq, Int.reduceEq, Int.reduceLT, Int.reduceLE, Int.reduceNeg, Int.reduceAdd, Int.reduceSub, Int.reduceToNat])
  refine AWP_cut [0, 1, 2] (fun _ : Unit => [.list (l.map supC), .list (m.map supC), .int .i64 n]) (fun _ s => σ = s ∧ l.length = m.length) ?_ ?_
  · by_cases hlm : (l.length : Int) = (m.length : Int)
    · have hn2 : ¬ (m.length : Int) ≤ n := by omega
      refine raw ?_
      repeat' (first | (with_reducible refine unr ?_; try simp only [ZZ, ↓reduceIte, Nat.reduceEqDiff, Nat.reduceAdd, Nat.reduceLeDiff, reduceCtorEq, Int.reduceEq, Int.reduceLT, Int.reduceLE, Int.reduceNeg, Int.reduceAdd, Int.reduceSub, Int.reduceToNat, hn0, hn2, str_nil, *]) | (with_reducible first | refine W1 ?_ | refine W2 ?_ | refine W3 ?_ | refine W4 ?_ | refine W5 ?_ | refine W6 ?_ | refine W7 ?_ | refine W8 ?_ | refine W9 ?_ | refine ok_idx (by first | assumption | omega) (fun b hb => raw ?_) | refine ok_iad (by first | assumption | omega) (fun x hx hxm => raw ?_) | refine And.intro (by omega) (raw ?_) | (refine guardW_b (fun h => raw ?_) (fun h => raw ?_) <;> try simp only [Ty] at h) | (refine ePick_b (fun h => raw ?_) (fun h => raw ?_) <;> try simp only [Ty] at h) | (refine condW_b (fun h => raw ?_) (fun h => raw ?_) <;> try simp only [Ty] at h) | (refine (sl _).mono ?_; rintro _ _ ⟨⟨b, rfl, hb⟩, rfl⟩; refine raw ?_) | (refine (sm _).mono ?_; rintro _ _ ⟨⟨b, rfl, hb⟩, rfl⟩; refine raw ?_) | (refine (code_known _).mono ?_; rintro _ _ ⟨rfl, rfl⟩; refine raw ?_)))
      all_goals first
        | exact FP.same (.refl _) rfl (.bool _)
        | exact ⟨(), by omega⟩
    · refine raw ?_
      repeat' (first | (with_reducible refine unr ?_; try simp only [ZZ, ↓reduceIte, Nat.reduceEqDiff, Nat.reduceAdd, Nat.reduceLeDiff, reduceCtorEq, Int.reduceEq, Int.reduceLT, Int.reduceLE, Int.reduceNeg, Int.reduceAdd, Int.reduceSub, Int.reduceToNat, hn0, str_nil, *]) | (with_reducible first | refine W1 ?_ | refine W2 ?_ | refine W3 ?_ | refine W4 ?_ | refine W5 ?_ | refine W6 ?_ | refine W7 ?_ | refine W8 ?_ | refine W9 ?_ | refine ok_idx (by first | assumption | omega) (fun b hb => raw ?_) | refine ok_iad (by first | assumption | omega) (fun x hx hxm => raw ?_) | refine And.intro (by omega) (raw ?_) | (refine guardW_b (fun h => raw ?_) (fun h => raw ?_) <;> try simp only [Ty] at h) | (refine ePick_b (fun h => raw ?_) (fun h => raw ?_) <;> try simp only [Ty] at h) | (refine condW_b (fun h => raw ?_) (fun h => raw ?_) <;> try simp only [Ty] at h) | (refine (sl _).mono ?_; rintro _ _ ⟨⟨b, rfl, hb⟩, rfl⟩; refine raw ?_) | (refine (sm _).mono ?_; rintro _ _ ⟨⟨b, rfl, hb⟩, rfl⟩; refine raw ?_) | (refine (code_known _).mono ?_; rintro _ _ ⟨rfl, rfl⟩; refine raw ?_)))
      all_goals exact FP.same (.refl _) rfl (.bool _)
  rintro _ _ ⟨rfl, hlm⟩
  obtain ⟨y, hy⟩ : ∃ y, m[n]? = some y := ⟨_, List.getElem?_eq_getElem (by omega)⟩
  have hgy : (m.map supC)[n]? = some (supC y) := by simp [hy]
  refine AWP_cut [0, 1, 2] (fun _ : Unit => [.list (l.map supC), .list (m.map supC), .int .i64 n]) (fun _ s => σ = s ∧ l.map (·.nm) = m.map (·.nm)) ?_ ?_
  · refine raw ?_
    repeat (first | (with_reducible refine unr ?_; try simp only [ZZ, ↓reduceIte, Nat.reduceEqDiff, Nat.reduceAdd, Nat.reduceLeDiff, reduceCtorEq, Int.reduceEq, Int.reduceLT, Int.reduceLE, Int.reduceNeg, Int.reduceAdd, Int.reduceSub, Int.reduceToNat]) | (with_reducible first | refine W1 ?_ | refine W2 ?_ | refine W3 ?_ | refine W4 ?_ | refine W5 ?_ | refine W6 ?_ | refine W7 ?_ | refine W8 ?_ | refine W9 ?_))
    refine AWP_while [0, 1, 2, 7] (fun i : Nat => l.length - i) (fun i => [.list (l.map supC), .list (m.map supC), .int .i64 n, .int .i64 i])
      (fun i t => σ = t ∧ i ≤ l.length ∧ (l.take i).map (·.nm) = (m.take i).map (·.nm)) 0 ⟨rfl, by simp, by simp⟩ ?_ ?_
    · refine raw ?_
      repeat (first | (with_reducible refine unr ?_; try simp only [ZZ, ↓reduceIte, Nat.reduceEqDiff, Nat.reduceAdd, Nat.reduceLeDiff, reduceCtorEq, Int.reduceEq, Int.reduceLT, Int.reduceLE, Int.reduceNeg, Int.reduceAdd, Int.reduceSub, Int.reduceToNat]) | (with_reducible first | refine W1 ?_ | refine W2 ?_ | refine W3 ?_ | refine W4 ?_ | refine W5 ?_ | refine W6 ?_ | refine W7 ?_ | refine W8 ?_ | refine W9 ?_))
      rfl
    rintro i _ ⟨rfl, hi, hT⟩
    have hw := wrap_succ (i := i) (by omega)
    by_cases hil : i < l.length
    · have hil' : (i : Int) < (l.length : Int) := by omega
      have hil2 : (i : Int) < (m.length : Int) := by omega
      obtain ⟨u, hu⟩ : ∃ u, l[i]? = some u := ⟨_, List.getElem?_eq_getElem hil⟩
      obtain ⟨v, hv⟩ : ∃ v, m[i]? = some v := ⟨_, List.getElem?_eq_getElem (by omega)⟩
      have hg1 : (l.map supC)[i]? = some (supC u) := by simp [hu]
      have hg2 : (m.map supC)[i]? = some (supC v) := by simp [hv]
      refine raw ?_
      repeat' (first | (with_reducible refine unr ?_; try simp only [ZZ, ↓reduceIte, Nat.reduceEqDiff, Nat.reduceAdd, Nat.reduceLeDiff, reduceCtorEq, Int.reduceEq, Int.reduceLT, Int.reduceLE, Int.reduceNeg, Int.reduceAdd, Int.reduceSub, Int.reduceToNat, hil', hil2, hg1, hg2, supC, Cr.len, Cr.take9, Cr.drop9, str_nil, *]) | (with_reducible first | refine W1 ?_ | refine W2 ?_ | refine W3 ?_ | refine W4 ?_ | refine W5 ?_ | refine W6 ?_ | refine W7 ?_ | refine W8 ?_ | refine W9 ?_ | refine ok_idx (by first | assumption | omega) (fun b hb => raw ?_) | refine ok_iad (by first | assumption | omega) (fun x hx hxm => raw ?_) | refine And.intro (by omega) (raw ?_) | (refine guardW_b (fun h => raw ?_) (fun h => raw ?_) <;> try simp only [Ty] at h) | (refine ePick_b (fun h => raw ?_) (fun h => raw ?_) <;> try simp only [Ty] at h) | (refine condW_b (fun h => raw ?_) (fun h => raw ?_) <;> try simp only [Ty] at h) | (refine (code_known _).mono ?_; rintro _ _ ⟨rfl, rfl⟩; refine raw ?_)))
      all_goals first
        | exact FP.same (.refl _) rfl (.bool _)
        | exact ⟨i + 1, rfl, ⟨by omega, by rw [take_succ_at hu, take_succ_at hv, List.map_append, List.map_append, hT]; simp_all⟩, by omega⟩
    · have hil' : ¬ (i : Int) < (l.length : Int) := by omega
      rw [List.take_of_length_le (by omega), List.take_of_length_le (by omega)] at hT
      refine raw ?_
      repeat (first | (with_reducible refine unr ?_; try simp only [ZZ, ↓reduceIte, Nat.reduceEqDiff, Nat.reduceAdd, Nat.reduceLeDiff, reduceCtorEq, Int.reduceEq, Int.reduceLT, Int.reduceLE, Int.reduceNeg, Int.reduceAdd, Int.reduceSub, Int.reduceToNat, hil']) | (with_reducible first | refine W1 ?_ | refine W2 ?_ | refine W3 ?_ | refine W4 ?_ | refine W5 ?_ | refine W6 ?_ | refine W7 ?_ | refine W8 ?_ | refine W9 ?_))
      exact ⟨(), hT⟩
  rintro _ _ ⟨rfl, hN⟩
  refine AWP_cut [0, 1, 2] (fun _ : Unit => [.list (l.map supC), .list (m.map supC), .int .i64 n]) (fun _ s => σ = s ∧ x.ps = y.ps ∧ x.bd = y.bd) ?_ ?_
  · refine raw ?_
    repeat' (first | (with_reducible refine unr ?_; try simp only [ZZ, ↓reduceIte, Nat.reduceEqDiff, Nat.reduceAdd, Nat.reduceLeDiff, reduceCtorEq, Int.reduceEq, Int.reduceLT, Int.reduceLE, Int.reduceNeg, Int.reduceAdd, Int.reduceSub, Int.reduceToNat, hgx, hgy, supC, Cr.len, Cr.take9, Cr.drop9, str_nil, *]) | (with_reducible first | refine W1 ?_ | refine W2 ?_ | refine W3 ?_ | refine W4 ?_ | refine W5 ?_ | refine W6 ?_ | refine W7 ?_ | refine W8 ?_ | refine W9 ?_ | refine ok_idx (by first | assumption | omega) (fun b hb => raw ?_) | refine ok_iad (by first | assumption | omega) (fun x hx hxm => raw ?_) | refine And.intro (by omega) (raw ?_) | (refine guardW_b (fun h => raw ?_) (fun h => raw ?_) <;> try simp only [Ty] at h) | (refine ePick_b (fun h => raw ?_) (fun h => raw ?_) <;> try simp only [Ty] at h) | (refine condW_b (fun h => raw ?_) (fun h => raw ?_) <;> try simp only [Ty] at h) | (refine (sameT2_ok _ _ _).mono ?_; rintro _ _ ⟨⟨b, rfl, hb⟩, rfl⟩; refine raw ?_) | (refine (same2_ok _ _ _).mono ?_; rintro _ _ ⟨⟨b, rfl, hb⟩, rfl⟩; refine raw ?_) | (refine (code_known _).mono ?_; rintro _ _ ⟨rfl, rfl⟩; refine raw ?_)))
    all_goals first
      | exact FP.same (.refl _) rfl (.bool _)
      | exact ⟨(), by simp_all⟩
  rintro _ _ ⟨rfl, hps, hbd⟩
  refine raw ?_
  repeat (first | (with_reducible refine unr ?_; try simp only [ZZ, ↓reduceIte, Nat.reduceEqDiff, Nat.reduceAdd, Nat.reduceLeDiff, reduceCtorEq, Int.reduceEq, Int.reduceLT, Int.reduceLE, Int.reduceNeg, Int.reduceAdd, Int.reduceSub, Int.reduceToNat]) | (with_reducible first | refine W1 ?_ | refine W2 ?_ | refine W3 ?_ | refine W4 ?_ | refine W5 ?_ | refine W6 ?_ | refine W7 ?_ | refine W8 ?_ | refine W9 ?_))
  refine (truths_ok _).mono ?_
  rintro v s hG
  refine raw ?_
  repeat (first | (with_reducible refine unr ?_; try simp only [ZZ, ↓reduceIte, Nat.reduceEqDiff, Nat.reduceAdd, Nat.reduceLeDiff, reduceCtorEq, Int.reduceEq, Int.reduceLT, Int.reduceLE, Int.reduceNeg, Int.reduceAdd, Int.reduceSub, Int.reduceToNat]) | (with_reducible first | refine W1 ?_ | refine W2 ?_ | refine W3 ?_ | refine W4 ?_ | refine W5 ?_ | refine W6 ?_ | refine W7 ?_ | refine W8 ?_ | refine W9 ?_))
  refine ok_grow hG (es2 := [rawCon consN, rawCon consC]) (by simp [rawCon]) (by simp) (by simp [maxLen]) ?_
  intro v' s3 hG3 _ _
  try simp only [ZZ, ↓reduceIte, Nat.reduceEqDiff, Nat.reduceAdd, Nat.reduceLeDiff, reduceCtorEq, Int.reduceEq, Int.reduceLT, Int.reduceLE, Int.reduceNeg, Int.reduceAdd, Int.reduceSub, Int.reduceToNat]
  iterate 0 ((with_reducible first | refine W1 ?_ | refine W2 ?_ | refine W3 ?_ | refine W4 ?_ | refine W5 ?_ | refine W6 ?_ | refine W7 ?_ | refine W8 ?_ | refine W9 ?_); refine unr ?_; try simp only [ZZ, ↓reduceIte, Nat.reduceEqDiff, Nat.reduceAdd, Nat.reduceLeDiff, reduceCtorEq, Int.reduceEq, Int.reduceLT, Int.reduceLE, Int.reduceNeg, Int.reduceAdd, Int.reduceSub, Int.reduceToNat])
  refine AWP_grown 8 rfl hG3 fun s4 k4 n4 => ?_
  clear hG3 hG
  have hgl : glOf m cons4 = glOf l cons4 := by rw [glOf, glOf, hN]
  have hc1 := fun (ll : List Sup) (hb : bulkS ll ≤ 3000000) (σ : Store) => ACalls_argsD (args := [.list (ll.map supC), .list ([rawCon consF, rawCon consT] ++ [rawCon consN, rawCon consC])]) (.cons (.refl _) (.cons (.list leD_cons4) .nil)) (comp7 ll cons4 hb (by simp [cons4]) σ)
  generalize [rawCon consF, rawCon consT] ++ [rawCon consN, rawCon consC] = rws at hc1 ⊢
  refine raw ?_
  repeat (first | (with_reducible refine unr ?_; try simp only [ZZ, ↓reduceIte, Nat.reduceEqDiff, Nat.reduceAdd, Nat.reduceLeDiff, reduceCtorEq, Int.reduceEq, Int.reduceLT, Int.reduceLE, Int.reduceNeg, Int.reduceAdd, Int.reduceSub, Int.reduceToNat]) | (with_reducible first | refine W1 ?_ | refine W2 ?_ | refine W3 ?_ | refine W4 ?_ | refine W5 ?_ | refine W6 ?_ | refine W7 ?_ | refine W8 ?_ | refine W9 ?_))
  refine (hc1 l (by omega) _).mono ?_
  rintro _ _ ⟨⟨b1, rfl, -⟩, rfl⟩
  rename_i s4
  refine raw ?_
  repeat (first | (with_reducible refine unr ?_; try simp only [ZZ, ↓reduceIte, Nat.reduceEqDiff, Nat.reduceAdd, Nat.reduceLeDiff, reduceCtorEq, Int.reduceEq, Int.reduceLT, Int.reduceLE, Int.reduceNeg, Int.reduceAdd, Int.reduceSub, Int.reduceToNat]) | (with_reducible first | refine W1 ?_ | refine W2 ?_ | refine W3 ?_ | refine W4 ?_ | refine W5 ?_ | refine W6 ?_ | refine W7 ?_ | refine W8 ?_ | refine W9 ?_))
  refine (hc1 m (by omega) _).mono ?_
  rintro _ _ ⟨⟨b2, rfl, -⟩, rfl⟩
  rename_i s4
  have ea := consS_at (glOf l cons4) l cons4 n x hx
  have eb := consS_at (glOf m cons4) m cons4 n y hy
  rw [hgl] at eb
  have exy : superS (glOf l cons4) y = superS (glOf l cons4) x := by
    obtain ⟨y1, y2, y3⟩ := y
    obtain ⟨x1, x2, x3⟩ := x
    simp only at hps hbd
    subst hps hbd
    have e1 : (l.map (·.nm))[n]? = some x1 := by simp [hx]
    have e2 : (m.map (·.nm))[n]? = some y1 := by simp [hy]
    rw [hN, e2] at e1
    cases e1
    rfl
  rw [exy] at eb
  have la := compS_len l cons4
  have lb := compS_len m cons4
  generalize superS (glOf l cons4) x = z at ea eb
  generalize compS l cons4 = A at ea la ⊢
  generalize compS m cons4 = B at eb lb ⊢
  cases b1 with
  | false =>
    refine raw ?_
    repeat' (first | (with_reducible refine unr ?_; try simp only [ZZ, ↓reduceIte, Nat.reduceEqDiff, Nat.reduceAdd, Nat.reduceLeDiff, reduceCtorEq, Int.reduceEq, Int.reduceLT, Int.reduceLE, Int.reduceNeg, Int.reduceAdd, Int.reduceSub, Int.reduceToNat, str_nil, *]) | (with_reducible first | refine W1 ?_ | refine W2 ?_ | refine W3 ?_ | refine W4 ?_ | refine W5 ?_ | refine W6 ?_ | refine W7 ?_ | refine W8 ?_ | refine W9 ?_ | refine ok_idx (by first | assumption | omega) (fun b hb => raw ?_) | refine ok_iad (by first | assumption | omega) (fun x hx hxm => raw ?_) | refine And.intro (by omega) (raw ?_) | (refine guardW_b (fun h => raw ?_) (fun h => raw ?_) <;> try simp only [Ty] at h) | (refine ePick_b (fun h => raw ?_) (fun h => raw ?_) <;> try simp only [Ty] at h) | (refine condW_b (fun h => raw ?_) (fun h => raw ?_) <;> try simp only [Ty] at h) | (refine (code_known _).mono ?_; rintro _ _ ⟨rfl, rfl⟩; refine raw ?_)))
    all_goals exact FP.same k4 rfl (.bool _)
  | true =>
  cases b2 with
  | false =>
    refine raw ?_
    repeat' (first | (with_reducible refine unr ?_; try simp only [ZZ, ↓reduceIte, Nat.reduceEqDiff, Nat.reduceAdd, Nat.reduceLeDiff, reduceCtorEq, Int.reduceEq, Int.reduceLT, Int.reduceLE, Int.reduceNeg, Int.reduceAdd, Int.reduceSub, Int.reduceToNat, str_nil, *]) | (with_reducible first | refine W1 ?_ | refine W2 ?_ | refine W3 ?_ | refine W4 ?_ | refine W5 ?_ | refine W6 ?_ | refine W7 ?_ | refine W8 ?_ | refine W9 ?_ | refine ok_idx (by first | assumption | omega) (fun b hb => raw ?_) | refine ok_iad (by first | assumption | omega) (fun x hx hxm => raw ?_) | refine And.intro (by omega) (raw ?_) | (refine guardW_b (fun h => raw ?_) (fun h => raw ?_) <;> try simp only [Ty] at h) | (refine ePick_b (fun h => raw ?_) (fun h => raw ?_) <;> try simp only [Ty] at h) | (refine condW_b (fun h => raw ?_) (fun h => raw ?_) <;> try simp only [Ty] at h) | (refine (code_known _).mono ?_; rintro _ _ ⟨rfl, rfl⟩; refine raw ?_)))
    all_goals exact FP.same k4 rfl (.bool _)
  | true =>
    have n1 : (n : Int) < (A.length : Int) := by omega
    have n2 : (n : Int) < (B.length : Int) := by omega
    have fa : (A.map codeC)[n]? = some (codeC z) := by simp [ea]
    have fb : (B.map codeC)[n]? = some (codeC z) := by simp [eb]
    refine raw ?_
    repeat' (first | (with_reducible refine unr ?_; try simp only [ZZ, ↓reduceIte, Nat.reduceEqDiff, Nat.reduceAdd, Nat.reduceLeDiff, reduceCtorEq, Int.reduceEq, Int.reduceLT, Int.reduceLE, Int.reduceNeg, Int.reduceAdd, Int.reduceSub, Int.reduceToNat, n1, n2, fa, fb, codeC_len, codeC_t4, str_nil, *]) | (with_reducible first | refine W1 ?_ | refine W2 ?_ | refine W3 ?_ | refine W4 ?_ | refine W5 ?_ | refine W6 ?_ | refine W7 ?_ | refine W8 ?_ | refine W9 ?_ | refine ok_idx (by first | assumption | omega) (fun b hb => raw ?_) | refine ok_iad (by first | assumption | omega) (fun x hx hxm => raw ?_) | refine And.intro (by omega) (raw ?_) | (refine guardW_b (fun h => raw ?_) (fun h => raw ?_) <;> try simp only [Ty] at h) | (refine ePick_b (fun h => raw ?_) (fun h => raw ?_) <;> try simp only [Ty] at h) | (refine condW_b (fun h => raw ?_) (fun h => raw ?_) <;> try simp only [Ty] at h) | (refine (code_known _).mono ?_; rintro _ _ ⟨rfl, rfl⟩; refine raw ?_) | (refine (sameC_ok _ _).mono ?_; rintro _ _ ⟨rfl, rfl⟩; refine raw ?_)))
    all_goals exact FP.same k4 rfl (.bool _)
end Go.Proofs.Ytjjbjibbjbbeaaa
/- Core expressions and definitions as arguments, with their bulk. -/
set_option linter.unusedVariables false
namespace Go.Proofs.Ytjjbjibbjbbeaaa
open Go.AL
section
variable {H : Type}
theorem one_le (d : DataW H) : 1 ≤ Rows.uptoBulk d := by
  cases d with
  | lit l => cases l <;> simp [Rows.uptoBulk]
  | nil => simp [Rows.uptoBulk]
  | ptr d => simp [Rows.uptoBulk]
  | slice elems spare => simp [Rows.uptoBulk]
  | agg parts => simp [Rows.uptoBulk]
  | iface t d => simp [Rows.uptoBulk]
  | map entries => simp [Rows.uptoBulk]
  | held h => simp [Rows.uptoBulk]
variable {P : Program} {t : TypeId} {cs : List AV} {d : DataW H}
theorem avdB_str (hu : P.underlying t = some .string) (h : AVD P t cs d) : ∃ s, cs = [.str s] ∧ s.size + 1 ≤ Rows.uptoBulk d := by
  cases h with
  | int h hw => rw [hu] at h; cases h
  | bool h => rw [hu] at h; cases h
  | str h hs => exact ⟨_, rfl, by simp [Rows.uptoBulk]⟩
  | nilp h => rw [hu] at h; cases h
  | ptr h _ => rw [hu] at h; cases h
  | nils h => rw [hu] at h; cases h
  | list h _ _ _ => rw [hu] at h; cases h
  | struct h _ _ _ => rw [hu] at h; cases h
  | other h => simp [okType, hu] at h
theorem avdB_slice {e : TypeId} (hu : P.underlying t = some (.slice e)) (hc : 0 < P.cellsOf e) (h : AVD P t cs d) :
    ∃ (es : List (List AV)) (ds : List (DataW H)), cs = [.list es] ∧ es.length = ds.length ∧ Rows.uptoBulkAll ds + 1 ≤ Rows.uptoBulk d ∧ (∀ x, x ∈ ds → SizeOf.sizeOf x < SizeOf.sizeOf d) ∧ ∀ (i : Nat) (c : List AV) (x : DataW H), es[i]? = some c → ds[i]? = some x → AVD P e c x := by
  cases h with
  | int h hw => rw [hu] at h; cases h
  | bool h => rw [hu] at h; cases h
  | str h _ => rw [hu] at h; cases h
  | nilp h => rw [hu] at h; cases h
  | ptr h _ => rw [hu] at h; cases h
  | nils h => exact ⟨[], [], rfl, rfl, by simp [Rows.uptoBulk, Rows.uptoBulkAll], by simp, by simp⟩
  | list h h1 h2 h3 =>
    rw [hu] at h; cases h
    rename_i ds rest
    refine ⟨_, ds, rfl, h1, by simp only [Rows.uptoBulk]; omega, fun x hx => ?_, h3⟩
    have := List.sizeOf_lt_of_mem hx
    simp only [DataW.slice.sizeOf_spec]; omega
  | struct h _ _ _ => rw [hu] at h; cases h
  | other h => simp [okType, hu, hc] at h
theorem avdB_struct {fs : Array Field} (hu : P.underlying t = some (.struct fs)) (h : AVD P t cs d) :
    cs.length = P.cellsOf t ∧ ∃ ds : List (DataW H), ds.length = fs.size ∧ Rows.uptoBulkAll ds + 1 ≤ Rows.uptoBulk d ∧ (∀ x, x ∈ ds → SizeOf.sizeOf x < SizeOf.sizeOf d) ∧
      ∀ (i : Nat) (f : Field) (x : DataW H), fs[i]? = some f → ds[i]? = some x → AVD P f.type ((cs.drop f.offset).take (P.cellsOf f.type)) x := by
  cases h with
  | int h hw => rw [hu] at h; cases h
  | bool h => rw [hu] at h; cases h
  | str h _ => rw [hu] at h; cases h
  | nilp h => rw [hu] at h; cases h
  | ptr h _ => rw [hu] at h; cases h
  | nils h => rw [hu] at h; cases h
  | list h _ _ _ => rw [hu] at h; cases h
  | struct h h1 h2 h3 =>
    rw [hu] at h; cases h
    rename_i ds
    refine ⟨h1, ds, h2, by simp only [Rows.uptoBulk]; omega, fun x hx => ?_, h3⟩
    have := List.sizeOf_lt_of_mem hx
    simp only [DataW.agg.sizeOf_spec]; omega
  | other h => simp [okType, hu] at h
theorem dint {cs : List AV} {d : DataW H} (h : AVD Try.prog 3 cs d) : ∃ n, cs = [.int .i64 n] := by
  obtain ⟨n, h, _⟩ := avd_int Try.underlying3 h; exact ⟨n, h⟩
theorem dint2 {cs : List AV} {d : DataW H} (h : AVD Try.prog 2 cs d) : ∃ n, cs = [.int .i64 n] := by
  obtain ⟨n, h, _⟩ := avd_int Try.underlying2 h; exact ⟨n, h⟩
theorem k2 : Try.prog.cellsOf 2 = 1 := by kernel_rfl
theorem k3 : Try.prog.cellsOf 3 = 1 := by kernel_rfl
theorem k9 : Try.prog.cellsOf 9 = 1 := by kernel_rfl
theorem k48 : Try.prog.cellsOf 48 = 1 := by kernel_rfl
theorem k49 : Try.prog.cellsOf 49 = 1 := by kernel_rfl
theorem k50 : Try.prog.cellsOf 50 = 1 := by kernel_rfl
theorem k51 : Try.prog.cellsOf 51 = 1 := by kernel_rfl
theorem k52 : Try.prog.cellsOf 52 = 1 := by kernel_rfl
theorem k54 : Try.prog.cellsOf 54 = 9 := by kernel_rfl
theorem k113 : Try.prog.cellsOf 113 = 13 := by kernel_rfl
theorem k114 : Try.prog.cellsOf 114 = 10 := by kernel_rfl
theorem k116 : Try.prog.cellsOf 116 = 10 := by kernel_rfl
theorem bulk_all {α : Type} {f : α → List AV} {w : α → Nat} {T : List α → Nat} (hT0 : T [] = 0) (hT : ∀ x l, T (x :: l) = w x + T l) {Q : List AV → DataW H → Prop} :
    ∀ (es : List (List AV)) (ds : List (DataW H)), es.length = ds.length → (∀ (i : Nat) c x, es[i]? = some c → ds[i]? = some x → ∃ a, c = f a ∧ w a ≤ Rows.uptoBulk x) → ∃ l : List α, es = l.map f ∧ T l ≤ Rows.uptoBulkAll ds
  | [], [], _, _ => ⟨[], rfl, by simp [hT0]⟩
  | c :: es, x :: ds, hl, h => by
    obtain ⟨a, ha, hw⟩ := h 0 c x rfl rfl
    obtain ⟨l, hl2, hb⟩ := bulk_all (α := α) (f := f) (w := w) hT0 hT (Q := Q) es ds (by simpa using hl) fun i c x h1 h2 => h (i + 1) c x (by simpa using h1) (by simpa using h2)
    exact ⟨a :: l, by simp [ha, hl2], by rw [hT, Rows.uptoBulkAll]; omega⟩
theorem dtexts {cs : List AV} {d : DataW H} (h : AVD Try.prog 48 cs d) : ∃ l, cs = [strs l] ∧ l.length + 1 ≤ Rows.uptoBulk d := by
  obtain ⟨es, ds, rfl, hl, hb, _, he⟩ := avdB_slice Try.underlying48 (by rw [k9]; decide) h
  obtain ⟨l, rfl, hw⟩ := bulk_all (f := fun x : ByteArray => [AV.str x]) (w := fun _ => 1) (T := List.length) rfl (fun x l => by simp; omega) (Q := fun _ _ => True) es ds hl fun i c x h1 h2 => by
    obtain ⟨s, rfl, hs⟩ := avdB_str Try.underlying9 (he i c x h1 h2)
    exact ⟨s, rfl, one_le x⟩
  exact ⟨l, rfl, by omega⟩
theorem at9 {α : Type} : ∀ {l : List α}, l.length = 9 → ∃ a b c d e f g h i, l = [a, b, c, d, e, f, g, h, i]
  | [a, b, c, d, e, f, g, h, i], _ => ⟨a, b, c, d, e, f, g, h, i, rfl⟩
theorem at10 {α : Type} {l : List α} (h : l.length = 10) : ∃ a r, l = a :: r ∧ r.length = 9 := by
  cases l with
  | nil => simp at h
  | cons a r => exact ⟨a, r, rfl, by simpa using h⟩
set_option maxRecDepth 100000 in
theorem dcore : ∀ (n : Nat) {cs : List AV} {d : DataW H}, SizeOf.sizeOf d < n → AVD Try.prog 54 cs d → ∃ x : Cr, cs = x.cells ∧ x.bulk + 1 ≤ Rows.uptoBulk d
  | 0, _, _, hn, _ => by omega
  | n + 1, cs, d, hn, h => by
    obtain ⟨hl, ds, hdl, hb, hsz, hf⟩ := avdB_struct Try.underlying54 h
    rw [k54] at hl
    obtain ⟨a0, a1, a2, a3, a4, a5, a6, a7, a8, rfl⟩ := at9 hl
    obtain ⟨d0, d1, d2, d3, d4, d5, d6, d7, d8, rfl⟩ := at9 (show ds.length = 9 from hdl)
    have h0 := hf 0 _ d0 rfl rfl
    have h1 := hf 1 _ d1 rfl rfl
    have h2 := hf 2 _ d2 rfl rfl
    have h3 := hf 3 _ d3 rfl rfl
    have h4 := hf 4 _ d4 rfl rfl
    have h5 := hf 5 _ d5 rfl rfl
    have h6 := hf 6 _ d6 rfl rfl
    have h7 := hf 7 _ d7 rfl rfl
    have h8 := hf 8 _ d8 rfl rfl
    have s5 := hsz d5 (by simp)
    have s6 := hsz d6 (by simp)
    have s7 := hsz d7 (by simp)
    have s8 := hsz d8 (by simp)
    change AVD Try.prog 3 (List.take (Try.prog.cellsOf 3) (List.drop 0 [a0, a1, a2, a3, a4, a5, a6, a7, a8])) d0 at h0
    change AVD Try.prog 9 (List.take (Try.prog.cellsOf 9) (List.drop 1 [a0, a1, a2, a3, a4, a5, a6, a7, a8])) d1 at h1
    change AVD Try.prog 2 (List.take (Try.prog.cellsOf 2) (List.drop 2 [a0, a1, a2, a3, a4, a5, a6, a7, a8])) d2 at h2
    change AVD Try.prog 3 (List.take (Try.prog.cellsOf 3) (List.drop 3 [a0, a1, a2, a3, a4, a5, a6, a7, a8])) d3 at h3
    change AVD Try.prog 48 (List.take (Try.prog.cellsOf 48) (List.drop 4 [a0, a1, a2, a3, a4, a5, a6, a7, a8])) d4 at h4
    change AVD Try.prog 49 (List.take (Try.prog.cellsOf 49) (List.drop 5 [a0, a1, a2, a3, a4, a5, a6, a7, a8])) d5 at h5
    change AVD Try.prog 50 (List.take (Try.prog.cellsOf 50) (List.drop 6 [a0, a1, a2, a3, a4, a5, a6, a7, a8])) d6 at h6
    change AVD Try.prog 51 (List.take (Try.prog.cellsOf 51) (List.drop 7 [a0, a1, a2, a3, a4, a5, a6, a7, a8])) d7 at h7
    change AVD Try.prog 52 (List.take (Try.prog.cellsOf 52) (List.drop 8 [a0, a1, a2, a3, a4, a5, a6, a7, a8])) d8 at h8
    simp only [k2, k3, k9, k48, k49, k50, k51, k52, List.drop_zero, List.drop_succ_cons, List.take_succ_cons, List.take_zero] at h0 h1 h2 h3 h4 h5 h6 h7 h8
    obtain ⟨k, e0⟩ := dint h0
    obtain ⟨nm, e1, b1⟩ := avdB_str Try.underlying9 h1
    obtain ⟨m, e2⟩ := dint2 h2
    obtain ⟨ar, e3⟩ := dint h3
    obtain ⟨ps, e4, b4⟩ := dtexts h4
    obtain ⟨es5, ds5, e5, l5, b5, z5, q5⟩ := avdB_slice Try.underlying49 (by rw [k54]; decide) h5
    obtain ⟨es6, ds6, e6, l6, b6, z6, q6⟩ := avdB_slice Try.underlying50 (by rw [k113]; decide) h6
    obtain ⟨es7, ds7, e7, l7, b7, z7, q7⟩ := avdB_slice Try.underlying51 (by rw [k114]; decide) h7
    obtain ⟨es8, ds8, e8, l8, b8, z8, q8⟩ := avdB_slice Try.underlying52 (by rw [k116]; decide) h8
    obtain ⟨gs, rfl, w5⟩ := bulk_all (f := Cr.cells) (w := Cr.bulk) (T := Cr.bulkL) (by rw [Cr.bulkL]) (fun x l => by rw [Cr.bulkL]) (Q := fun _ _ => True) es5 ds5 l5 fun i c x g1 g2 => by
      have := z5 x (List.mem_of_getElem? g2)
      obtain ⟨y, hy, hw⟩ := dcore n (by omega) (q5 i c x g1 g2)
      exact ⟨y, hy, by omega⟩
    obtain ⟨al, rfl, w6⟩ := bulk_all (f := altC) (w := fun y => y.1.ps.length + y.2.bulk) (T := Cr.bulkA) (by rw [Cr.bulkA]) (fun x l => by obtain ⟨g, y⟩ := x; rw [Cr.bulkA]) (Q := fun _ _ => True) es6 ds6 l6 fun i c x g1 g2 => by
      have hzx := z6 x (List.mem_of_getElem? g2)
      obtain ⟨jl, dd, jd, jb, jz, jf⟩ := avdB_struct Try.underlying113 (q6 i c x g1 g2)
      rw [k113] at jl
      obtain ⟨c0, c1, c2, c3, r, rfl, hr⟩ : ∃ c0 c1 c2 c3 r, c = c0 :: c1 :: c2 :: c3 :: r ∧ r.length = 9 := by
        match c, jl with
        | c0 :: c1 :: c2 :: c3 :: r, jl => exact ⟨c0, c1, c2, c3, r, rfl, by simpa using jl⟩
      obtain ⟨t0, t1, t2, t3, t4, rfl⟩ := len5' (show dd.length = 5 from jd)
      have u0 := jf 0 _ t0 rfl rfl
      have u1 := jf 1 _ t1 rfl rfl
      have u2 := jf 2 _ t2 rfl rfl
      have u3 := jf 3 _ t3 rfl rfl
      have u4 := jf 4 _ t4 rfl rfl
      have y4 := jz t4 (by simp)
      change AVD Try.prog 3 (List.take (Try.prog.cellsOf 3) (List.drop 0 (c0 :: c1 :: c2 :: c3 :: r))) t0 at u0
      change AVD Try.prog 9 (List.take (Try.prog.cellsOf 9) (List.drop 1 (c0 :: c1 :: c2 :: c3 :: r))) t1 at u1
      change AVD Try.prog 2 (List.take (Try.prog.cellsOf 2) (List.drop 2 (c0 :: c1 :: c2 :: c3 :: r))) t2 at u2
      change AVD Try.prog 48 (List.take (Try.prog.cellsOf 48) (List.drop 3 (c0 :: c1 :: c2 :: c3 :: r))) t3 at u3
      change AVD Try.prog 54 (List.take (Try.prog.cellsOf 54) (List.drop 4 (c0 :: c1 :: c2 :: c3 :: r))) t4 at u4
      simp only [k2, k3, k9, k48, k54, List.drop_zero, List.drop_succ_cons, List.take_succ_cons, List.take_zero] at u0 u1 u2 u3 u4
      rw [List.take_of_length_le (by omega)] at u4
      obtain ⟨v0, x0⟩ := dint u0
      obtain ⟨v1, x1, _⟩ := avdB_str Try.underlying9 u1
      obtain ⟨v2, x2⟩ := dint2 u2
      obtain ⟨v3, x3, x3b⟩ := dtexts u3
      obtain ⟨y, hy, hw⟩ := dcore n (by omega) u4
      simp only [List.cons.injEq, and_true] at x0 x1 x2 x3
      subst x0 x1 x2 x3 hy
      refine ⟨(⟨v0, v1, v2, v3⟩, y), rfl, ?_⟩
      simp only [Rows.uptoBulkAll] at jb
      simp only
      omega
    obtain ⟨bs, rfl, w7⟩ := bulk_all (f := bindC) (w := fun y => 1 + y.2.bulk) (T := Cr.bulkB) (by rw [Cr.bulkB]) (fun x l => by obtain ⟨g, y⟩ := x; rw [Cr.bulkB]) (Q := fun _ _ => True) es7 ds7 l7 fun i c x g1 g2 => by
      have hzx := z7 x (List.mem_of_getElem? g2)
      obtain ⟨jl, dd, jd, jb, jz, jf⟩ := avdB_struct Try.underlying114 (q7 i c x g1 g2)
      rw [k114] at jl
      obtain ⟨c0, r, rfl, hr⟩ := at10 jl
      obtain ⟨t0, t1, rfl⟩ := len2 (show dd.length = 2 from jd)
      have u0 := jf 0 _ t0 rfl rfl
      have u1 := jf 1 _ t1 rfl rfl
      have y4 := jz t1 (by simp)
      change AVD Try.prog 9 (List.take (Try.prog.cellsOf 9) (List.drop 0 (c0 :: r))) t0 at u0
      change AVD Try.prog 54 (List.take (Try.prog.cellsOf 54) (List.drop 1 (c0 :: r))) t1 at u1
      simp only [k9, k54, List.drop_zero, List.drop_succ_cons, List.take_succ_cons, List.take_zero] at u0 u1
      rw [List.take_of_length_le (by omega)] at u1
      obtain ⟨v0, x0, x0b⟩ := avdB_str Try.underlying9 u0
      obtain ⟨y, hy, hw⟩ := dcore n (by omega) u1
      simp only [List.cons.injEq, and_true] at x0
      subst x0 hy
      refine ⟨(v0, y), rfl, ?_⟩
      simp only [Rows.uptoBulkAll] at jb
      simp only
      omega
    obtain ⟨pk, rfl, w8⟩ := bulk_all (f := pickC) (w := fun y => y.2.bulk) (T := Cr.bulkP) (by rw [Cr.bulkP]) (fun x l => by obtain ⟨g, y⟩ := x; rw [Cr.bulkP]) (Q := fun _ _ => True) es8 ds8 l8 fun i c x g1 g2 => by
      have hzx := z8 x (List.mem_of_getElem? g2)
      obtain ⟨jl, dd, jd, jb, jz, jf⟩ := avdB_struct Try.underlying116 (q8 i c x g1 g2)
      rw [k116] at jl
      obtain ⟨c0, r, rfl, hr⟩ := at10 jl
      obtain ⟨t0, t1, rfl⟩ := len2 (show dd.length = 2 from jd)
      have u0 := jf 0 _ t0 rfl rfl
      have u1 := jf 1 _ t1 rfl rfl
      have y4 := jz t1 (by simp)
      change AVD Try.prog 3 (List.take (Try.prog.cellsOf 3) (List.drop 0 (c0 :: r))) t0 at u0
      change AVD Try.prog 54 (List.take (Try.prog.cellsOf 54) (List.drop 1 (c0 :: r))) t1 at u1
      simp only [k3, k54, List.drop_zero, List.drop_succ_cons, List.take_succ_cons, List.take_zero] at u0 u1
      rw [List.take_of_length_le (by omega)] at u1
      obtain ⟨v0, x0⟩ := dint u0
      obtain ⟨y, hy, hw⟩ := dcore n (by omega) u1
      simp only [List.cons.injEq, and_true] at x0
      subst x0 hy
      refine ⟨(v0, y), rfl, ?_⟩
      simp only [Rows.uptoBulkAll] at jb
      simp only
      omega
    simp only [List.cons.injEq, and_true] at e0 e1 e2 e3 e4 e5 e6 e7 e8
    subst e0 e1 e2 e3 e4 e5 e6 e7 e8
    refine ⟨.mk k nm m ar ps gs al bs pk, by rw [Cr.cells_eq], ?_⟩
    simp only [Rows.uptoBulkAll] at hb
    have := one_le d0; have := one_le d2; have := one_le d3
    rw [Cr.bulk]
    omega
end
end Go.Proofs.Ytjjbjibbjbbeaaa
/- Supercombinators as arguments, with their bulk. -/
set_option linter.unusedVariables false
namespace Go.Proofs.Ytjjbjibbjbbeaaa
open Go.AL
section
variable {H : Type}
theorem k71 : Try.prog.cellsOf 71 = 11 := by kernel_rfl
theorem at11 {α : Type} {l : List α} (h : l.length = 11) : ∃ a b r, l = a :: b :: r ∧ r.length = 9 := by
  match l, h with
  | a :: b :: r, h => exact ⟨a, b, r, rfl, by simpa using h⟩
theorem at3 {α : Type} : ∀ {l : List α}, l.length = 3 → ∃ a b c, l = [a, b, c]
  | [a, b, c], _ => ⟨a, b, c, rfl⟩
theorem dsup {cs : List AV} {d : DataW H} (h : AVD Try.prog 71 cs d) : ∃ x : Sup, cs = supC x ∧ x.nm.size + 1 + x.ps.length + x.bd.bulk ≤ Rows.uptoBulk d := by
  obtain ⟨jl, dd, jd, jb, jz, jf⟩ := avdB_struct Try.underlying71 h
  rw [k71] at jl
  obtain ⟨c0, c1, r, rfl, hr⟩ := at11 jl
  obtain ⟨t0, t1, t2, rfl⟩ := at3 (show dd.length = 3 from jd)
  have u0 := jf 0 _ t0 rfl rfl
  have u1 := jf 1 _ t1 rfl rfl
  have u2 := jf 2 _ t2 rfl rfl
  change AVD Try.prog 9 (List.take (Try.prog.cellsOf 9) (List.drop 0 (c0 :: c1 :: r))) t0 at u0
  change AVD Try.prog 48 (List.take (Try.prog.cellsOf 48) (List.drop 1 (c0 :: c1 :: r))) t1 at u1
  change AVD Try.prog 54 (List.take (Try.prog.cellsOf 54) (List.drop 2 (c0 :: c1 :: r))) t2 at u2
  simp only [k9, k48, k54, List.drop_zero, List.drop_succ_cons, List.take_succ_cons, List.take_zero] at u0 u1 u2
  rw [List.take_of_length_le (by omega)] at u2
  obtain ⟨v0, x0, x0b⟩ := avdB_str Try.underlying9 u0
  obtain ⟨v1, x1, x1b⟩ := dtexts u1
  obtain ⟨y, hy, hw⟩ := dcore _ (Nat.lt_succ_self _) u2
  simp only [List.cons.injEq, and_true] at x0 x1
  subst x0 x1 hy
  refine ⟨⟨v0, v1, y⟩, rfl, ?_⟩
  simp only [Rows.uptoBulkAll] at jb
  simp only
  omega
theorem dsups {cs : List AV} {d : DataW H} (h : AVD Try.prog 59 cs d) : ∃ l : List Sup, cs = [.list (l.map supC)] ∧ bulkS l + 1 ≤ Rows.uptoBulk d := by
  obtain ⟨es, ds, rfl, hl, hb, _, he⟩ := avdB_slice Try.underlying59 (by rw [k71]; decide) h
  obtain ⟨l, rfl, hw⟩ := bulk_all (f := supC) (w := fun x => x.nm.size + 1 + x.ps.length + x.bd.bulk) (T := bulkS) rfl (fun x l => by rw [bulkS]) (Q := fun _ _ => True) es ds hl fun i c x h1 h2 => dsup (he i c x h1 h2)
  exact ⟨l, rfl, by omega⟩
end
end Go.Proofs.Ytjjbjibbjbbeaaa
