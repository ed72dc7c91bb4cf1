/- A part of the proof of the claim: the abstract layer, the contracts of the functions, the law (no condition of its own). -/
import Derived.Test.YtjjbjibbjbbeaaaK7
import Derived.Test.YtjjbjibbjbbeaaaProg
import Derived.KernelRfl
import Derived.Test.YtjjbjibbjbbeaaaRows
/- What begins: the program's answer, exactly. -/
set_option linter.unusedVariables false
set_option linter.unusedSimpArgs false
namespace Go.AL
theorem bulkS_app : ∀ l m : List Sup, bulkS (l ++ m) = bulkS l + bulkS m
  | [], m => by simp [bulkS]
  | x :: r, m => by rw [List.cons_append, bulkS, bulkS, bulkS_app r m]; omega
theorem zeroI_bulk : zeroI.bulk = 1 := by rw [zeroI, Cr.bulk, Cr.bulkL, Cr.bulkA, Cr.bulkB, Cr.bulkP]; rfl
theorem probe_bulk (e : Cr) (l : List Sup) : bulkS (l ++ [probeS e l]) ≤ 2 * bulkS l + e.bulk + 10 := by
  have h1 := pbAcc_size l
  have h2 : (pbName l).size = (pbAcc l).size + 1 := by rw [pbName, size_app]; rfl
  have h3 : (⟨#[]⟩ : ByteArray).size = 0 := rfl
  rw [bulkS_app, bulkS, bulkS]
  simp only [probeS]
  rw [Cr.bulk, Cr.bulkL, Cr.bulkL, Cr.bulkL, zeroI_bulk, Cr.bulkA, Cr.bulkB, Cr.bulkP, List.length_nil, h3]
  omega
/-- What may begin. -/
def StartOK (e : Cr) (l : List Sup) (cons : List Con5) : Prop := OpenE l cons ∧ FlatE (l ++ [probeS e l]) ∧ e.Kn (glOf l cons) ∧ e.Cl (pbName l)
noncomputable def startS (e : Cr) (l : List Sup) (cons : List Con5) : Cd := ⟨⟨#[]⟩, 0, false, latS (glOf l cons) opS [] 0 e ++ [ik 9 0, ik 18 0, ik 19 (latS (glOf l cons) opS [] 0 e).length]⟩
/-- What begins, as a result. -/
def StartR (e : Cr) (l : List Sup) (cons : List Con5) (r : AV) : Prop :=
  (¬ StartOK e l cons ∧ r = .tuple [.agg [.str ⟨#[]⟩, .int .i64 0, .bool false, .nils], .int .i64 1]) ∨ (StartOK e l cons ∧ r = .tuple [.agg (codeR (startS e l cons)), .int .i64 0])
@[congr] theorem StartR_congr {w : Prop} (hw : Visit = w) {e : Cr} {l : List Sup} {cons : List Con5} {r r' : AV} (h : r = r') : StartR e l cons r = StartR e l cons r' := by rw [h]
theorem FP.start {σ s : Store} {v : AV} {c : Cd} {p : AV → Prop} (hs : SliceAt s v 139 4 (c.ops.map rawC)) (k : Kp σ s) (hf : ∀ j, j ∈ slIds v → σ.next ≤ j) (n : Int) (hp : p (.tuple [.agg (codeR c), .int .i64 n])) : FP σ p (.tuple [.agg [.str c.nm, .int .i64 c.ar, .bool c.con, v], .int .i64 n]) s := by
  refine FP.mk (.tuple [.agg (codeR c), .int .i64 n]) hs (.tuple (.cons (.agg (.cons (.refl _) (.cons (.refl _) (.cons (.refl _) (.cons .here .nil))))) (.cons (.refl _) .nil))) hp ?_ k hf
  refine .tuple' fun x hx => ?_
  simp only [List.mem_cons, List.not_mem_nil, or_false] at hx
  rcases hx with rfl | rfl
  · exact codeR_cln c
  · exact .int _ _
theorem FlatE.probe {e : Cr} {l : List Sup} (h : FlatE (l ++ [probeS e l])) : e.RtE ((l ++ [probeS e l]).map (·.nm)) [] ∧ e.Fl false := by
  obtain ⟨h1, h2⟩ := h.2 (probeS e l) (by simp)
  simp only [probeS] at h1 h2
  have g1 := (fl_iff.1 h1).g1 e (by simp)
  have g2 := (rtE_iff.1 h2).g1 e (by simp)
  rw [innerE_ne (by decide) (by decide)] at g2
  exact ⟨g2, by simpa using g1⟩
end Go.AL
namespace Go.Proofs.Ytjjbjibbjbbeaaa
open Go.AL
set_option maxHeartbeats 1000000 in
theorem start_ok (e : Cr) (l : List Sup) (cons : List Con5) (hb : bulkS l + e.bulk ≤ 1100000) (hl : l.length + cons.length ≤ 100000000) (σ : Store) :
    ACalls Try.prog 33 [.agg e.cells, .list (l.map supC), .list (cons.map con5C)] σ fun r s => StartR e l cons r ∧ s = σ := by
  have hll := lenS l
  have hpb := probe_bulk e l
  refine ACalls_fp (p := StartR e l cons) ?_
  refine in33 (by simp) ?_
  unfold c33
  try simp only [YY, ↓reduceIte, Nat.reduceEqDiff, Nat.reduceAdd, Nat.reduceLeDiff, reduceCtorEq, Int.reduceEq, Int.reduceLT, Int.reduceLE, Int.reduceNeg, Int.reduceAdd, Int.reduceSub, Int.reduceToNat, Cr.len]
  iterate 2 ((with_reducible refine WW (by decide) ?_); refine unr ?_; try simp only [YY, ↓reduceIte, Nat.reduceEqDiff, Nat.reduceAdd, Nat.reduceLeDiff, reduceCtorEq, Int.reduceEq, Int.reduceLT, Int.reduceLE, Int.reduceNeg, Int.reduceAdd, Int.reduceSub, Int.reduceToNat, Cr.len])
  generalize hs : Store.push _ _ = s1
  have k1 : Kp σ s1 := by rw [← hs]; exact (Kp.pushed _ _).push _
  have n1 : s1.next = σ.next + 2 := by rw [← hs]; rfl
  have e1 : s1.get σ.next = some (.cells 54 0 9 [e.cells]) := by rw [← hs]; simp [Store.push_get, Store.push_next]
  have e2 : s1.get (σ.next + 1) = some (.cells 81 0 4 [[.str ⟨#[]⟩, .int .i64 0, .bool false, .nils]]) := by rw [← hs]; simp [Store.push_get, Store.push_next]
  clear hs
  have bad : ∀ (s : Store), Kp σ s → ¬ StartOK e l cons → FP σ (StartR e l cons) (.tuple [.agg [.str ⟨#[]⟩, .int .i64 0, .bool false, .nils], .int .i64 1]) s := fun s k hn => FP.same k (.inl ⟨hn, rfl⟩) (by
    refine .tuple' fun x hx => ?_
    simp only [List.mem_cons, List.not_mem_nil, or_false] at hx
    rcases hx with rfl | rfl
    · refine .agg' fun x hx => ?_
      simp only [List.mem_cons, List.not_mem_nil, or_false] at hx
      rcases hx with rfl | rfl | rfl | rfl
      · exact .str _
      · exact .int _ _
      · exact .bool _
      · exact .nils
    · exact .int _ _)
  refine raw ?_
  repeat (first | (with_reducible refine unr ?_; try simp only [YY, ↓reduceIte, Nat.reduceEqDiff, Nat.reduceAdd, Nat.reduceLeDiff, reduceCtorEq, Int.reduceEq, Int.reduceLT, Int.reduceLE, Int.reduceNeg, Int.reduceAdd, Int.reduceSub, Int.reduceToNat]) | (with_reducible refine WW (by decide) ?_))
  refine (openE l cons (by omega) hl _).mono ?_
  rintro _ s2 ⟨⟨hno, rfl⟩ | ⟨tid, rfl, ht, hO⟩, k2⟩
  · have f2 := k2.get e2
    have hu : ∀ o, (s2.upd (σ.next + 1) o).get (σ.next + 1) = some o := fun o => Store.get_upd_self _ _ (s2.lt f2)
    refine raw ?_
    repeat (first | (with_reducible refine unr ?_; try simp only [YY, ↓reduceIte, Nat.reduceEqDiff, Nat.reduceAdd, Nat.reduceLeDiff, reduceCtorEq, Int.reduceEq, Int.reduceLT, Int.reduceLE, Int.reduceNeg, Int.reduceAdd, Int.reduceSub, Int.reduceToNat, f2, hu]) | (with_reducible refine WW (by decide) ?_))
    exact bad _ ((k1.trans k2).upd (id := σ.next + 1) (by omega) _) fun h => hno h.1
  have f1 := k2.get e1
  have f2 := k2.get e2
  refine raw ?_
  repeat (first | (with_reducible refine unr ?_; try simp only [YY, ↓reduceIte, Nat.reduceEqDiff, Nat.reduceAdd, Nat.reduceLeDiff, reduceCtorEq, Int.reduceEq, Int.reduceLT, Int.reduceLE, Int.reduceNeg, Int.reduceAdd, Int.reduceSub, Int.reduceToNat]) | (with_reducible refine WW (by decide) ?_))
  refine ok_grow (.start s2 71 11) (es2 := l.map supC) (by intro q hq; obtain ⟨y, _, rfl⟩ := List.mem_map.1 hq; exact supC_len y) (by simp; omega) (by simp [maxLen]; omega) ?_
  intro v s3 hG3 _ _
  have g1 := hG3.kp.get f1
  refine raw ?_
  repeat (first | (with_reducible refine unr ?_; try simp only [YY, ↓reduceIte, Nat.reduceEqDiff, Nat.reduceAdd, Nat.reduceLeDiff, reduceCtorEq, Int.reduceEq, Int.reduceLT, Int.reduceLE, Int.reduceNeg, Int.reduceAdd, Int.reduceSub, Int.reduceToNat, g1, Cr.len, Cr.take9]) | (with_reducible refine WW (by decide) ?_))
  refine (probe_ok e l (by omega) _).mono ?_
  rintro _ s3 ⟨rfl, rfl⟩
  have hrl : (rawProbe e l).length = 11 := rfl
  refine raw ?_
  repeat (first | (with_reducible refine unr ?_; try simp only [YY, ↓reduceIte, Nat.reduceEqDiff, Nat.reduceAdd, Nat.reduceLeDiff, reduceCtorEq, Int.reduceEq, Int.reduceLT, Int.reduceLE, Int.reduceNeg, Int.reduceAdd, Int.reduceSub, Int.reduceToNat, hrl]) | (with_reducible refine WW (by decide) ?_))
  refine ok_grow hG3 (es2 := [rawProbe e l]) (by simp [hrl]) (by simp; omega) (by simp [maxLen]; omega) ?_
  intro v4 s4 hG4 _ _
  refine raw ?_
  repeat (first | (with_reducible refine unr ?_; try simp only [YY, ↓reduceIte, Nat.reduceEqDiff, Nat.reduceAdd, Nat.reduceLeDiff, reduceCtorEq, Int.reduceEq, Int.reduceLT, Int.reduceLE, Int.reduceNeg, Int.reduceAdd, Int.reduceSub, Int.reduceToNat]) | (with_reducible refine WW (by decide) ?_))
  refine ACalls_frozeA hG4.sl (.cons .here .nil) fun s5 hn5 hg5 => ?_
  have k5 : Kp s2 s5 := ⟨by rw [hn5]; exact hG4.kp.next, fun j hj => by rw [hg5 j (fun hm => by have := hG4.fresh j hm; omega), hG4.kp.keep j hj]⟩
  have kk5 := (k1.trans k2).trans k5
  have f15 := k5.get f1
  have f25 := k5.get f2
  have ht5 := ht.kp (Nat.le_refl _) k5
  have hT5 := k5.next
  refine ACalls_argsD (args' := [.list ((l ++ [probeS e l]).map supC)]) (.cons (.list (by rw [List.map_append]; exact LeDE.app (LeDE.rf _) (.cons (leD_probe e l) .nil))) .nil) ?_
  refine (flatSE (l ++ [probeS e l]) (by omega) _).mono ?_
  rintro _ s5 ⟨⟨b1, rfl, hb1⟩, rfl⟩
  have hu : ∀ o, (s5.upd (σ.next + 1) o).get (σ.next + 1) = some o := fun o => Store.get_upd_self _ _ (s5.lt f25)
  cases b1 with
  | false =>
    refine raw ?_
    repeat (first | (with_reducible refine unr ?_; try simp only [YY, ↓reduceIte, Nat.reduceEqDiff, Nat.reduceAdd, Nat.reduceLeDiff, reduceCtorEq, Int.reduceEq, Int.reduceLT, Int.reduceLE, Int.reduceNeg, Int.reduceAdd, Int.reduceSub, Int.reduceToNat, f25, hu]) | (with_reducible refine WW (by decide) ?_))
    exact bad _ (kk5.upd (id := σ.next + 1) (by omega) _) fun h => iff_f hb1 rfl h.2.1
  | true =>
  refine raw ?_
  repeat (first | (with_reducible refine unr ?_; try simp only [YY, ↓reduceIte, Nat.reduceEqDiff, Nat.reduceAdd, Nat.reduceLeDiff, reduceCtorEq, Int.reduceEq, Int.reduceLT, Int.reduceLE, Int.reduceNeg, Int.reduceAdd, Int.reduceSub, Int.reduceToNat, f15, Cr.len, Cr.take9]) | (with_reducible refine WW (by decide) ?_))
  refine (knownE e (by omega) _ _ _ _ ht5 hT5).mono ?_
  rintro _ s5 ⟨⟨b2, rfl, hb2⟩, rfl⟩
  cases b2 with
  | false =>
    refine raw ?_
    repeat (first | (with_reducible refine unr ?_; try simp only [YY, ↓reduceIte, Nat.reduceEqDiff, Nat.reduceAdd, Nat.reduceLeDiff, reduceCtorEq, Int.reduceEq, Int.reduceLT, Int.reduceLE, Int.reduceNeg, Int.reduceAdd, Int.reduceSub, Int.reduceToNat, f25, hu]) | (with_reducible refine WW (by decide) ?_))
    exact bad _ (kk5.upd (id := σ.next + 1) (by omega) _) fun h => iff_f hb2 rfl h.2.2.1
  | true =>
  refine raw ?_
  repeat (first | (with_reducible refine unr ?_; try simp only [YY, ↓reduceIte, Nat.reduceEqDiff, Nat.reduceAdd, Nat.reduceLeDiff, reduceCtorEq, Int.reduceEq, Int.reduceLT, Int.reduceLE, Int.reduceNeg, Int.reduceAdd, Int.reduceSub, Int.reduceToNat, f15, Cr.len, Cr.take9]) | (with_reducible refine WW (by decide) ?_))
  refine (closedE l (by omega) e (by omega) _).mono ?_
  rintro _ s5 ⟨⟨b3, rfl, hb3⟩, rfl⟩
  cases b3 with
  | false =>
    refine raw ?_
    repeat (first | (with_reducible refine unr ?_; try simp only [YY, ↓reduceIte, Nat.reduceEqDiff, Nat.reduceAdd, Nat.reduceLeDiff, reduceCtorEq, Int.reduceEq, Int.reduceLT, Int.reduceLE, Int.reduceNeg, Int.reduceAdd, Int.reduceSub, Int.reduceToNat, f25, hu]) | (with_reducible refine WW (by decide) ?_))
    exact bad _ (kk5.upd (id := σ.next + 1) (by omega) _) fun h => iff_f hb3 rfl h.2.2.2
  | true =>
  have hOK : StartOK e l cons := ⟨hO, hb1.1 rfl, hb2.1 rfl, hb3.1 rfl⟩
  have htw : e.Tw := (hOK.2.1.probe).1.rt.tw
  try simp only [YY, ↓reduceIte, Nat.reduceEqDiff, Nat.reduceAdd, Nat.reduceLeDiff, reduceCtorEq, Int.reduceEq, Int.reduceLT, Int.reduceLE, Int.reduceNeg, Int.reduceAdd, Int.reduceSub, Int.reduceToNat]
  iterate 4 ((with_reducible refine WW (by decide) ?_); refine unr ?_; try simp only [YY, ↓reduceIte, Nat.reduceEqDiff, Nat.reduceAdd, Nat.reduceLeDiff, reduceCtorEq, Int.reduceEq, Int.reduceLT, Int.reduceLE, Int.reduceNeg, Int.reduceAdd, Int.reduceSub, Int.reduceToNat])
  generalize hs : Store.push _ _ = s6
  have k6 : Kp s5 s6 := by rw [← hs]; exact Kp.pushed _ _
  have n6 : s6.next = s5.next + 1 := by rw [← hs]; rfl
  have f6 : s6.get s5.next = some (.cells 157 0 2 [[.ptr tid 0 0 0, .nils]]) := by rw [← hs]; simp [Store.push_get, Store.push_next]
  have f16 := k6.get f15
  have f26 := k6.get f25
  have ht6 := ht5.kp hT5 k6
  clear hs
  have hB : BAt s6 s5.next .nils (.ptr tid 0 0 0) [] := ⟨f6, .nil _ _ _, by simp [slIds]⟩
  have hA : Ab s6 s2.next tid (glOf l cons) s5.next .nils := ⟨ht6, hT5, by simp [slIds], by omega⟩
  have hlat := later_ok e htw s6 s2.next tid s5.next (glOf l cons) .nils [] [] 0 hB hA ⟨by simp; omega, by simp⟩ (by simp; omega) (by omega) (by omega)
  have hlat2 := ACalls_argsD (args := [.ptr s5.next 0 0 0, .agg e.cells, .nils, .int .i64 0]) (.cons (.refl _) (.cons (.refl _) (.cons .nil (.cons (.refl _) .nil)))) hlat
  clear hlat
  refine raw ?_
  repeat (first | (with_reducible refine unr ?_; try simp only [YY, ↓reduceIte, Nat.reduceEqDiff, Nat.reduceAdd, Nat.reduceLeDiff, reduceCtorEq, Int.reduceEq, Int.reduceLT, Int.reduceLE, Int.reduceNeg, Int.reduceAdd, Int.reduceSub, Int.reduceToNat, f16, Cr.len, Cr.take9]) | (with_reducible refine WW (by decide) ?_))
  refine hlat2.mono ?_
  clear hlat2
  have M0 := MB.start hB (.refl s6) (N := s6.next) rfl
  have hll2 := latS_len (glOf l cons) opS e [] 0
  have hk12 := k2.next
  have hrow : ∃ row, row = latS (glOf l cons) opS [] 0 e := ⟨_, rfl⟩
  obtain ⟨row, hrow⟩ := hrow
  rw [← hrow] at hll2
  rintro _ s7 ⟨_, rfl, hP⟩
  rw [← hrow] at hP
  obtain ⟨v7, M7, -, -, -⟩ := M0.call hP
  refine raw ?_
  repeat (first | (with_reducible refine unr ?_; try simp only [YY, ↓reduceIte, Nat.reduceEqDiff, Nat.reduceAdd, Nat.reduceLeDiff, reduceCtorEq, Int.reduceEq, Int.reduceLT, Int.reduceLE, Int.reduceNeg, Int.reduceAdd, Int.reduceSub, Int.reduceToNat]) | (with_reducible refine WW (by decide) ?_))
  refine (put_ok M7.la (by simp only [List.length_append, List.length_map, List.length_nil]; omega) 9 0).mono ?_
  rintro _ s8 ⟨_, rfl, hP⟩
  obtain ⟨v8, M8, -, -, -⟩ := M7.call hP
  refine raw ?_
  repeat (first | (with_reducible refine unr ?_; try simp only [YY, ↓reduceIte, Nat.reduceEqDiff, Nat.reduceAdd, Nat.reduceLeDiff, reduceCtorEq, Int.reduceEq, Int.reduceLT, Int.reduceLE, Int.reduceNeg, Int.reduceAdd, Int.reduceSub, Int.reduceToNat]) | (with_reducible refine WW (by decide) ?_))
  refine (put_ok M8.la (by simp only [List.length_append, List.length_map, List.length_nil, List.length_cons]; omega) 18 0).mono ?_
  rintro _ s9 ⟨_, rfl, hP⟩
  obtain ⟨v9, M9, -, -, -⟩ := M8.call hP
  refine raw ?_
  repeat (first | (with_reducible refine unr ?_; try simp only [YY, ↓reduceIte, Nat.reduceEqDiff, Nat.reduceAdd, Nat.reduceLeDiff, reduceCtorEq, Int.reduceEq, Int.reduceLT, Int.reduceLE, Int.reduceNeg, Int.reduceAdd, Int.reduceSub, Int.reduceToNat]) | (with_reducible refine WW (by decide) ?_))
  refine (put_ok M9.la (by simp only [List.length_append, List.length_map, List.length_nil, List.length_cons]; omega) 19 _).mono ?_
  rintro _ s10 ⟨_, rfl, hP⟩
  obtain ⟨v10, M10, -, -, -⟩ := M9.call hP
  obtain ⟨v11, hb2, hn2, hk2, hf2⟩ := M10.out
  have f2 := hk2 (σ.next + 1) (by omega) (by omega) (by simp [slIds])
  rw [f26] at f2
  have hu : ∀ o, (s10.upd (σ.next + 1) o).get (σ.next + 1) = some o := fun o => Store.get_upd_self _ _ (s10.lt f2)
  refine raw ?_
  repeat (first | (with_reducible refine unr ?_; try simp only [YY, ↓reduceIte, Nat.reduceEqDiff, Nat.reduceAdd, Nat.reduceLeDiff, reduceCtorEq, Int.reduceEq, Int.reduceLT, Int.reduceLE, Int.reduceNeg, Int.reduceAdd, Int.reduceSub, Int.reduceToNat, f2, hb2.hd, hb2.sl.co, hu]) | (with_reducible refine WW (by decide) ?_))
  obtain ⟨q1, q2, q3⟩ := own_upd (kk5.trans k6) (by have := k5.next; have := k2.next; omega) hb2 hn2 hk2 hf2 (id := σ.next + 1) (by omega) (by omega) (.cells 81 0 4 [[AV.str ⟨#[]⟩, AV.int .i64 0, AV.bool false, v11]])
  have hes : (startS e l cons).ops.map rawC = [] ++ row.map rawC ++ [rawC (ik 9 0)] ++ [rawC (ik 18 0)] ++ [rawC (ik 19 (row.length : Nat))] := by
    simp [startS, ← hrow]
  rw [← hes] at q1
  exact FP.start (c := startS e l cons) q1 q2 q3 0 (.inr ⟨hOK, rfl⟩)
end Go.Proofs.Ytjjbjibbjbbeaaa
/- What may begin: exactly, the document's answer. -/
set_option linter.unusedVariables false
set_option linter.unusedSimpArgs false
namespace Go.AL
/-- All globals are there. -/
inductive Cr.Nd (gl : List ByteArray) : Cr → Prop
  | mk {k : Int} {nm : ByteArray} {n ar : Int} {ps : List ByteArray} {gs : List Cr} {al : List (AltH × Cr)} {bs : List (ByteArray × Cr)} {pk : List (Int × Cr)} (h : k = 2 → nm ∈ gl ∨ opS nm ≠ 0)
    (g1 : ∀ x, x ∈ gs → Cr.Nd gl x) (g3 : ∀ x, x ∈ bs → Cr.Nd gl x.2) : Cr.Nd gl (.mk k nm n ar ps gs al bs pk)
theorem nd_iff {gl : List ByteArray} {k : Int} {nm : ByteArray} {n ar : Int} {ps : List ByteArray} {gs : List Cr} {al : List (AltH × Cr)} {bs : List (ByteArray × Cr)} {pk : List (Int × Cr)} :
    (Cr.mk k nm n ar ps gs al bs pk).Nd gl ↔ (k = 2 → nm ∈ gl ∨ opS nm ≠ 0) ∧ (∀ x, x ∈ gs → Cr.Nd gl x) ∧ ∀ x, x ∈ bs → Cr.Nd gl x.2 :=
  ⟨fun h => by cases h with | mk a b c => exact ⟨a, b, c⟩, fun ⟨a, b, c⟩ => .mk a b c⟩
theorem placeS_lt {l : List ByteArray} {s : ByteArray} : placeS l s < 0 ↔ s ∉ l := by
  unfold placeS
  cases h : idx l s with
  | none => simp; exact idx_none.1 h
  | some i =>
    have hm : s ∈ l := Classical.byContradiction fun hn => (by rw [idx_none.2 hn] at h; cases h)
    simp [hm]
theorem placeS_ge {l : List ByteArray} {s : ByteArray} : 0 ≤ placeS l s ↔ s ∈ l := by
  have := placeS_lt (l := l) (s := s)
  constructor
  · intro h
    exact Classical.byContradiction fun hn => by have := this.2 hn; omega
  · intro h
    exact Classical.byContradiction fun hn => this.1 (by omega) h
/-- Names of one letter. -/
def xs : Nat → ByteArray
  | 0 => ⟨#[120]⟩
  | n + 1 => xs n ++ ⟨#[120]⟩
theorem xs_size : ∀ n, (xs n).size = n + 1
  | 0 => rfl
  | n + 1 => by rw [xs, size_app, xs_size n]; rfl
theorem xs_bl : ∀ n, (bl (xs n))[0]? = some 120
  | 0 => rfl
  | n + 1 => by
    rw [xs, bl_app, List.getElem?_append_left (by rw [bl_len, xs_size]; omega)]
    exact xs_bl n
theorem pigeon : ∀ (n : Nat) (f : Nat → Nat) (l : List Nat), (∀ a b, f a = f b → a = b) → (∀ j, j < n → f j ∈ l) → n ≤ l.length
  | 0, f, l, _, _ => by omega
  | n + 1, f, l, hf, h => by
    have := pigeon n f (l.erase (f n)) hf fun j hj => (List.mem_erase_of_ne (fun e => by have := hf _ _ e; omega)).2 (h j (by omega))
    rw [List.length_erase_of_mem (h n (by omega))] at this
    have := List.length_pos_of_mem (h n (by omega))
    omega
theorem xs_bound {n : Nat} {l : List ByteArray} (h : ∀ j, j < n → xs j ∈ l) : n ≤ l.length := by
  have := pigeon n (fun j => (xs j).size) (l.map ByteArray.size) (fun a b e => by simp only [xs_size] at e; omega) fun j hj => List.mem_map.2 ⟨_, h j hj, rfl⟩
  rwa [List.length_map] at this
/-- The expression as a supercombinator more. -/
def moreS (e : Cr) (s : ByteArray) : Sup := ⟨s, [], e⟩
theorem leD_more (e : Cr) (s : ByteArray) : LeDL (.str s :: .nils :: e.cells) (supC (moreS e s)) := .cons (.refl _) (.cons .nil (LeDL.refl _))
end Go.AL
namespace Go.Proofs.Ytjjbjibbjbbeaaa
open Go.AL
abbrev NamedD (gl : List ByteArray) (x : Cr) : Prop := ∀ (σ : Store), ACalls Try.prog 121 [.agg x.cells, strs gl] σ fun r s => (∃ b : Bool, r = .bool b ∧ (b = true ↔ x.Nd gl)) ∧ s = σ
set_option maxHeartbeats 1000000 in
theorem namedDE (gl : List ByteArray) (hgl : gl.length ≤ 100000000) : ∀ x : Cr, x.bulk ≤ 50000000 → NamedD gl x := by
  intro x
  induction x using Cr.ind with
  | _ k nm n ar ps gs al bs pk ih1 ih2 ih3 ih4 =>
    intro hbx σ
    rw [Cr.bulk] at hbx
    have l1 := Cr.lenL gs; have l3 := Cr.lenB bs
    have i1 := fun (x : Cr) (hx : x ∈ gs) => ih1 x hx (by have := Cr.bulkL_le hx; omega)
    have i3 := fun (x : ByteArray × Cr) (hx : x ∈ bs) => ih3 x hx (by have := Cr.bulkB_le hx; omega)
    refine ACalls_fp (p := RE ((Cr.mk k nm n ar ps gs al bs pk).Nd gl)) ?_
    refine in121 (by simp) ?_
    unfold c121
    rw [Cr.cells_eq]
    try simp only [YY, ↓reduceIte, Nat.reduceEqDiff, Nat.reduceAdd, Nat.reduceLeDiff, reduceCtorEq, Int.reduceEq, Int.reduceLT, Int.reduceLE, Int.reduceNeg, Int.reduceAdd, Int.reduceSub, Int.reduceToNat]
    iterate 2 ((with_reducible refine WW (by decide) ?_); refine unr ?_; try simp only [YY, ↓reduceIte, Nat.reduceEqDiff, Nat.reduceAdd, Nat.reduceLeDiff, reduceCtorEq, Int.reduceEq, Int.reduceLT, Int.reduceLE, Int.reduceNeg, Int.reduceAdd, Int.reduceSub, Int.reduceToNat])
    generalize hs : Store.push _ _ = s1
    have k1 : Kp σ s1 := by rw [← hs]; exact Kp.pushed _ _
    have g1 : s1.get σ.next = some (.cells 54 0 9 [[.int .i64 k, .str nm, .int .i64 n, .int .i64 ar, strs ps, .list (gs.map Cr.cells), .list (al.map altC), .list (bs.map bindC), .list (pk.map pickC)]]) := by rw [← hs]; simp [Store.push_get, Store.push_next]
    clear hs
    refine AWP_cut [1, 2] (fun _ : Unit => [strs gl, .ptr σ.next 0 0 0]) (fun _ s => s1 = s ∧ Hid (k = 2 → nm ∈ gl ∨ opS nm ≠ 0)) ?_ ?_
    · by_cases h2 : k = 2
      · refine raw ?_
        repeat (first | (with_reducible refine unr ?_; try simp only [YY, ↓reduceIte, Nat.reduceEqDiff, Nat.reduceAdd, Nat.reduceLeDiff, reduceCtorEq, Int.reduceEq, Int.reduceLT, Int.reduceLE, Int.reduceNeg, Int.reduceAdd, Int.reduceSub, Int.reduceToNat, g1, h2]) | (with_reducible refine WW (by decide) ?_))
        refine (place_ok gl (by omega) nm _).mono ?_
        rintro _ s1 ⟨rfl, rfl⟩
        by_cases hp : placeS gl nm < 0
        · refine raw ?_
          repeat (first | (with_reducible refine unr ?_; try simp only [YY, ↓reduceIte, Nat.reduceEqDiff, Nat.reduceAdd, Nat.reduceLeDiff, reduceCtorEq, Int.reduceEq, Int.reduceLT, Int.reduceLE, Int.reduceNeg, Int.reduceAdd, Int.reduceSub, Int.reduceToNat, g1, hp]) | (with_reducible refine WW (by decide) ?_))
          refine (opE nm _).mono ?_
          rintro _ s1 ⟨rfl, rfl⟩
          by_cases ho : opS nm = 0
          · refine raw ?_
            repeat (first | (with_reducible refine unr ?_; try simp only [YY, ↓reduceIte, Nat.reduceEqDiff, Nat.reduceAdd, Nat.reduceLeDiff, reduceCtorEq, Int.reduceEq, Int.reduceLT, Int.reduceLE, Int.reduceNeg, Int.reduceAdd, Int.reduceSub, Int.reduceToNat, ho]) | (with_reducible refine WW (by decide) ?_))
            exact FP.same k1 (RE.f fun hh => ((nd_iff.1 hh).1 (by first | rfl | exact h2)).elim (placeS_lt.1 hp) (fun q => q ho)) (.bool _)
          · refine raw ?_
            repeat (first | (with_reducible refine unr ?_; try simp only [YY, ↓reduceIte, Nat.reduceEqDiff, Nat.reduceAdd, Nat.reduceLeDiff, reduceCtorEq, Int.reduceEq, Int.reduceLT, Int.reduceLE, Int.reduceNeg, Int.reduceAdd, Int.reduceSub, Int.reduceToNat, ho]) | (with_reducible refine WW (by decide) ?_))
            exact ⟨(), ⟨fun _ => .inr ho⟩⟩
        · refine raw ?_
          repeat (first | (with_reducible refine unr ?_; try simp only [YY, ↓reduceIte, Nat.reduceEqDiff, Nat.reduceAdd, Nat.reduceLeDiff, reduceCtorEq, Int.reduceEq, Int.reduceLT, Int.reduceLE, Int.reduceNeg, Int.reduceAdd, Int.reduceSub, Int.reduceToNat, g1, hp]) | (with_reducible refine WW (by decide) ?_))
          exact ⟨(), ⟨fun _ => .inl (placeS_ge.1 (by omega))⟩⟩
      · refine raw ?_
        repeat (first | (with_reducible refine unr ?_; try simp only [YY, ↓reduceIte, Nat.reduceEqDiff, Nat.reduceAdd, Nat.reduceLeDiff, reduceCtorEq, Int.reduceEq, Int.reduceLT, Int.reduceLE, Int.reduceNeg, Int.reduceAdd, Int.reduceSub, Int.reduceToNat, g1, h2]) | (with_reducible refine WW (by decide) ?_))
        exact ⟨(), ⟨fun e => by first | exact e.elim | exact absurd e h2⟩⟩
    rintro _ _ ⟨rfl, h2⟩
    refine AWP_cut [1, 2] (fun _ : Unit => [strs gl, .ptr σ.next 0 0 0]) (fun _ s => s1 = s ∧ Hid (∀ x, x ∈ gs → x.Nd gl)) ?_ ?_
    · refine raw ?_
      repeat (first | (with_reducible refine unr ?_; try simp only [YY, ↓reduceIte, Nat.reduceEqDiff, Nat.reduceAdd, Nat.reduceLeDiff, reduceCtorEq, Int.reduceEq, Int.reduceLT, Int.reduceLE, Int.reduceNeg, Int.reduceAdd, Int.reduceSub, Int.reduceToNat]) | (with_reducible refine WW (by decide) ?_))
      refine AWP_while [1, 2, 5] (fun i : Nat => gs.length - i) (fun i => [strs gl, .ptr σ.next 0 0 0, .int .i64 i]) (fun i t => s1 = t ∧ i ≤ gs.length ∧ Hid (∀ x, x ∈ gs.take i → x.Nd gl)) 0 ⟨rfl, by simp, ⟨by simp⟩⟩ ?_ ?_
      · refine raw ?_
        repeat (first | (with_reducible refine unr ?_; try simp only [YY, ↓reduceIte, Nat.reduceEqDiff, Nat.reduceAdd, Nat.reduceLeDiff, reduceCtorEq, Int.reduceEq, Int.reduceLT, Int.reduceLE, Int.reduceNeg, Int.reduceAdd, Int.reduceSub, Int.reduceToNat]) | (with_reducible refine WW (by decide) ?_))
        rfl
      rintro i _ ⟨rfl, hi, hall⟩
      have hw := wrap_succ (i := i) (by omega)
      by_cases hil : i < gs.length
      · have hil' : (i : Int) < (gs.length : Int) := by omega
        obtain ⟨x, hx⟩ : ∃ x, gs[i]? = some x := ⟨_, List.getElem?_eq_getElem hil⟩
        have hgx : (gs.map Cr.cells)[i]? = some (Cr.cells x) := by simp [hx]
        have hxm := List.mem_of_getElem? hx
        refine raw ?_
        repeat (first | (with_reducible refine unr ?_; try simp only [YY, ↓reduceIte, Nat.reduceEqDiff, Nat.reduceAdd, Nat.reduceLeDiff, reduceCtorEq, Int.reduceEq, Int.reduceLT, Int.reduceLE, Int.reduceNeg, Int.reduceAdd, Int.reduceSub, Int.reduceToNat, g1, hil', hgx, Cr.len, Cr.len, Cr.take9]) | (with_reducible refine WW (by decide) ?_))
        refine (i1 x hxm _).mono ?_
        rintro _ s1 ⟨⟨b, rfl, hb⟩, rfl⟩
        cases b with
        | false =>
          refine raw ?_
          repeat (first | (with_reducible refine unr ?_; try simp only [YY, ↓reduceIte, Nat.reduceEqDiff, Nat.reduceAdd, Nat.reduceLeDiff, reduceCtorEq, Int.reduceEq, Int.reduceLT, Int.reduceLE, Int.reduceNeg, Int.reduceAdd, Int.reduceSub, Int.reduceToNat]) | (with_reducible refine WW (by decide) ?_))
          exact FP.same k1 (RE.f fun hh => iff_f hb rfl ((nd_iff.1 hh).2.1 x hxm)) (.bool _)
        | true =>
          refine raw ?_
          repeat (first | (with_reducible refine unr ?_; try simp only [YY, ↓reduceIte, Nat.reduceEqDiff, Nat.reduceAdd, Nat.reduceLeDiff, reduceCtorEq, Int.reduceEq, Int.reduceLT, Int.reduceLE, Int.reduceNeg, Int.reduceAdd, Int.reduceSub, Int.reduceToNat, hw]) | (with_reducible refine WW (by decide) ?_))
          exact ⟨i + 1, rfl, ⟨by omega, ⟨all_succ (p := fun x => x.Nd gl) hall.out hx (hb.1 rfl)⟩⟩, by omega⟩
      have hil' : ¬ (i : Int) < (gs.length : Int) := by omega
      have hall := hall.out
      rw [List.take_of_length_le (by omega)] at hall
      refine raw ?_
      repeat (first | (with_reducible refine unr ?_; try simp only [YY, ↓reduceIte, Nat.reduceEqDiff, Nat.reduceAdd, Nat.reduceLeDiff, reduceCtorEq, Int.reduceEq, Int.reduceLT, Int.reduceLE, Int.reduceNeg, Int.reduceAdd, Int.reduceSub, Int.reduceToNat, g1, hil']) | (with_reducible refine WW (by decide) ?_))
      exact ⟨(), ⟨hall⟩⟩
    rintro _ _ ⟨rfl, q1⟩
    refine raw ?_
    repeat (first | (with_reducible refine unr ?_; try simp only [YY, ↓reduceIte, Nat.reduceEqDiff, Nat.reduceAdd, Nat.reduceLeDiff, reduceCtorEq, Int.reduceEq, Int.reduceLT, Int.reduceLE, Int.reduceNeg, Int.reduceAdd, Int.reduceSub, Int.reduceToNat]) | (with_reducible refine WW (by decide) ?_))
    refine AWP_while [1, 2, 6] (fun i : Nat => bs.length - i) (fun i => [strs gl, .ptr σ.next 0 0 0, .int .i64 i]) (fun i t => s1 = t ∧ i ≤ bs.length ∧ Hid (∀ x, x ∈ bs.take i → x.2.Nd gl)) 0 ⟨rfl, by simp, ⟨by simp⟩⟩ ?_ ?_
    · refine raw ?_
      repeat (first | (with_reducible refine unr ?_; try simp only [YY, ↓reduceIte, Nat.reduceEqDiff, Nat.reduceAdd, Nat.reduceLeDiff, reduceCtorEq, Int.reduceEq, Int.reduceLT, Int.reduceLE, Int.reduceNeg, Int.reduceAdd, Int.reduceSub, Int.reduceToNat]) | (with_reducible refine WW (by decide) ?_))
      rfl
    rintro i _ ⟨rfl, hi, hall⟩
    have hw := wrap_succ (i := i) (by omega)
    by_cases hil : i < bs.length
    · have hil' : (i : Int) < (bs.length : Int) := by omega
      obtain ⟨x, hx⟩ : ∃ x, bs[i]? = some x := ⟨_, List.getElem?_eq_getElem hil⟩
      have hgx : (bs.map bindC)[i]? = some (bindC x) := by simp [hx]
      have hxm := List.mem_of_getElem? hx
      refine raw ?_
      repeat (first | (with_reducible refine unr ?_; try simp only [YY, ↓reduceIte, Nat.reduceEqDiff, Nat.reduceAdd, Nat.reduceLeDiff, reduceCtorEq, Int.reduceEq, Int.reduceLT, Int.reduceLE, Int.reduceNeg, Int.reduceAdd, Int.reduceSub, Int.reduceToNat, g1, hil', hgx, bindC, Cr.len, Cr.take9]) | (with_reducible refine WW (by decide) ?_))
      refine (i3 x hxm _).mono ?_
      rintro _ s1 ⟨⟨b, rfl, hb⟩, rfl⟩
      cases b with
      | false =>
        refine raw ?_
        repeat (first | (with_reducible refine unr ?_; try simp only [YY, ↓reduceIte, Nat.reduceEqDiff, Nat.reduceAdd, Nat.reduceLeDiff, reduceCtorEq, Int.reduceEq, Int.reduceLT, Int.reduceLE, Int.reduceNeg, Int.reduceAdd, Int.reduceSub, Int.reduceToNat]) | (with_reducible refine WW (by decide) ?_))
        exact FP.same k1 (RE.f fun hh => iff_f hb rfl ((nd_iff.1 hh).2.2 x hxm)) (.bool _)
      | true =>
        refine raw ?_
        repeat (first | (with_reducible refine unr ?_; try simp only [YY, ↓reduceIte, Nat.reduceEqDiff, Nat.reduceAdd, Nat.reduceLeDiff, reduceCtorEq, Int.reduceEq, Int.reduceLT, Int.reduceLE, Int.reduceNeg, Int.reduceAdd, Int.reduceSub, Int.reduceToNat, hw]) | (with_reducible refine WW (by decide) ?_))
        exact ⟨i + 1, rfl, ⟨by omega, ⟨all_succ (p := fun x => x.2.Nd gl) hall.out hx (hb.1 rfl)⟩⟩, by omega⟩
    have hil' : ¬ (i : Int) < (bs.length : Int) := by omega
    have hall := hall.out
    rw [List.take_of_length_le (by omega)] at hall
    refine raw ?_
    repeat (first | (with_reducible refine unr ?_; try simp only [YY, ↓reduceIte, Nat.reduceEqDiff, Nat.reduceAdd, Nat.reduceLeDiff, reduceCtorEq, Int.reduceEq, Int.reduceLT, Int.reduceLE, Int.reduceNeg, Int.reduceAdd, Int.reduceSub, Int.reduceToNat, g1, hil']) | (with_reducible refine WW (by decide) ?_))
    exact FP.same k1 (RE.t (nd_iff.2 ⟨h2.out, q1.out, hall⟩)) (.bool _)
set_option maxHeartbeats 1000000 in
theorem shaped_ok (e : Cr) (l : List Sup) (hb : bulkS l + e.bulk ≤ 10000000) (σ : Store) : ACalls Try.prog 123 [.agg e.cells, .list (l.map supC)] σ fun r s => (∃ k : Nat, xs k ∉ l.map (·.nm) ∧ RE (FlatE (l ++ [moreS e (xs k)])) r) ∧ s = σ := by
  have hll := lenS l
  refine ACalls_fp (p := fun r => ∃ k : Nat, xs k ∉ l.map (·.nm) ∧ RE (FlatE (l ++ [moreS e (xs k)])) r) ?_
  refine in123 (by simp) ?_
  unfold c123
  try simp only [YY, ↓reduceIte, Nat.reduceEqDiff, Nat.reduceAdd, Nat.reduceLeDiff, reduceCtorEq, Int.reduceEq, Int.reduceLT, Int.reduceLE, Int.reduceNeg, Int.reduceAdd, Int.reduceSub, Int.reduceToNat, Cr.len]
  iterate 2 ((with_reducible refine WW (by decide) ?_); refine unr ?_; try simp only [YY, ↓reduceIte, Nat.reduceEqDiff, Nat.reduceAdd, Nat.reduceLeDiff, reduceCtorEq, Int.reduceEq, Int.reduceLT, Int.reduceLE, Int.reduceNeg, Int.reduceAdd, Int.reduceSub, Int.reduceToNat, Cr.len])
  generalize hs : Store.push _ _ = s1
  have k1 : Kp σ s1 := by rw [← hs]; exact Kp.pushed _ _
  have g1 : s1.get σ.next = some (.cells 54 0 9 [e.cells]) := by rw [← hs]; simp [Store.push_get, Store.push_next]
  clear hs
  try simp only [YY, ↓reduceIte, Nat.reduceEqDiff, Nat.reduceAdd, Nat.reduceLeDiff, reduceCtorEq, Int.reduceEq, Int.reduceLT, Int.reduceLE, Int.reduceNeg, Int.reduceAdd, Int.reduceSub, Int.reduceToNat]
  iterate 2 ((with_reducible refine WW (by decide) ?_); refine unr ?_; try simp only [YY, ↓reduceIte, Nat.reduceEqDiff, Nat.reduceAdd, Nat.reduceLeDiff, reduceCtorEq, Int.reduceEq, Int.reduceLT, Int.reduceLE, Int.reduceNeg, Int.reduceAdd, Int.reduceSub, Int.reduceToNat])
  refine AWP_cut [1, 2, 5] (fun k : Nat => [.list (l.map supC), .ptr σ.next 0 0 0, .str (xs k)]) (fun k s => s1 = s ∧ Hid (xs k ∉ l.map (·.nm)) ∧ k ≤ l.length) ?_ ?_
  · refine raw ?_
    repeat (first | (with_reducible refine unr ?_; try simp only [YY, ↓reduceIte, Nat.reduceEqDiff, Nat.reduceAdd, Nat.reduceLeDiff, reduceCtorEq, Int.reduceEq, Int.reduceLT, Int.reduceLE, Int.reduceNeg, Int.reduceAdd, Int.reduceSub, Int.reduceToNat]) | (with_reducible refine WW (by decide) ?_))
    refine AWP_while [1, 2, 5] (fun k : Nat => l.length + 1 - k) (fun k => [.list (l.map supC), .ptr σ.next 0 0 0, .str (xs k)]) (fun k t => s1 = t ∧ Hid (∀ j, j < k → xs j ∈ l.map (·.nm))) 0 ⟨rfl, ⟨by simp⟩⟩ ?_ ?_
    · refine raw ?_
      repeat (first | (with_reducible refine unr ?_; try simp only [YY, ↓reduceIte, Nat.reduceEqDiff, Nat.reduceAdd, Nat.reduceLeDiff, reduceCtorEq, Int.reduceEq, Int.reduceLT, Int.reduceLE, Int.reduceNeg, Int.reduceAdd, Int.reduceSub, Int.reduceToNat]) | (with_reducible refine WW (by decide) ?_))
      rfl
    rintro k _ ⟨rfl, hk⟩
    have hkl := xs_bound hk.out
    rw [List.length_map] at hkl
    refine raw ?_
    repeat (first | (with_reducible refine unr ?_; try simp only [YY, ↓reduceIte, Nat.reduceEqDiff, Nat.reduceAdd, Nat.reduceLeDiff, reduceCtorEq, Int.reduceEq, Int.reduceLT, Int.reduceLE, Int.reduceNeg, Int.reduceAdd, Int.reduceSub, Int.reduceToNat]) | (with_reducible refine WW (by decide) ?_))
    refine (namesS15 l (by omega) _).mono ?_
    rintro _ s1 ⟨rfl, rfl⟩
    refine raw ?_
    repeat (first | (with_reducible refine unr ?_; try simp only [YY, ↓reduceIte, Nat.reduceEqDiff, Nat.reduceAdd, Nat.reduceLeDiff, reduceCtorEq, Int.reduceEq, Int.reduceLT, Int.reduceLE, Int.reduceNeg, Int.reduceAdd, Int.reduceSub, Int.reduceToNat]) | (with_reducible refine WW (by decide) ?_))
    refine (place_ok (l.map Sup.nm) (by simp; omega) (xs k) _).mono ?_
    rintro _ s1 ⟨rfl, rfl⟩
    by_cases hp : 0 ≤ placeS (l.map Sup.nm) (xs k)
    · have hm := placeS_ge.1 hp
      have hk2 : ∀ j, j < k + 1 → xs j ∈ l.map (·.nm) := fun j hj => by
        by_cases e : j = k
        · subst e; exact hm
        · exact hk.out j (by omega)
      have hkl2 := xs_bound hk2
      rw [List.length_map] at hkl2
      have hz := xs_size k
      have zz : (⟨#[120]⟩ : ByteArray).size = 1 := rfl
      have z3 : k + 1 + 1 ≤ maxLen := by simp only [maxLen]; omega
      refine raw ?_
      repeat (first | (with_reducible refine unr ?_; try simp only [YY, ↓reduceIte, Nat.reduceEqDiff, Nat.reduceAdd, Nat.reduceLeDiff, reduceCtorEq, Int.reduceEq, Int.reduceLT, Int.reduceLE, Int.reduceNeg, Int.reduceAdd, Int.reduceSub, Int.reduceToNat, hp, hz, zz, z3]) | (with_reducible refine WW (by decide) ?_))
      exact ⟨k + 1, rfl, ⟨hk2⟩, by omega⟩
    · refine raw ?_
      repeat (first | (with_reducible refine unr ?_; try simp only [YY, ↓reduceIte, Nat.reduceEqDiff, Nat.reduceAdd, Nat.reduceLeDiff, reduceCtorEq, Int.reduceEq, Int.reduceLT, Int.reduceLE, Int.reduceNeg, Int.reduceAdd, Int.reduceSub, Int.reduceToNat, hp]) | (with_reducible refine WW (by decide) ?_))
      exact ⟨k, rfl, ⟨fun hm => hp (placeS_ge.2 hm)⟩, hkl⟩
  rintro k _ ⟨rfl, hk, hkl⟩
  refine raw ?_
  repeat (first | (with_reducible refine unr ?_; try simp only [YY, ↓reduceIte, Nat.reduceEqDiff, Nat.reduceAdd, Nat.reduceLeDiff, reduceCtorEq, Int.reduceEq, Int.reduceLT, Int.reduceLE, Int.reduceNeg, Int.reduceAdd, Int.reduceSub, Int.reduceToNat]) | (with_reducible refine WW (by decide) ?_))
  refine AWP_while [1, 2, 5, 6, 7] (fun y : AV × Nat => l.length - y.2) (fun y => [.list (l.map supC), .ptr σ.next 0 0 0, .str (xs k), y.1, .int .i64 y.2]) (fun y t => y.2 ≤ l.length ∧ Grow s1 t y.1 71 11 ((l.take y.2).map supC)) (.nils, 0) ⟨by simp, by simpa using Grow.start s1 71 11⟩ ?_ ?_
  · refine raw ?_
    repeat (first | (with_reducible refine unr ?_; try simp only [YY, ↓reduceIte, Nat.reduceEqDiff, Nat.reduceAdd, Nat.reduceLeDiff, reduceCtorEq, Int.reduceEq, Int.reduceLT, Int.reduceLE, Int.reduceNeg, Int.reduceAdd, Int.reduceSub, Int.reduceToNat]) | (with_reducible refine WW (by decide) ?_))
    rfl
  rintro ⟨v, i⟩ t ⟨hi, hG⟩
  simp only at hi hG
  have hw := wrap_succ (i := i) (by omega)
  by_cases hil : i < l.length
  · have hil' : (i : Int) < (l.length : Int) := by omega
    obtain ⟨x, hx⟩ : ∃ x, l[i]? = some x := ⟨_, List.getElem?_eq_getElem hil⟩
    have hgx : (l.map supC)[i]? = some (supC x) := by simp [hx]
    have hsl := supC_len x
    have hst := supC_t11 x
    refine raw ?_
    repeat (first | (with_reducible refine unr ?_; try simp only [YY, ↓reduceIte, Nat.reduceEqDiff, Nat.reduceAdd, Nat.reduceLeDiff, reduceCtorEq, Int.reduceEq, Int.reduceLT, Int.reduceLE, Int.reduceNeg, Int.reduceAdd, Int.reduceSub, Int.reduceToNat, hil', hgx, hsl, hst]) | (with_reducible refine WW (by decide) ?_))
    refine ok_grow hG (es2 := [supC x]) (by simp [hsl]) (by simp; omega) (by simp [maxLen]; omega) ?_
    intro v' t3 hG3 _ _
    refine raw ?_
    repeat (first | (with_reducible refine unr ?_; try simp only [YY, ↓reduceIte, Nat.reduceEqDiff, Nat.reduceAdd, Nat.reduceLeDiff, reduceCtorEq, Int.reduceEq, Int.reduceLT, Int.reduceLE, Int.reduceNeg, Int.reduceAdd, Int.reduceSub, Int.reduceToNat, hw]) | (with_reducible refine WW (by decide) ?_))
    refine ⟨(v', i + 1), rfl, ⟨by simp only; omega, ?_⟩, by simp only; omega⟩
    simp only [take_succ_at hx, List.map_append]; exact hG3
  have hil' : ¬ (i : Int) < (l.length : Int) := by omega
  rw [List.take_of_length_le (by omega)] at hG
  have g2 := hG.kp.get g1
  have hrl : (AV.str (xs k) :: .nils :: e.cells).length = 11 := by simp [Cr.len]
  refine raw ?_
  repeat (first | (with_reducible refine unr ?_; try simp only [YY, ↓reduceIte, Nat.reduceEqDiff, Nat.reduceAdd, Nat.reduceLeDiff, reduceCtorEq, Int.reduceEq, Int.reduceLT, Int.reduceLE, Int.reduceNeg, Int.reduceAdd, Int.reduceSub, Int.reduceToNat, hil', g2, Cr.len, Cr.take9]) | (with_reducible refine WW (by decide) ?_))
  refine ok_grow hG (es2 := [.str (xs k) :: .nils :: e.cells]) (by simp [hrl, Cr.len]) (by simp; omega) (by simp [maxLen]; omega) ?_
  intro v4 s4 hG4 _ _
  refine raw ?_
  repeat (first | (with_reducible refine unr ?_; try simp only [YY, ↓reduceIte, Nat.reduceEqDiff, Nat.reduceAdd, Nat.reduceLeDiff, reduceCtorEq, Int.reduceEq, Int.reduceLT, Int.reduceLE, Int.reduceNeg, Int.reduceAdd, Int.reduceSub, Int.reduceToNat]) | (with_reducible refine WW (by decide) ?_))
  refine ACalls_frozeA hG4.sl (.cons .here .nil) fun s5 hn5 hg5 => ?_
  have k5 : Kp s1 s5 := ⟨by rw [hn5]; exact hG4.kp.next, fun j hj => by rw [hg5 j (fun hm => by have := hG4.fresh j hm; omega), hG4.kp.keep j hj]⟩
  refine ACalls_argsD (args' := [.list ((l ++ [moreS e (xs k)]).map supC)]) (.cons (.list (by rw [List.map_append]; exact LeDE.app (LeDE.rf _) (.cons (leD_more e (xs k)) .nil))) .nil) ?_
  have hbk : bulkS (l ++ [moreS e (xs k)]) ≤ 40000000 := by
    rw [bulkS_app, bulkS, bulkS]
    have := xs_size k
    simp only [moreS, List.length_nil]
    omega
  refine (rightSD _ hbk _).mono ?_
  rintro _ s5 ⟨⟨b1, rfl, hb1⟩, rfl⟩
  refine raw ?_
  repeat (first | (with_reducible refine unr ?_; try simp only [YY, ↓reduceIte, Nat.reduceEqDiff, Nat.reduceAdd, Nat.reduceLeDiff, reduceCtorEq, Int.reduceEq, Int.reduceLT, Int.reduceLE, Int.reduceNeg, Int.reduceAdd, Int.reduceSub, Int.reduceToNat]) | (with_reducible refine WW (by decide) ?_))
  exact FP.same (k1.trans k5) ⟨k, hk.out, _, rfl, hb1⟩ (.bool _)
/-- What may begin, as the document has it. -/
def StartD (e : Cr) (l : List Sup) (cons : List Con5) : Prop := OpenE l cons ∧ e.Kn (glOf l cons) ∧ e.Fl false ∧ e.Nd (l.map (·.nm)) ∧ ∃ k, xs k ∉ l.map (·.nm) ∧ FlatE (l ++ [moreS e (xs k)])
/-- Which name is taken, does not matter. -/
def AnyK (e : Cr) (l : List Sup) : Prop := FlatE l → e.Fl false → ∀ k k', xs k ∉ l.map (·.nm) → xs k' ∉ l.map (·.nm) → FlatE (l ++ [moreS e (xs k)]) → e.Nd (l.map (·.nm)) → FlatE (l ++ [moreS e (xs k')])
set_option maxHeartbeats 1000000 in
theorem rightStart_ok (e : Cr) (l : List Sup) (cons : List Con5) (hb : bulkS l + e.bulk ≤ 10000000) (hl : l.length + cons.length ≤ 100000000) (hany : AnyK e l) (σ : Store) :
    ACalls Try.prog 68 [.agg e.cells, .list (l.map supC), .list (cons.map con5C)] σ fun r s => (∃ b : Bool, r = .bool b ∧ (b = true ↔ StartD e l cons)) ∧ s = σ := by
  have hll := lenS l
  have hgc : (glOf l cons).con.length ≤ 100000000 := by simp [glOf]; omega
  refine ACalls_fp (p := RE (StartD e l cons)) ?_
  refine in68 (by simp) ?_
  unfold c68
  try simp only [YY, ↓reduceIte, Nat.reduceEqDiff, Nat.reduceAdd, Nat.reduceLeDiff, reduceCtorEq, Int.reduceEq, Int.reduceLT, Int.reduceLE, Int.reduceNeg, Int.reduceAdd, Int.reduceSub, Int.reduceToNat, Cr.len]
  iterate 2 ((with_reducible refine WW (by decide) ?_); refine unr ?_; try simp only [YY, ↓reduceIte, Nat.reduceEqDiff, Nat.reduceAdd, Nat.reduceLeDiff, reduceCtorEq, Int.reduceEq, Int.reduceLT, Int.reduceLE, Int.reduceNeg, Int.reduceAdd, Int.reduceSub, Int.reduceToNat, Cr.len])
  generalize hs : Store.push _ _ = s1
  have k1 : Kp σ s1 := by rw [← hs]; exact Kp.pushed _ _
  have g1 : s1.get σ.next = some (.cells 54 0 9 [e.cells]) := by rw [← hs]; simp [Store.push_get, Store.push_next]
  clear hs
  refine raw ?_
  repeat (first | (with_reducible refine unr ?_; try simp only [YY, ↓reduceIte, Nat.reduceEqDiff, Nat.reduceAdd, Nat.reduceLeDiff, reduceCtorEq, Int.reduceEq, Int.reduceLT, Int.reduceLE, Int.reduceNeg, Int.reduceAdd, Int.reduceSub, Int.reduceToNat, g1, Cr.len, Cr.take9]) | (with_reducible refine WW (by decide) ?_))
  refine (rightCD l cons (by omega) hl _).mono ?_
  rintro _ s1 ⟨⟨b, rfl, hb1⟩, rfl⟩
  cases b with
  | false =>
    refine raw ?_
    repeat (first | (with_reducible refine unr ?_; try simp only [YY, ↓reduceIte, Nat.reduceEqDiff, Nat.reduceAdd, Nat.reduceLeDiff, reduceCtorEq, Int.reduceEq, Int.reduceLT, Int.reduceLE, Int.reduceNeg, Int.reduceAdd, Int.reduceSub, Int.reduceToNat, g1, Cr.len, Cr.take9]) | (with_reducible refine WW (by decide) ?_))
    exact FP.same k1 (RE.f fun hh => iff_f hb1 rfl hh.1) (.bool _)
  | true =>
  refine raw ?_
  repeat (first | (with_reducible refine unr ?_; try simp only [YY, ↓reduceIte, Nat.reduceEqDiff, Nat.reduceAdd, Nat.reduceLeDiff, reduceCtorEq, Int.reduceEq, Int.reduceLT, Int.reduceLE, Int.reduceNeg, Int.reduceAdd, Int.reduceSub, Int.reduceToNat, g1, Cr.len, Cr.take9]) | (with_reducible refine WW (by decide) ?_))
  refine (of_ok l cons hl _).mono ?_
  rintro _ s1 ⟨rfl, rfl⟩
  refine raw ?_
  repeat (first | (with_reducible refine unr ?_; try simp only [YY, ↓reduceIte, Nat.reduceEqDiff, Nat.reduceAdd, Nat.reduceLeDiff, reduceCtorEq, Int.reduceEq, Int.reduceLT, Int.reduceLE, Int.reduceNeg, Int.reduceAdd, Int.reduceSub, Int.reduceToNat, g1, Cr.len, Cr.take9]) | (with_reducible refine WW (by decide) ?_))
  refine (knownDE (glOf l cons) hgc e (by omega) _).mono ?_
  rintro _ s1 ⟨⟨b, rfl, hb2⟩, rfl⟩
  cases b with
  | false =>
    refine raw ?_
    repeat (first | (with_reducible refine unr ?_; try simp only [YY, ↓reduceIte, Nat.reduceEqDiff, Nat.reduceAdd, Nat.reduceLeDiff, reduceCtorEq, Int.reduceEq, Int.reduceLT, Int.reduceLE, Int.reduceNeg, Int.reduceAdd, Int.reduceSub, Int.reduceToNat, g1, Cr.len, Cr.take9]) | (with_reducible refine WW (by decide) ?_))
    exact FP.same k1 (RE.f fun hh => iff_f hb2 rfl hh.2.1) (.bool _)
  | true =>
  refine raw ?_
  repeat (first | (with_reducible refine unr ?_; try simp only [YY, ↓reduceIte, Nat.reduceEqDiff, Nat.reduceAdd, Nat.reduceLeDiff, reduceCtorEq, Int.reduceEq, Int.reduceLT, Int.reduceLE, Int.reduceNeg, Int.reduceAdd, Int.reduceSub, Int.reduceToNat, g1, Cr.len, Cr.take9]) | (with_reducible refine WW (by decide) ?_))
  refine (flatDE e (by omega) false _).mono ?_
  rintro _ s1 ⟨⟨b, rfl, hb3⟩, rfl⟩
  cases b with
  | false =>
    refine raw ?_
    repeat (first | (with_reducible refine unr ?_; try simp only [YY, ↓reduceIte, Nat.reduceEqDiff, Nat.reduceAdd, Nat.reduceLeDiff, reduceCtorEq, Int.reduceEq, Int.reduceLT, Int.reduceLE, Int.reduceNeg, Int.reduceAdd, Int.reduceSub, Int.reduceToNat, g1, Cr.len, Cr.take9]) | (with_reducible refine WW (by decide) ?_))
    exact FP.same k1 (RE.f fun hh => iff_f hb3 rfl hh.2.2.1) (.bool _)
  | true =>
  refine raw ?_
  repeat (first | (with_reducible refine unr ?_; try simp only [YY, ↓reduceIte, Nat.reduceEqDiff, Nat.reduceAdd, Nat.reduceLeDiff, reduceCtorEq, Int.reduceEq, Int.reduceLT, Int.reduceLE, Int.reduceNeg, Int.reduceAdd, Int.reduceSub, Int.reduceToNat, g1, Cr.len, Cr.take9]) | (with_reducible refine WW (by decide) ?_))
  refine (namesS15 l (by omega) _).mono ?_
  rintro _ s1 ⟨rfl, rfl⟩
  refine raw ?_
  repeat (first | (with_reducible refine unr ?_; try simp only [YY, ↓reduceIte, Nat.reduceEqDiff, Nat.reduceAdd, Nat.reduceLeDiff, reduceCtorEq, Int.reduceEq, Int.reduceLT, Int.reduceLE, Int.reduceNeg, Int.reduceAdd, Int.reduceSub, Int.reduceToNat, g1, Cr.len, Cr.take9]) | (with_reducible refine WW (by decide) ?_))
  refine (namedDE (l.map Sup.nm) (by simp; omega) e (by omega) _).mono ?_
  rintro _ s1 ⟨⟨b, rfl, hb4⟩, rfl⟩
  cases b with
  | false =>
    refine raw ?_
    repeat (first | (with_reducible refine unr ?_; try simp only [YY, ↓reduceIte, Nat.reduceEqDiff, Nat.reduceAdd, Nat.reduceLeDiff, reduceCtorEq, Int.reduceEq, Int.reduceLT, Int.reduceLE, Int.reduceNeg, Int.reduceAdd, Int.reduceSub, Int.reduceToNat, g1, Cr.len, Cr.take9]) | (with_reducible refine WW (by decide) ?_))
    exact FP.same k1 (RE.f fun hh => iff_f hb4 rfl hh.2.2.2.1) (.bool _)
  | true =>
  refine raw ?_
  repeat (first | (with_reducible refine unr ?_; try simp only [YY, ↓reduceIte, Nat.reduceEqDiff, Nat.reduceAdd, Nat.reduceLeDiff, reduceCtorEq, Int.reduceEq, Int.reduceLT, Int.reduceLE, Int.reduceNeg, Int.reduceAdd, Int.reduceSub, Int.reduceToNat, g1, Cr.len, Cr.take9]) | (with_reducible refine WW (by decide) ?_))
  refine (shaped_ok e l hb _).mono ?_
  rintro _ s1 ⟨⟨k, hk, b, rfl, hb5⟩, rfl⟩
  refine raw ?_
  repeat (first | (with_reducible refine unr ?_; try simp only [YY, ↓reduceIte, Nat.reduceEqDiff, Nat.reduceAdd, Nat.reduceLeDiff, reduceCtorEq, Int.reduceEq, Int.reduceLT, Int.reduceLE, Int.reduceNeg, Int.reduceAdd, Int.reduceSub, Int.reduceToNat, g1, Cr.len, Cr.take9]) | (with_reducible refine WW (by decide) ?_))
  refine FP.same k1 (RE.mk ⟨fun h => ⟨hb1.1 rfl, hb2.1 rfl, hb3.1 rfl, hb4.1 rfl, k, hk, hb5.1 h⟩, ?_⟩) (.bool _)
  rintro ⟨_, _, _, hn, k', hk', hf⟩
  exact hb5.2 (hany (hb1.1 rfl).1 (hb3.1 rfl) k' k hk' hk hf hn)
end Go.Proofs.Ytjjbjibbjbbeaaa
/- The document's instructions: small parts. -/
set_option linter.unusedVariables false
set_option linter.unusedSimpArgs false
namespace Go.AL
/-- A row of instructions. -/
def rowC (l : List Ins) : AV := .list (l.map rawC)
theorem rowC_cln {n : Nat} (l : List Ins) : Cln n (rowC l) := .list' fun e he c hc => by
  obtain ⟨p, _, rfl⟩ := List.mem_map.1 he
  exact rawC_cln p c hc
theorem rawC_t4 (i : Ins) : List.take 4 (rawC i) = rawC i := rfl
theorem findS_snoc (p : ByteArray × Int) (s : ByteArray) : ∀ l : Lv, findS (l ++ [p]) s = @ite _ (p.1 = s) (Classical.propDecidable _) p.2 (findS l s)
  | [] => by
    have hn : ¬ ∃ q ∈ ([] : Lv), q.1 = s := by rintro ⟨q, hq, _⟩; simp at hq
    simp only [List.nil_append, findS, hn, if_false]
  | q :: r => by
    rw [List.cons_append, findS, findS_snoc p s r, findS]
    by_cases h : p.1 = s
    · rw [if_pos ⟨p, by simp, h⟩, if_pos h, if_pos h]
    · rw [if_neg h, if_neg h]
      by_cases h2 : ∃ q ∈ r, q.1 = s
      · rw [if_pos h2, if_pos (by obtain ⟨x, hx, e⟩ := h2; exact ⟨x, by simp [hx], e⟩)]
      · rw [if_neg h2, if_neg (by rintro ⟨x, hx, e⟩; rcases List.mem_append.1 hx with hx | hx; exact h2 ⟨x, hx, e⟩; simp at hx; subst hx; exact h e)]
theorem lvC_len (p : ByteArray × Int) : (lvC p).length = 2 := rfl
theorem lvC_t2 (p : ByteArray × Int) : List.take 2 (lvC p) = lvC p := rfl
theorem cln_lv {n : Nat} (l : Lv) : Cln n (.list (l.map lvC)) := .list' fun e he c hc => by
  obtain ⟨p, _, rfl⟩ := List.mem_map.1 he
  simp only [lvC, List.mem_cons, List.not_mem_nil, or_false] at hc
  rcases hc with rfl | rfl
  · exact .str _
  · exact .int _ _
theorem flat_take (rows : List (List Ins)) (i : Nat) : (rows.take i).flatten.length ≤ rows.flatten.length := by
  have : rows.flatten = (rows.take i).flatten ++ (rows.drop i).flatten := by rw [← List.flatten_append, List.take_append_drop]
  rw [this, List.length_append]; omega
theorem flat_at {rows : List (List Ins)} {i : Nat} {r : List Ins} (h : rows[i]? = some r) : (rows.take (i + 1)).flatten = (rows.take i).flatten ++ r := by
  rw [List.take_add_one, h]; simp
end Go.AL
namespace Go.Proofs.Ytjjbjibbjbbeaaa
open Go.AL
theorem one_ok (op k : Int) (σ : Store) : ACalls Try.prog 72 [.int .i64 op, .int .i64 k] σ fun r s => r = rowC [ik op k] ∧ s = σ := by
  refine in72 (by simp) ?_
  unfold c72
  refine raw ?_
  repeat (first | (with_reducible refine unr ?_; try simp only [YY, ↓reduceIte, Nat.reduceEqDiff, Nat.reduceAdd, Nat.reduceLeDiff, reduceCtorEq, Int.reduceEq, Int.reduceLT, Int.reduceLE, Int.reduceNeg, Int.reduceAdd, Int.reduceSub, Int.reduceToNat]) | (with_reducible refine WW (by decide) ?_))
  rfl
theorem level_ok (lv : Lv) (hl : lv.length ≤ 100000000) (k : ByteArray) (σ : Store) : ACalls Try.prog 124 [.list (lv.map lvC), .str k] σ fun r s => r = .int .i64 (findS lv k) ∧ s = σ := by
  refine in124 (by simp) ?_
  unfold c124
  refine raw ?_
  repeat (first | (with_reducible refine unr ?_; try simp only [YY, ↓reduceIte, Nat.reduceEqDiff, Nat.reduceAdd, Nat.reduceLeDiff, reduceCtorEq, Int.reduceEq, Int.reduceLT, Int.reduceLE, Int.reduceNeg, Int.reduceAdd, Int.reduceSub, Int.reduceToNat]) | (with_reducible refine WW (by decide) ?_))
  refine AWP_while [0, 1, 5, 6] (fun i : Nat => lv.length - i) (fun i => [.list (lv.map lvC), .str k, .int .i64 (findS (lv.take i) k), .int .i64 i]) (fun i t => t = σ ∧ i ≤ lv.length) 0 ⟨rfl, by simp⟩ ?_ ?_
  · refine raw ?_
    repeat (first | (with_reducible refine unr ?_; try simp only [YY, ↓reduceIte, Nat.reduceEqDiff, Nat.reduceAdd, Nat.reduceLeDiff, reduceCtorEq, Int.reduceEq, Int.reduceLT, Int.reduceLE, Int.reduceNeg, Int.reduceAdd, Int.reduceSub, Int.reduceToNat]) | (with_reducible refine WW (by decide) ?_))
    rfl
  rintro i t ⟨rfl, hi⟩
  have hw := wrap_succ (i := i) (by omega)
  by_cases hil : i < lv.length
  · have hil' : (i : Int) < (lv.length : Int) := by omega
    obtain ⟨x, hx⟩ : ∃ x, lv[i]? = some x := ⟨_, List.getElem?_eq_getElem hil⟩
    have hg : (lv.map lvC)[i]? = some (lvC x) := by simp [hx]
    have hst : findS (lv.take (i + 1)) k = @ite _ (x.1 = k) (Classical.propDecidable _) x.2 (findS (lv.take i) k) := by rw [take_succ_at hx, findS_snoc]
    by_cases hk : x.1 = k
    · refine raw ?_
      repeat (first | (with_reducible refine unr ?_; try simp only [YY, ↓reduceIte, Nat.reduceEqDiff, Nat.reduceAdd, Nat.reduceLeDiff, reduceCtorEq, Int.reduceEq, Int.reduceLT, Int.reduceLE, Int.reduceNeg, Int.reduceAdd, Int.reduceSub, Int.reduceToNat, hil', hg, lvC, hk, hw]) | (with_reducible refine WW (by decide) ?_))
      exact ⟨i + 1, by rw [hst, if_pos hk], by omega, by omega⟩
    · refine raw ?_
      repeat (first | (with_reducible refine unr ?_; try simp only [YY, ↓reduceIte, Nat.reduceEqDiff, Nat.reduceAdd, Nat.reduceLeDiff, reduceCtorEq, Int.reduceEq, Int.reduceLT, Int.reduceLE, Int.reduceNeg, Int.reduceAdd, Int.reduceSub, Int.reduceToNat, hil', hg, lvC, hk, hw]) | (with_reducible refine WW (by decide) ?_))
      exact ⟨i + 1, by rw [hst, if_neg hk], by omega, by omega⟩
  · have hil' : ¬ (i : Int) < (lv.length : Int) := by omega
    rw [List.take_of_length_le (by omega)]
    refine raw ?_
    repeat (first | (with_reducible refine unr ?_; try simp only [YY, ↓reduceIte, Nat.reduceEqDiff, Nat.reduceAdd, Nat.reduceLeDiff, reduceCtorEq, Int.reduceEq, Int.reduceLT, Int.reduceLE, Int.reduceNeg, Int.reduceAdd, Int.reduceSub, Int.reduceToNat, hil']) | (with_reducible refine WW (by decide) ?_))
theorem operD (g : Gl) (hg : g.sup.length + g.con.length ≤ 1000000000) (op : Int) (h0 : -100 ≤ op) (h1 : op ≤ 100) (σ : Store) : ACalls Try.prog 127 [.agg (glR g), .int .i64 op] σ fun r s => r = .int .i64 (operS g op) ∧ s = σ := by
  refine ACalls_fp (p := fun r => r = .int .i64 (operS g op)) ?_
  refine in127 (by simp) ?_
  unfold c127 glR
  have w1 : IntKind.i64.wrap ((g.sup.length : Int) + g.con.length) = (g.sup.length : Int) + g.con.length := wrap_of (by omega) (by omega)
  have w2 : IntKind.i64.wrap ((g.sup.length : Int) + g.con.length + op) = (g.sup.length : Int) + g.con.length + op := wrap_of (by omega) (by omega)
  have w3 : IntKind.i64.wrap ((g.sup.length : Int) + g.con.length + op - 1) = (g.sup.length : Int) + g.con.length + op - 1 := wrap_of (by omega) (by omega)
  refine raw ?_
  repeat (first | (with_reducible refine unr ?_; try simp only [YY, ↓reduceIte, Nat.reduceEqDiff, Nat.reduceAdd, Nat.reduceLeDiff, reduceCtorEq, Int.reduceEq, Int.reduceLT, Int.reduceLE, Int.reduceNeg, Int.reduceAdd, Int.reduceSub, Int.reduceToNat, w1, w2, w3]) | (with_reducible refine WW (by decide) ?_))
  exact FP.same (.pushed _ _) rfl (.int _ _)
theorem globD (g : Gl) (hg : g.sup.length + g.con.length ≤ 1000000000) (k : ByteArray) (σ : Store) : ACalls Try.prog 125 [.agg (glR g), .str k] σ fun r s => r = .int .i64 (globS g opS k) ∧ s = σ := by
  refine ACalls_fp (p := fun r => r = .int .i64 (globS g opS k)) ?_
  have hop := operD g hg (opS k) (by have := opS_bd k; omega) (by have := opS_bd k; omega)
  unfold glR at hop
  refine in125 (by simp) ?_
  unfold c125 glR
  refine raw ?_
  repeat (first | (with_reducible refine unr ?_; try simp only [YY, ↓reduceIte, Nat.reduceEqDiff, Nat.reduceAdd, Nat.reduceLeDiff, reduceCtorEq, Int.reduceEq, Int.reduceLT, Int.reduceLE, Int.reduceNeg, Int.reduceAdd, Int.reduceSub, Int.reduceToNat]) | (with_reducible refine WW (by decide) ?_))
  refine (place_ok g.sup (by omega) k _).mono ?_
  rintro _ s1 ⟨rfl, rfl⟩
  cases hi : idx g.sup k with
  | some i =>
    have hp : placeS g.sup k = i := by rw [placeS, hi]
    have hgl : globS g opS k = i := by rw [globS, hi]
    refine raw ?_
    repeat (first | (with_reducible refine unr ?_; try simp only [YY, ↓reduceIte, Nat.reduceEqDiff, Nat.reduceAdd, Nat.reduceLeDiff, reduceCtorEq, Int.reduceEq, Int.reduceLT, Int.reduceLE, Int.reduceNeg, Int.reduceAdd, Int.reduceSub, Int.reduceToNat, hp]) | (with_reducible refine WW (by decide) ?_))
    exact FP.same (.pushed _ _) (by rw [hgl]) (.int _ _)
  | none =>
    have hp : placeS g.sup k = -1 := by rw [placeS, hi]
    have hgl : globS g opS k = operS g (opS k) := by rw [globS, hi]
    refine raw ?_
    repeat (first | (with_reducible refine unr ?_; try simp only [YY, ↓reduceIte, Nat.reduceEqDiff, Nat.reduceAdd, Nat.reduceLeDiff, reduceCtorEq, Int.reduceEq, Int.reduceLT, Int.reduceLE, Int.reduceNeg, Int.reduceAdd, Int.reduceSub, Int.reduceToNat, hp]) | (with_reducible refine WW (by decide) ?_))
    refine (opE k _).mono ?_
    rintro _ s1 ⟨rfl, hs1⟩
    subst hs1
    refine raw ?_
    repeat (first | (with_reducible refine unr ?_; try simp only [YY, ↓reduceIte, Nat.reduceEqDiff, Nat.reduceAdd, Nat.reduceLeDiff, reduceCtorEq, Int.reduceEq, Int.reduceLT, Int.reduceLE, Int.reduceNeg, Int.reduceAdd, Int.reduceSub, Int.reduceToNat]) | (with_reducible refine WW (by decide) ?_))
    refine (hop _).mono ?_
    rintro _ s1 ⟨rfl, rfl⟩
    refine raw ?_
    repeat (first | (with_reducible refine unr ?_; try simp only [YY, ↓reduceIte, Nat.reduceEqDiff, Nat.reduceAdd, Nat.reduceLeDiff, reduceCtorEq, Int.reduceEq, Int.reduceLT, Int.reduceLE, Int.reduceNeg, Int.reduceAdd, Int.reduceSub, Int.reduceToNat]) | (with_reducible refine WW (by decide) ?_))
    exact FP.same (.pushed _ _) (by rw [hgl]) (.int _ _)
theorem few_ok (rows : List (List Ins)) (hr : rows.length ≤ 100000000) (hl : rows.flatten.length ≤ 100000000) (σ : Store) : ACalls Try.prog 71 [.list (rows.map fun r => [rowC r])] σ fun r s => r = rowC rows.flatten ∧ s = σ := by
  refine ACalls_fp (p := fun r => r = rowC rows.flatten) ?_
  refine in71 (by simp) ?_
  unfold c71 rowC
  refine raw ?_
  repeat (first | (with_reducible refine unr ?_; try simp only [YY, ↓reduceIte, Nat.reduceEqDiff, Nat.reduceAdd, Nat.reduceLeDiff, reduceCtorEq, Int.reduceEq, Int.reduceLT, Int.reduceLE, Int.reduceNeg, Int.reduceAdd, Int.reduceSub, Int.reduceToNat]) | (with_reducible refine WW (by decide) ?_))
  refine AWP_while [0, 3, 4] (fun y : AV × Nat => rows.length - y.2) (fun y => [.list (rows.map fun r => [AV.list (r.map rawC)]), y.1, .int .i64 y.2]) (fun y t => y.2 ≤ rows.length ∧ Grow σ t y.1 139 4 ((rows.take y.2).flatten.map rawC)) (.nils, 0) ⟨by simp, by simpa using Grow.start σ 139 4⟩ ?_ ?_
  · refine raw ?_
    repeat (first | (with_reducible refine unr ?_; try simp only [YY, ↓reduceIte, Nat.reduceEqDiff, Nat.reduceAdd, Nat.reduceLeDiff, reduceCtorEq, Int.reduceEq, Int.reduceLT, Int.reduceLE, Int.reduceNeg, Int.reduceAdd, Int.reduceSub, Int.reduceToNat]) | (with_reducible refine WW (by decide) ?_))
    rfl
  rintro ⟨v, i⟩ t ⟨hi, hG⟩
  simp only at hi hG
  have hw := wrap_succ (i := i) (by omega)
  by_cases hil : i < rows.length
  · have hil' : (i : Int) < (rows.length : Int) := by omega
    obtain ⟨x, hx⟩ : ∃ x, rows[i]? = some x := ⟨_, List.getElem?_eq_getElem hil⟩
    have hg : (rows.map fun r => [AV.list (r.map rawC)])[i]? = some [.list (x.map rawC)] := by simp [hx]
    have hfl := flat_take rows (i + 1)
    rw [flat_at hx, List.length_append] at hfl
    have hfx := flat_at hx
    refine raw ?_
    repeat (first | (with_reducible refine unr ?_; try simp only [YY, ↓reduceIte, Nat.reduceEqDiff, Nat.reduceAdd, Nat.reduceLeDiff, reduceCtorEq, Int.reduceEq, Int.reduceLT, Int.reduceLE, Int.reduceNeg, Int.reduceAdd, Int.reduceSub, Int.reduceToNat, hil']) | (with_reducible refine WW (by decide) ?_))
    refine AWP_while [0, 3, 4, 5] (fun y : AV × Nat => x.length - y.2) (fun y => [.list (rows.map fun r => [AV.list (r.map rawC)]), y.1, .int .i64 i, .int .i64 y.2]) (fun y t => y.2 ≤ x.length ∧ Grow σ t y.1 139 4 (((rows.take i).flatten ++ x.take y.2).map rawC)) (v, 0) ⟨by simp, by simpa using hG⟩ ?_ ?_
    · refine raw ?_
      repeat (first | (with_reducible refine unr ?_; try simp only [YY, ↓reduceIte, Nat.reduceEqDiff, Nat.reduceAdd, Nat.reduceLeDiff, reduceCtorEq, Int.reduceEq, Int.reduceLT, Int.reduceLE, Int.reduceNeg, Int.reduceAdd, Int.reduceSub, Int.reduceToNat]) | (with_reducible refine WW (by decide) ?_))
      rfl
    clear hG
    rintro ⟨v, j⟩ t ⟨hj, hG⟩
    simp only at hj hG
    have hwj := wrap_succ (i := j) (by omega)
    by_cases hjl : j < x.length
    · have hjl' : (j : Int) < (x.length : Int) := by omega
      obtain ⟨y, hy⟩ : ∃ y, x[j]? = some y := ⟨_, List.getElem?_eq_getElem hjl⟩
      have hgy : (x.map rawC)[j]? = some (rawC y) := by simp [hy]
      refine raw ?_
      repeat (first | (with_reducible refine unr ?_; try simp only [YY, ↓reduceIte, Nat.reduceEqDiff, Nat.reduceAdd, Nat.reduceLeDiff, reduceCtorEq, Int.reduceEq, Int.reduceLT, Int.reduceLE, Int.reduceNeg, Int.reduceAdd, Int.reduceSub, Int.reduceToNat, hg, hjl', hgy, rawC_len, rawC_t4]) | (with_reducible refine WW (by decide) ?_))
      refine ok_grow hG (es2 := [rawC y]) (by simp [rawC_len]) (by simp only [List.length_map, List.length_append, List.length_take, List.length_cons, List.length_nil]; omega) (by simp only [maxLen, List.length_map, List.length_append, List.length_take, List.length_cons, List.length_nil]; omega) ?_
      intro v' t3 hG3 _ _
      refine raw ?_
      repeat (first | (with_reducible refine unr ?_; try simp only [YY, ↓reduceIte, Nat.reduceEqDiff, Nat.reduceAdd, Nat.reduceLeDiff, reduceCtorEq, Int.reduceEq, Int.reduceLT, Int.reduceLE, Int.reduceNeg, Int.reduceAdd, Int.reduceSub, Int.reduceToNat, hwj]) | (with_reducible refine WW (by decide) ?_))
      refine ⟨(v', j + 1), rfl, ⟨by simp only; omega, ?_⟩, by simp only; omega⟩
      simp only [take_succ_at hy, ← List.append_assoc]
      rw [List.map_append]; exact hG3
    · have hjl' : ¬ (j : Int) < (x.length : Int) := by omega
      rw [List.take_of_length_le (l := x) (by omega)] at hG
      refine raw ?_
      repeat (first | (with_reducible refine unr ?_; try simp only [YY, ↓reduceIte, Nat.reduceEqDiff, Nat.reduceAdd, Nat.reduceLeDiff, reduceCtorEq, Int.reduceEq, Int.reduceLT, Int.reduceLE, Int.reduceNeg, Int.reduceAdd, Int.reduceSub, Int.reduceToNat, hg, hjl', hw]) | (with_reducible refine WW (by decide) ?_))
      exact ⟨(v, i + 1), rfl, ⟨by simp only; omega, by simp only [hfx]; exact hG⟩, by simp only; omega⟩
  · have hil' : ¬ (i : Int) < (rows.length : Int) := by omega
    rw [List.take_of_length_le (by omega)] at hG
    refine raw ?_
    repeat (first | (with_reducible refine unr ?_; try simp only [YY, ↓reduceIte, Nat.reduceEqDiff, Nat.reduceAdd, Nat.reduceLeDiff, reduceCtorEq, Int.reduceEq, Int.reduceLT, Int.reduceLE, Int.reduceNeg, Int.reduceAdd, Int.reduceSub, Int.reduceToNat, hil']) | (with_reducible refine WW (by decide) ?_))
    exact FP.mk (.list (rows.flatten.map rawC)) hG.sl .here rfl (rowC_cln _) hG.kp hG.fresh
theorem withD (lv : Lv) (l : List ByteArray) (fr : Int) (hl : lv.length + l.length ≤ 100000000) (h0 : -1000000000 ≤ fr) (h1 : fr ≤ 1000000000) (σ : Store) :
    ACalls Try.prog 128 [.list (lv.map lvC), strs l, .int .i64 fr, .int .i64 1] σ fun r s => r = .list ((withS lv l fr 1).map lvC) ∧ s = σ := by
  refine ACalls_fp (p := fun r => r = .list ((withS lv l fr 1).map lvC)) ?_
  refine in128 (by simp) ?_
  unfold c128
  refine raw ?_
  repeat (first | (with_reducible refine unr ?_; try simp only [YY, ↓reduceIte, Nat.reduceEqDiff, Nat.reduceAdd, Nat.reduceLeDiff, reduceCtorEq, Int.reduceEq, Int.reduceLT, Int.reduceLE, Int.reduceNeg, Int.reduceAdd, Int.reduceSub, Int.reduceToNat]) | (with_reducible refine WW (by decide) ?_))
  refine AWP_while [0, 1, 2, 3, 9, 10] (fun y : AV × Nat => lv.length - y.2) (fun y => [.list (lv.map lvC), strs l, .int .i64 fr, .int .i64 1, y.1, .int .i64 y.2]) (fun y t => y.2 ≤ lv.length ∧ Grow σ t y.1 258 2 ((lv.take y.2).map lvC)) (.nils, 0) ⟨by simp, by simpa using Grow.start σ 258 2⟩ ?_ ?_
  · refine raw ?_
    repeat (first | (with_reducible refine unr ?_; try simp only [YY, ↓reduceIte, Nat.reduceEqDiff, Nat.reduceAdd, Nat.reduceLeDiff, reduceCtorEq, Int.reduceEq, Int.reduceLT, Int.reduceLE, Int.reduceNeg, Int.reduceAdd, Int.reduceSub, Int.reduceToNat]) | (with_reducible refine WW (by decide) ?_))
    rfl
  rintro ⟨v, i⟩ t ⟨hi, hG⟩
  simp only at hi hG
  have hw := wrap_succ (i := i) (by omega)
  by_cases hil : i < lv.length
  · have hil' : (i : Int) < (lv.length : Int) := by omega
    obtain ⟨x, hx⟩ : ∃ x, lv[i]? = some x := ⟨_, List.getElem?_eq_getElem hil⟩
    have hg : (lv.map lvC)[i]? = some (lvC x) := by simp [hx]
    refine raw ?_
    repeat (first | (with_reducible refine unr ?_; try simp only [YY, ↓reduceIte, Nat.reduceEqDiff, Nat.reduceAdd, Nat.reduceLeDiff, reduceCtorEq, Int.reduceEq, Int.reduceLT, Int.reduceLE, Int.reduceNeg, Int.reduceAdd, Int.reduceSub, Int.reduceToNat, hil', hg, lvC_len, lvC_t2]) | (with_reducible refine WW (by decide) ?_))
    refine ok_grow hG (es2 := [lvC x]) (by simp [lvC_len]) (by simp; omega) (by simp [maxLen]; omega) ?_
    intro v' t3 hG3 _ _
    refine raw ?_
    repeat (first | (with_reducible refine unr ?_; try simp only [YY, ↓reduceIte, Nat.reduceEqDiff, Nat.reduceAdd, Nat.reduceLeDiff, reduceCtorEq, Int.reduceEq, Int.reduceLT, Int.reduceLE, Int.reduceNeg, Int.reduceAdd, Int.reduceSub, Int.reduceToNat, hw]) | (with_reducible refine WW (by decide) ?_))
    exact ⟨(v', i + 1), rfl, ⟨by simp only; omega, by simp only [take_succ_at hx, List.map_append]; exact hG3⟩, by simp only; omega⟩
  have hil' : ¬ (i : Int) < (lv.length : Int) := by omega
  rw [List.take_of_length_le (by omega)] at hG
  refine raw ?_
  repeat (first | (with_reducible refine unr ?_; try simp only [YY, ↓reduceIte, Nat.reduceEqDiff, Nat.reduceAdd, Nat.reduceLeDiff, reduceCtorEq, Int.reduceEq, Int.reduceLT, Int.reduceLE, Int.reduceNeg, Int.reduceAdd, Int.reduceSub, Int.reduceToNat, hil']) | (with_reducible refine WW (by decide) ?_))
  clear hw hil hil' hi
  refine AWP_while [1, 2, 3, 9, 11] (fun y : AV × Nat => l.length - y.2) (fun y => [strs l, .int .i64 fr, .int .i64 1, y.1, .int .i64 y.2]) (fun y t => y.2 ≤ l.length ∧ Grow σ t y.1 258 2 ((lv ++ nums 0 fr 1 (l.take y.2)).map lvC)) (v, 0) ⟨by simp, by simpa [nums] using hG⟩ ?_ ?_
  · refine raw ?_
    repeat (first | (with_reducible refine unr ?_; try simp only [YY, ↓reduceIte, Nat.reduceEqDiff, Nat.reduceAdd, Nat.reduceLeDiff, reduceCtorEq, Int.reduceEq, Int.reduceLT, Int.reduceLE, Int.reduceNeg, Int.reduceAdd, Int.reduceSub, Int.reduceToNat]) | (with_reducible refine WW (by decide) ?_))
    rfl
  clear hG
  rintro ⟨v, i⟩ t ⟨hi, hG⟩
  simp only at hi hG
  have hw := wrap_succ (i := i) (by omega)
  by_cases hil : i < l.length
  · have hil' : (i : Int) < (l.length : Int) := by omega
    obtain ⟨x, hx⟩ : ∃ x, l[i]? = some x := ⟨_, List.getElem?_eq_getElem hil⟩
    have hg := strs_get hx
    have w1 : IntKind.i64.wrap ((i : Int) * 1) = (i : Int) * 1 := wrap_of (by omega) (by omega)
    have w2 : IntKind.i64.wrap (fr + (i : Int) * 1) = fr + (i : Int) * 1 := wrap_of (by omega) (by omega)
    refine raw ?_
    repeat (first | (with_reducible refine unr ?_; try simp only [YY, ↓reduceIte, Nat.reduceEqDiff, Nat.reduceAdd, Nat.reduceLeDiff, reduceCtorEq, Int.reduceEq, Int.reduceLT, Int.reduceLE, Int.reduceNeg, Int.reduceAdd, Int.reduceSub, Int.reduceToNat, hil', hg, w1, w2]) | (with_reducible refine WW (by decide) ?_))
    refine ok_grow hG (es2 := [[.str x, .int .i64 (fr + (i : Int) * 1)]]) (by simp) (by simp [nums_len]; omega) (by simp [maxLen, nums_len]; omega) ?_
    intro v' t3 hG3 _ _
    refine raw ?_
    repeat (first | (with_reducible refine unr ?_; try simp only [YY, ↓reduceIte, Nat.reduceEqDiff, Nat.reduceAdd, Nat.reduceLeDiff, reduceCtorEq, Int.reduceEq, Int.reduceLT, Int.reduceLE, Int.reduceNeg, Int.reduceAdd, Int.reduceSub, Int.reduceToNat, hw]) | (with_reducible refine WW (by decide) ?_))
    refine ⟨(v', i + 1), rfl, ⟨by simp only; omega, ?_⟩, by simp only; omega⟩
    have hli : (l.take i).length = i := by rw [List.length_take]; omega
    simp only [take_succ_at hx, nums_app, hli, Nat.zero_add, nums, ← List.append_assoc]
    rw [List.map_append]; exact hG3
  · have hil' : ¬ (i : Int) < (l.length : Int) := by omega
    rw [List.take_of_length_le (by omega)] at hG
    refine raw ?_
    repeat (first | (with_reducible refine unr ?_; try simp only [YY, ↓reduceIte, Nat.reduceEqDiff, Nat.reduceAdd, Nat.reduceLeDiff, reduceCtorEq, Int.reduceEq, Int.reduceLT, Int.reduceLE, Int.reduceNeg, Int.reduceAdd, Int.reduceSub, Int.reduceToNat, hil']) | (with_reducible refine WW (by decide) ?_))
    exact FP.mk _ hG.sl .here rfl (cln_lv _) hG.kp hG.fresh
end Go.Proofs.Ytjjbjibbjbbeaaa
/- The document's instructions that make nodes. -/
set_option linter.unusedVariables false
set_option linter.unusedSimpArgs false
namespace Go.AL
/-- What may be made later. -/
inductive Cr.La (g : Gl) : Cr → Prop
  | mk {k : Int} {nm : ByteArray} {n ar : Int} {ps : List ByteArray} {gs : List Cr} {al : List (AltH × Cr)} {bs : List (ByteArray × Cr)} {pk : List (Int × Cr)} (hk : k = 1 ∨ k = 2 ∨ k = 3 ∨ k = 4 ∨ k = 5 ∨ k = 7 ∨ k = 9)
    (h4 : k = 4 → nm ∈ g.con.map (·.1)) (h9 : k = 9 → 1 ≤ n ∧ n ≤ 11) (h2 : k = 5 ∨ k = 9 → gs.length = 2) (h1 : k = 7 → gs.length = 1) (g1 : ∀ x, x ∈ gs → Cr.La g x) (g3 : ∀ x, x ∈ bs → Cr.La g x.2) : Cr.La g (.mk k nm n ar ps gs al bs pk)
theorem conIdx_place {g : Gl} {s : ByteArray} (h : s ∈ g.con.map (·.1)) : placeS (g.con.map (·.1)) s = conIdx g s := by
  unfold placeS conIdx
  cases hi : idx (g.con.map (·.1)) s with
  | none => exact absurd h (idx_none.1 hi)
  | some i => rfl
end Go.AL
namespace Go.Proofs.Ytjjbjibbjbbeaaa
open Go.AL
abbrev LaterD (g : Gl) (x : Cr) : Prop := ∀ (σ : Store) (lv : Lv) (d : Int), LvOK lv x.bulk → 0 ≤ d → d + 2 * x.bulk ≤ 100000000 → ACalls Try.prog 69 [.agg (glR g), .agg x.cells, .list (lv.map lvC), .int .i64 d] σ fun r s => r = rowC (latS g opS lv d x) ∧ s = σ
theorem bindsD (g : Gl) (bs : List (ByteArray × Cr)) (ih : ∀ x, x ∈ bs → LaterD g x.2) (σ : Store) (lv : Lv) (d : Int) (hlv : LvOK lv (Cr.bulkB bs - bs.length)) (hd0 : 0 ≤ d) (hd : d + 2 * Cr.bulkB bs ≤ 100000000) :
    ACalls Try.prog 130 [.agg (glR g), .list (bs.map bindC), .list (lv.map lvC), .int .i64 d] σ fun r s => r = rowC (ik 8 bs.length :: latB g opS lv (d + bs.length) bs.length bs) ∧ s = σ := by
  have hbl := Cr.lenB2 bs
  refine ACalls_fp (p := fun r => r = rowC (ik 8 bs.length :: latB g opS lv (d + bs.length) bs.length bs)) ?_
  refine in130 (by simp) ?_
  unfold c130
  try simp only [YY, ↓reduceIte, Nat.reduceEqDiff, Nat.reduceAdd, Nat.reduceLeDiff, reduceCtorEq, Int.reduceEq, Int.reduceLT, Int.reduceLE, Int.reduceNeg, Int.reduceAdd, Int.reduceSub, Int.reduceToNat, glR_len]
  iterate 2 ((with_reducible refine WW (by decide) ?_); refine unr ?_; try simp only [YY, ↓reduceIte, Nat.reduceEqDiff, Nat.reduceAdd, Nat.reduceLeDiff, reduceCtorEq, Int.reduceEq, Int.reduceLT, Int.reduceLE, Int.reduceNeg, Int.reduceAdd, Int.reduceSub, Int.reduceToNat, glR_len])
  generalize hs : Store.push _ _ = s1
  have k1 : Kp σ s1 := by rw [← hs]; exact Kp.pushed _ _
  have g1 : s1.get σ.next = some (.cells 162 0 3 [glR g]) := by rw [← hs]; simp [Store.push_get, Store.push_next]
  clear hs
  refine raw ?_
  repeat (first | (with_reducible refine unr ?_; try simp only [YY, ↓reduceIte, Nat.reduceEqDiff, Nat.reduceAdd, Nat.reduceLeDiff, reduceCtorEq, Int.reduceEq, Int.reduceLT, Int.reduceLE, Int.reduceNeg, Int.reduceAdd, Int.reduceSub, Int.reduceToNat]) | (with_reducible refine WW (by decide) ?_))
  refine (one_ok 8 _ _).mono ?_
  rintro _ s1 ⟨rfl, rfl⟩
  refine raw ?_
  repeat (first | (with_reducible refine unr ?_; try simp only [YY, ↓reduceIte, Nat.reduceEqDiff, Nat.reduceAdd, Nat.reduceLeDiff, reduceCtorEq, Int.reduceEq, Int.reduceLT, Int.reduceLE, Int.reduceNeg, Int.reduceAdd, Int.reduceSub, Int.reduceToNat]) | (with_reducible refine WW (by decide) ?_))
  refine AWP_while [1, 2, 3, 4, 9, 10, 11] (fun i : Nat => bs.length - i) (fun i => [.list (bs.map bindC), .list (lv.map lvC), .int .i64 d, .ptr σ.next 0 0 0, .int .i64 bs.length, rowC (ik 8 bs.length :: latB g opS lv (d + bs.length) bs.length (bs.take i)), .int .i64 i]) (fun i t => s1 = t ∧ i ≤ bs.length) 0 ⟨rfl, by simp⟩ ?_ ?_
  · refine raw ?_
    repeat (first | (with_reducible refine unr ?_; try simp only [YY, ↓reduceIte, Nat.reduceEqDiff, Nat.reduceAdd, Nat.reduceLeDiff, reduceCtorEq, Int.reduceEq, Int.reduceLT, Int.reduceLE, Int.reduceNeg, Int.reduceAdd, Int.reduceSub, Int.reduceToNat]) | (with_reducible refine WW (by decide) ?_))
    simp [latB]
  rintro i _ ⟨rfl, hi⟩
  have hw := wrap_succ (i := i) (by omega)
  by_cases hil : i < bs.length
  · have hil' : (i : Int) < (bs.length : Int) := by omega
    obtain ⟨x, hx⟩ : ∃ x, bs[i]? = some x := ⟨_, List.getElem?_eq_getElem hil⟩
    have hg : (bs.map bindC)[i]? = some (bindC x) := by simp [hx]
    have hxm := List.mem_of_getElem? hx
    have hxb := Cr.bulkB_le2 hxm
    have w1 : IntKind.i64.wrap (d + bs.length) = d + bs.length := wrap_of (by omega) (by omega)
    have w2 : IntKind.i64.wrap ((bs.length : Int) - 1) = (bs.length : Int) - 1 := wrap_of (by omega) (by omega)
    have w3 : IntKind.i64.wrap ((bs.length : Int) - 1 - i) = (bs.length : Int) - 1 - i := wrap_of (by omega) (by omega)
    refine raw ?_
    repeat (first | (with_reducible refine unr ?_; try simp only [YY, ↓reduceIte, Nat.reduceEqDiff, Nat.reduceAdd, Nat.reduceLeDiff, reduceCtorEq, Int.reduceEq, Int.reduceLT, Int.reduceLE, Int.reduceNeg, Int.reduceAdd, Int.reduceSub, Int.reduceToNat, g1, hil', hg, bindC, Cr.len, Cr.take9, glR_len, glR_t3, w1, w2, w3]) | (with_reducible refine WW (by decide) ?_))
    refine (ih x hxm _ lv (d + bs.length) (hlv.mono (by omega)) (by omega) (by omega)).mono ?_
    rintro _ s1 ⟨rfl, rfl⟩
    refine raw ?_
    repeat (first | (with_reducible refine unr ?_; try simp only [YY, ↓reduceIte, Nat.reduceEqDiff, Nat.reduceAdd, Nat.reduceLeDiff, reduceCtorEq, Int.reduceEq, Int.reduceLT, Int.reduceLE, Int.reduceNeg, Int.reduceAdd, Int.reduceSub, Int.reduceToNat]) | (with_reducible refine WW (by decide) ?_))
    refine (one_ok 5 _ _).mono ?_
    rintro _ s1 ⟨rfl, rfl⟩
    refine raw ?_
    repeat (first | (with_reducible refine unr ?_; try simp only [YY, ↓reduceIte, Nat.reduceEqDiff, Nat.reduceAdd, Nat.reduceLeDiff, reduceCtorEq, Int.reduceEq, Int.reduceLT, Int.reduceLE, Int.reduceNeg, Int.reduceAdd, Int.reduceSub, Int.reduceToNat]) | (with_reducible refine WW (by decide) ?_))
    have f1 := latB_len g opS bs lv (d + bs.length) bs.length
    have f2 := latS_len g opS x.2 lv (d + bs.length)
    have f3 := latB_len g opS (bs.take i) lv (d + bs.length) bs.length
    have f4 := Cr.bulkB_take hx
    have f5 := hlv.len
    refine (few_ok [ik 8 bs.length :: latB g opS lv (d + bs.length) bs.length (bs.take i), latS g opS lv (d + bs.length) x.2, [ik 5 ((bs.length : Int) - 1 - i)]] (by simp) (by simp; omega) _).mono ?_
    rintro _ s1 ⟨rfl, rfl⟩
    refine raw ?_
    repeat (first | (with_reducible refine unr ?_; try simp only [YY, ↓reduceIte, Nat.reduceEqDiff, Nat.reduceAdd, Nat.reduceLeDiff, reduceCtorEq, Int.reduceEq, Int.reduceLT, Int.reduceLE, Int.reduceNeg, Int.reduceAdd, Int.reduceSub, Int.reduceToNat, hw]) | (with_reducible refine WW (by decide) ?_))
    refine ⟨i + 1, ?_, by omega, by omega⟩
    have e : latB g opS lv (d + bs.length) bs.length (bs.take (i + 1)) = latB g opS lv (d + bs.length) bs.length (bs.take i) ++ (latS g opS lv (d + bs.length) x.2 ++ [ik 5 ((bs.length : Int) - 1 - i)]) := by
      rw [take_succ_at hx, latB_app, latB_one, List.length_take, show min i bs.length = i by omega, show (bs.length : Int) - i - 1 = (bs.length : Int) - 1 - i by omega]
    rw [e]
    simp
  · have hil' : ¬ (i : Int) < (bs.length : Int) := by omega
    rw [List.take_of_length_le (by omega)]
    refine raw ?_
    repeat (first | (with_reducible refine unr ?_; try simp only [YY, ↓reduceIte, Nat.reduceEqDiff, Nat.reduceAdd, Nat.reduceLeDiff, reduceCtorEq, Int.reduceEq, Int.reduceLT, Int.reduceLE, Int.reduceNeg, Int.reduceAdd, Int.reduceSub, Int.reduceToNat, hil']) | (with_reducible refine WW (by decide) ?_))
    exact FP.same k1 rfl (rowC_cln _)
set_option maxHeartbeats 2000000 in
theorem laterD (g : Gl) (hg : g.sup.length + g.con.length ≤ 1000000000) : ∀ x : Cr, x.La g → LaterD g x := by
  intro x
  induction x using Cr.ind with
  | _ k nm n ar ps gs al bs pk ih1 ih2 ih3 ih4 =>
    intro hla
    cases hla with
    | mk hk h4 h9 h2 h1 q1 q3 =>
    have i1 := fun x hx => ih1 x hx (q1 x hx)
    have i3 := fun x hx => ih3 x hx (q3 x hx)
    clear ih1 ih2 ih3 ih4 q1 q3
    intro σ lv d hlv hd0 hd
    have hsl := latS_len g opS (.mk k nm n ar ps gs al bs pk) lv d
    rw [Cr.bulk] at hlv hd hsl
    have hll := hlv.len
    have hbl := Cr.lenB2 bs
    refine ACalls_fp (p := fun r => r = rowC (latS g opS lv d (.mk k nm n ar ps gs al bs pk))) ?_
    refine in69 (by simp) ?_
    unfold c69
    rw [Cr.cells_eq]
    try simp only [YY, ↓reduceIte, Nat.reduceEqDiff, Nat.reduceAdd, Nat.reduceLeDiff, reduceCtorEq, Int.reduceEq, Int.reduceLT, Int.reduceLE, Int.reduceNeg, Int.reduceAdd, Int.reduceSub, Int.reduceToNat, glR_len]
    iterate 2 ((with_reducible refine WW (by decide) ?_); refine unr ?_; try simp only [YY, ↓reduceIte, Nat.reduceEqDiff, Nat.reduceAdd, Nat.reduceLeDiff, reduceCtorEq, Int.reduceEq, Int.reduceLT, Int.reduceLE, Int.reduceNeg, Int.reduceAdd, Int.reduceSub, Int.reduceToNat, glR_len])
    generalize hs : Store.push _ _ = s1
    have k1 : Kp σ s1 := by rw [← hs]; exact (Kp.pushed _ _).push _
    have g1 : s1.get σ.next = some (.cells 162 0 3 [glR g]) := by rw [← hs]; simp [Store.push_get, Store.push_next]
    have g2 : s1.get (σ.next + 1) = some (.cells 54 0 9 [[.int .i64 k, .str nm, .int .i64 n, .int .i64 ar, strs ps, .list (gs.map Cr.cells), .list (al.map altC), .list (bs.map bindC), .list (pk.map pickC)]]) := by rw [← hs]; simp [Store.push_get, Store.push_next]
    clear hs
    by_cases hk1 : k = 1
    · subst hk1
      rw [latS, if_pos rfl]
      have hw1 : IntKind.i64.wrap (d - 1) = d - 1 := wrap_of (by omega) (by omega)
      have hfb := findS_bd hlv nm
      have hw2 : IntKind.i64.wrap (d - 1 - findS lv nm) = d - 1 - findS lv nm := wrap_of (by omega) (by omega)
      refine raw ?_
      repeat (first | (with_reducible refine unr ?_; try simp only [YY, ↓reduceIte, Nat.reduceEqDiff, Nat.reduceAdd, Nat.reduceLeDiff, reduceCtorEq, Int.reduceEq, Int.reduceLT, Int.reduceLE, Int.reduceNeg, Int.reduceAdd, Int.reduceSub, Int.reduceToNat, g2, hw1]) | (with_reducible refine WW (by decide) ?_))
      refine (level_ok lv (by omega) nm _).mono ?_
      rintro _ s1 ⟨rfl, rfl⟩
      refine raw ?_
      repeat (first | (with_reducible refine unr ?_; try simp only [YY, ↓reduceIte, Nat.reduceEqDiff, Nat.reduceAdd, Nat.reduceLeDiff, reduceCtorEq, Int.reduceEq, Int.reduceLT, Int.reduceLE, Int.reduceNeg, Int.reduceAdd, Int.reduceSub, Int.reduceToNat, hw2]) | (with_reducible refine WW (by decide) ?_))
      refine (one_ok 1 _ _).mono ?_
      rintro _ s1 ⟨rfl, rfl⟩
      refine raw ?_
      repeat (first | (with_reducible refine unr ?_; try simp only [YY, ↓reduceIte, Nat.reduceEqDiff, Nat.reduceAdd, Nat.reduceLeDiff, reduceCtorEq, Int.reduceEq, Int.reduceLT, Int.reduceLE, Int.reduceNeg, Int.reduceAdd, Int.reduceSub, Int.reduceToNat]) | (with_reducible refine WW (by decide) ?_))
      exact FP.same k1 rfl (rowC_cln _)
    by_cases hk2 : k = 2
    · subst hk2
      rw [latS, if_neg (by decide), if_pos rfl]
      refine raw ?_
      repeat (first | (with_reducible refine unr ?_; try simp only [YY, ↓reduceIte, Nat.reduceEqDiff, Nat.reduceAdd, Nat.reduceLeDiff, reduceCtorEq, Int.reduceEq, Int.reduceLT, Int.reduceLE, Int.reduceNeg, Int.reduceAdd, Int.reduceSub, Int.reduceToNat, g1, g2, glR_len, glR_t3]) | (with_reducible refine WW (by decide) ?_))
      refine (globD g hg nm _).mono ?_
      rintro _ s1 ⟨rfl, rfl⟩
      refine raw ?_
      repeat (first | (with_reducible refine unr ?_; try simp only [YY, ↓reduceIte, Nat.reduceEqDiff, Nat.reduceAdd, Nat.reduceLeDiff, reduceCtorEq, Int.reduceEq, Int.reduceLT, Int.reduceLE, Int.reduceNeg, Int.reduceAdd, Int.reduceSub, Int.reduceToNat]) | (with_reducible refine WW (by decide) ?_))
      refine (one_ok 2 _ _).mono ?_
      rintro _ s1 ⟨rfl, rfl⟩
      refine raw ?_
      repeat (first | (with_reducible refine unr ?_; try simp only [YY, ↓reduceIte, Nat.reduceEqDiff, Nat.reduceAdd, Nat.reduceLeDiff, reduceCtorEq, Int.reduceEq, Int.reduceLT, Int.reduceLE, Int.reduceNeg, Int.reduceAdd, Int.reduceSub, Int.reduceToNat]) | (with_reducible refine WW (by decide) ?_))
      exact FP.same k1 rfl (rowC_cln _)
    by_cases hk4 : k = 4
    · subst hk4
      rw [latS, if_neg (by decide), if_neg (by decide), if_pos rfl]
      have hcp := conIdx_place (h4 rfl)
      have hcl : conIdx g nm ≤ g.con.length := by
        unfold conIdx
        cases hi : idx (g.con.map (·.1)) nm with
        | none => simp
        | some i => have := idx_lt hi; rw [List.length_map] at this; simp only; omega
      have hc0 : 0 ≤ conIdx g nm := by
        unfold conIdx
        cases hi : idx (g.con.map (·.1)) nm with
        | none => simp
        | some i => simp
      have hw1 : IntKind.i64.wrap ((g.sup.length : Int) + conIdx g nm) = (g.sup.length : Int) + conIdx g nm := wrap_of (by omega) (by omega)
      have g1' := g1
      unfold glR at g1'
      refine raw ?_
      repeat (first | (with_reducible refine unr ?_; try simp only [YY, ↓reduceIte, Nat.reduceEqDiff, Nat.reduceAdd, Nat.reduceLeDiff, reduceCtorEq, Int.reduceEq, Int.reduceLT, Int.reduceLE, Int.reduceNeg, Int.reduceAdd, Int.reduceSub, Int.reduceToNat, g1', g2]) | (with_reducible refine WW (by decide) ?_))
      refine (place_ok (g.con.map (·.1)) (by simp; omega) nm _).mono ?_
      rintro _ s1 ⟨rfl, rfl⟩
      rw [hcp]
      refine raw ?_
      repeat (first | (with_reducible refine unr ?_; try simp only [YY, ↓reduceIte, Nat.reduceEqDiff, Nat.reduceAdd, Nat.reduceLeDiff, reduceCtorEq, Int.reduceEq, Int.reduceLT, Int.reduceLE, Int.reduceNeg, Int.reduceAdd, Int.reduceSub, Int.reduceToNat, g1', g2, hw1]) | (with_reducible refine WW (by decide) ?_))
      refine (one_ok 2 _ _).mono ?_
      rintro _ s1 ⟨rfl, rfl⟩
      refine raw ?_
      repeat (first | (with_reducible refine unr ?_; try simp only [YY, ↓reduceIte, Nat.reduceEqDiff, Nat.reduceAdd, Nat.reduceLeDiff, reduceCtorEq, Int.reduceEq, Int.reduceLT, Int.reduceLE, Int.reduceNeg, Int.reduceAdd, Int.reduceSub, Int.reduceToNat]) | (with_reducible refine WW (by decide) ?_))
      exact FP.same k1 rfl (rowC_cln _)
    by_cases hk3 : k = 3
    · subst hk3
      rw [latS, if_neg (by decide), if_neg (by decide), if_neg (by decide), if_pos rfl]
      refine raw ?_
      repeat (first | (with_reducible refine unr ?_; try simp only [YY, ↓reduceIte, Nat.reduceEqDiff, Nat.reduceAdd, Nat.reduceLeDiff, reduceCtorEq, Int.reduceEq, Int.reduceLT, Int.reduceLE, Int.reduceNeg, Int.reduceAdd, Int.reduceSub, Int.reduceToNat, g2]) | (with_reducible refine WW (by decide) ?_))
      exact FP.same k1 rfl (rowC_cln [⟨3, 0, n, []⟩])
    by_cases hk5 : k = 5
    · subst hk5
      obtain ⟨a0, a1, rfl⟩ : ∃ a0 a1, gs = [a0, a1] := by
        have := h2 (.inl rfl)
        match gs, this with
        | [a0, a1], _ => exact ⟨a0, a1, rfl⟩
      have e : latS g opS lv d (.mk 5 nm n ar ps [a0, a1] al bs pk) = [latS g opS lv d a1, latS g opS lv (d + 1) a0, [ik 4 0]].flatten := by
        rw [latS, if_neg (by decide), if_neg (by decide), if_neg (by decide), if_neg (by decide), if_pos rfl, latL, latL, latL]
        simp
      rw [e] at hsl ⊢
      rw [Cr.bulkL, Cr.bulkL, Cr.bulkL] at hlv hd hsl hll
      have hw1 : IntKind.i64.wrap (d + 1) = d + 1 := wrap_of (by omega) (by omega)
      refine raw ?_
      repeat (first | (with_reducible refine unr ?_; try simp only [YY, ↓reduceIte, Nat.reduceEqDiff, Nat.reduceAdd, Nat.reduceLeDiff, reduceCtorEq, Int.reduceEq, Int.reduceLT, Int.reduceLE, Int.reduceNeg, Int.reduceAdd, Int.reduceSub, Int.reduceToNat, g1, g2, glR_len, glR_t3, Cr.len, Cr.take9, hw1]) | (with_reducible refine WW (by decide) ?_))
      refine (i1 a1 (by simp) _ lv d (hlv.mono (by omega)) hd0 (by omega)).mono ?_
      rintro _ s1 ⟨rfl, rfl⟩
      refine raw ?_
      repeat (first | (with_reducible refine unr ?_; try simp only [YY, ↓reduceIte, Nat.reduceEqDiff, Nat.reduceAdd, Nat.reduceLeDiff, reduceCtorEq, Int.reduceEq, Int.reduceLT, Int.reduceLE, Int.reduceNeg, Int.reduceAdd, Int.reduceSub, Int.reduceToNat, g1, g2, glR_len, glR_t3, Cr.len, Cr.take9]) | (with_reducible refine WW (by decide) ?_))
      refine (i1 a0 (by simp) _ lv (d + 1) (hlv.mono (by omega)) (by omega) (by omega)).mono ?_
      rintro _ s1 ⟨rfl, rfl⟩
      refine raw ?_
      repeat (first | (with_reducible refine unr ?_; try simp only [YY, ↓reduceIte, Nat.reduceEqDiff, Nat.reduceAdd, Nat.reduceLeDiff, reduceCtorEq, Int.reduceEq, Int.reduceLT, Int.reduceLE, Int.reduceNeg, Int.reduceAdd, Int.reduceSub, Int.reduceToNat]) | (with_reducible refine WW (by decide) ?_))
      refine (one_ok 4 _ _).mono ?_
      rintro _ s1 ⟨rfl, rfl⟩
      refine raw ?_
      repeat (first | (with_reducible refine unr ?_; try simp only [YY, ↓reduceIte, Nat.reduceEqDiff, Nat.reduceAdd, Nat.reduceLeDiff, reduceCtorEq, Int.reduceEq, Int.reduceLT, Int.reduceLE, Int.reduceNeg, Int.reduceAdd, Int.reduceSub, Int.reduceToNat]) | (with_reducible refine WW (by decide) ?_))
      refine (few_ok [latS g opS lv d a1, latS g opS lv (d + 1) a0, [ik 4 0]] (by simp) (by omega) _).mono ?_
      rintro _ s1 ⟨rfl, rfl⟩
      refine raw ?_
      repeat (first | (with_reducible refine unr ?_; try simp only [YY, ↓reduceIte, Nat.reduceEqDiff, Nat.reduceAdd, Nat.reduceLeDiff, reduceCtorEq, Int.reduceEq, Int.reduceLT, Int.reduceLE, Int.reduceNeg, Int.reduceAdd, Int.reduceSub, Int.reduceToNat]) | (with_reducible refine WW (by decide) ?_))
      refine ⟨fun c hc => by simp at hc, ?_⟩
      refine raw ?_
      repeat (first | (with_reducible refine unr ?_; try simp only [YY, ↓reduceIte, Nat.reduceEqDiff, Nat.reduceAdd, Nat.reduceLeDiff, reduceCtorEq, Int.reduceEq, Int.reduceLT, Int.reduceLE, Int.reduceNeg, Int.reduceAdd, Int.reduceSub, Int.reduceToNat]) | (with_reducible refine WW (by decide) ?_))
      exact FP.same k1 rfl (rowC_cln _)
    by_cases hk9 : k = 9
    · subst hk9
      obtain ⟨a0, a1, rfl⟩ : ∃ a0 a1, gs = [a0, a1] := by
        have := h2 (.inr rfl)
        match gs, this with
        | [a0, a1], _ => exact ⟨a0, a1, rfl⟩
      have e : latS g opS lv d (.mk 9 nm n ar ps [a0, a1] al bs pk) = [latS g opS lv d a1, latS g opS lv (d + 1) a0, [ik 2 (operS g n)], [ik 4 0], [ik 4 0]].flatten := by
        rw [latS, if_neg (by decide), if_neg (by decide), if_neg (by decide), if_neg (by decide), if_neg (by decide), if_pos rfl, latL, latL, latL]
        simp
      rw [e] at hsl ⊢
      rw [Cr.bulkL, Cr.bulkL, Cr.bulkL] at hlv hd hsl hll
      have hn := h9 rfl
      have hw1 : IntKind.i64.wrap (d + 1) = d + 1 := wrap_of (by omega) (by omega)
      refine raw ?_
      repeat (first | (with_reducible refine unr ?_; try simp only [YY, ↓reduceIte, Nat.reduceEqDiff, Nat.reduceAdd, Nat.reduceLeDiff, reduceCtorEq, Int.reduceEq, Int.reduceLT, Int.reduceLE, Int.reduceNeg, Int.reduceAdd, Int.reduceSub, Int.reduceToNat, g1, g2, glR_len, glR_t3, Cr.len, Cr.take9, hw1]) | (with_reducible refine WW (by decide) ?_))
      refine (i1 a1 (by simp) _ lv d (hlv.mono (by omega)) hd0 (by omega)).mono ?_
      rintro _ s1 ⟨rfl, rfl⟩
      refine raw ?_
      repeat (first | (with_reducible refine unr ?_; try simp only [YY, ↓reduceIte, Nat.reduceEqDiff, Nat.reduceAdd, Nat.reduceLeDiff, reduceCtorEq, Int.reduceEq, Int.reduceLT, Int.reduceLE, Int.reduceNeg, Int.reduceAdd, Int.reduceSub, Int.reduceToNat, g1, g2, glR_len, glR_t3, Cr.len, Cr.take9]) | (with_reducible refine WW (by decide) ?_))
      refine (i1 a0 (by simp) _ lv (d + 1) (hlv.mono (by omega)) (by omega) (by omega)).mono ?_
      rintro _ s1 ⟨rfl, rfl⟩
      refine raw ?_
      repeat (first | (with_reducible refine unr ?_; try simp only [YY, ↓reduceIte, Nat.reduceEqDiff, Nat.reduceAdd, Nat.reduceLeDiff, reduceCtorEq, Int.reduceEq, Int.reduceLT, Int.reduceLE, Int.reduceNeg, Int.reduceAdd, Int.reduceSub, Int.reduceToNat, g1, g2, glR_len, glR_t3, Cr.len, Cr.take9]) | (with_reducible refine WW (by decide) ?_))
      refine (operD g hg n (by omega) (by omega) _).mono ?_
      rintro _ s1 ⟨rfl, rfl⟩
      refine raw ?_
      repeat (first | (with_reducible refine unr ?_; try simp only [YY, ↓reduceIte, Nat.reduceEqDiff, Nat.reduceAdd, Nat.reduceLeDiff, reduceCtorEq, Int.reduceEq, Int.reduceLT, Int.reduceLE, Int.reduceNeg, Int.reduceAdd, Int.reduceSub, Int.reduceToNat]) | (with_reducible refine WW (by decide) ?_))
      refine (one_ok 2 _ _).mono ?_
      rintro _ s1 ⟨rfl, rfl⟩
      refine raw ?_
      repeat (first | (with_reducible refine unr ?_; try simp only [YY, ↓reduceIte, Nat.reduceEqDiff, Nat.reduceAdd, Nat.reduceLeDiff, reduceCtorEq, Int.reduceEq, Int.reduceLT, Int.reduceLE, Int.reduceNeg, Int.reduceAdd, Int.reduceSub, Int.reduceToNat]) | (with_reducible refine WW (by decide) ?_))
      refine (one_ok 4 _ _).mono ?_
      rintro _ s1 ⟨rfl, rfl⟩
      refine raw ?_
      repeat (first | (with_reducible refine unr ?_; try simp only [YY, ↓reduceIte, Nat.reduceEqDiff, Nat.reduceAdd, Nat.reduceLeDiff, reduceCtorEq, Int.reduceEq, Int.reduceLT, Int.reduceLE, Int.reduceNeg, Int.reduceAdd, Int.reduceSub, Int.reduceToNat]) | (with_reducible refine WW (by decide) ?_))
      refine (one_ok 4 _ _).mono ?_
      rintro _ s1 ⟨rfl, rfl⟩
      refine raw ?_
      repeat (first | (with_reducible refine unr ?_; try simp only [YY, ↓reduceIte, Nat.reduceEqDiff, Nat.reduceAdd, Nat.reduceLeDiff, reduceCtorEq, Int.reduceEq, Int.reduceLT, Int.reduceLE, Int.reduceNeg, Int.reduceAdd, Int.reduceSub, Int.reduceToNat]) | (with_reducible refine WW (by decide) ?_))
      refine (few_ok [latS g opS lv d a1, latS g opS lv (d + 1) a0, [ik 2 (operS g n)], [ik 4 0], [ik 4 0]] (by simp) (by omega) _).mono ?_
      rintro _ s1 ⟨rfl, rfl⟩
      refine raw ?_
      repeat (first | (with_reducible refine unr ?_; try simp only [YY, ↓reduceIte, Nat.reduceEqDiff, Nat.reduceAdd, Nat.reduceLeDiff, reduceCtorEq, Int.reduceEq, Int.reduceLT, Int.reduceLE, Int.reduceNeg, Int.reduceAdd, Int.reduceSub, Int.reduceToNat]) | (with_reducible refine WW (by decide) ?_))
      refine ⟨fun c hc => by simp at hc, ?_⟩
      refine raw ?_
      repeat (first | (with_reducible refine unr ?_; try simp only [YY, ↓reduceIte, Nat.reduceEqDiff, Nat.reduceAdd, Nat.reduceLeDiff, reduceCtorEq, Int.reduceEq, Int.reduceLT, Int.reduceLE, Int.reduceNeg, Int.reduceAdd, Int.reduceSub, Int.reduceToNat]) | (with_reducible refine WW (by decide) ?_))
      exact FP.same k1 rfl (rowC_cln _)
    have hk7 : k = 7 := by omega
    subst hk7
    obtain ⟨a, rfl⟩ : ∃ a, gs = [a] := by
      have := h1 rfl
      match gs, this with
      | [a], _ => exact ⟨a, rfl⟩
    have e : latS g opS lv d (.mk 7 nm n ar ps [a] al bs pk) = [ik 8 bs.length :: latB g opS (withS lv (bs.map Prod.fst) d 1) (d + bs.length) bs.length bs, latS g opS (withS lv (bs.map Prod.fst) d 1) (d + bs.length) a, [ik 7 bs.length]].flatten := by
      rw [latS, if_neg (by decide), if_neg (by decide), if_neg (by decide), if_neg (by decide), if_neg (by decide), if_neg (by decide), if_pos rfl, latL, latL]
      simp
    rw [e] at hsl ⊢
    rw [Cr.bulkL, Cr.bulkL] at hlv hd hsl hll
    have hw1 : IntKind.i64.wrap (d + bs.length) = d + bs.length := wrap_of (by omega) (by omega)
    have hlw : LvOK (withS lv (bs.map Prod.fst) d 1) (Cr.bulkB bs + a.bulk - bs.length) := hlv.with (bs.map Prod.fst) d 1 (.inl rfl) (by omega) (by rw [List.length_map]; omega)
    refine raw ?_
    repeat (first | (with_reducible refine unr ?_; try simp only [YY, ↓reduceIte, Nat.reduceEqDiff, Nat.reduceAdd, Nat.reduceLeDiff, reduceCtorEq, Int.reduceEq, Int.reduceLT, Int.reduceLE, Int.reduceNeg, Int.reduceAdd, Int.reduceSub, Int.reduceToNat, g2, Cr.len, Cr.take9]) | (with_reducible refine WW (by decide) ?_))
    refine (names17 bs (by omega) _).mono ?_
    rintro _ s1 ⟨rfl, rfl⟩
    refine raw ?_
    repeat (first | (with_reducible refine unr ?_; try simp only [YY, ↓reduceIte, Nat.reduceEqDiff, Nat.reduceAdd, Nat.reduceLeDiff, reduceCtorEq, Int.reduceEq, Int.reduceLT, Int.reduceLE, Int.reduceNeg, Int.reduceAdd, Int.reduceSub, Int.reduceToNat]) | (with_reducible refine WW (by decide) ?_))
    refine (withD lv (bs.map Prod.fst) d (by rw [List.length_map]; omega) (by omega) (by omega) _).mono ?_
    rintro _ s1 ⟨rfl, rfl⟩
    refine raw ?_
    repeat (first | (with_reducible refine unr ?_; try simp only [YY, ↓reduceIte, Nat.reduceEqDiff, Nat.reduceAdd, Nat.reduceLeDiff, reduceCtorEq, Int.reduceEq, Int.reduceLT, Int.reduceLE, Int.reduceNeg, Int.reduceAdd, Int.reduceSub, Int.reduceToNat, g1, g2, glR_len, glR_t3, Cr.len, Cr.take9, hw1]) | (with_reducible refine WW (by decide) ?_))
    refine (bindsD g bs i3 _ (withS lv (bs.map Prod.fst) d 1) d (hlw.mono (by omega)) hd0 (by omega)).mono ?_
    rintro _ s1 ⟨rfl, rfl⟩
    refine raw ?_
    repeat (first | (with_reducible refine unr ?_; try simp only [YY, ↓reduceIte, Nat.reduceEqDiff, Nat.reduceAdd, Nat.reduceLeDiff, reduceCtorEq, Int.reduceEq, Int.reduceLT, Int.reduceLE, Int.reduceNeg, Int.reduceAdd, Int.reduceSub, Int.reduceToNat, g1, g2, glR_len, glR_t3, Cr.len, Cr.take9]) | (with_reducible refine WW (by decide) ?_))
    refine (i1 a (by simp) _ (withS lv (bs.map Prod.fst) d 1) (d + bs.length) (hlw.mono (by omega)) (by omega) (by omega)).mono ?_
    rintro _ s1 ⟨rfl, rfl⟩
    refine raw ?_
    repeat (first | (with_reducible refine unr ?_; try simp only [YY, ↓reduceIte, Nat.reduceEqDiff, Nat.reduceAdd, Nat.reduceLeDiff, reduceCtorEq, Int.reduceEq, Int.reduceLT, Int.reduceLE, Int.reduceNeg, Int.reduceAdd, Int.reduceSub, Int.reduceToNat]) | (with_reducible refine WW (by decide) ?_))
    refine (one_ok 7 _ _).mono ?_
    rintro _ s1 ⟨rfl, rfl⟩
    refine raw ?_
    repeat (first | (with_reducible refine unr ?_; try simp only [YY, ↓reduceIte, Nat.reduceEqDiff, Nat.reduceAdd, Nat.reduceLeDiff, reduceCtorEq, Int.reduceEq, Int.reduceLT, Int.reduceLE, Int.reduceNeg, Int.reduceAdd, Int.reduceSub, Int.reduceToNat]) | (with_reducible refine WW (by decide) ?_))
    refine (few_ok [ik 8 bs.length :: latB g opS (withS lv (bs.map Prod.fst) d 1) (d + bs.length) bs.length bs, latS g opS (withS lv (bs.map Prod.fst) d 1) (d + bs.length) a, [ik 7 bs.length]] (by simp) (by omega) _).mono ?_
    rintro _ s1 ⟨rfl, rfl⟩
    refine raw ?_
    repeat (first | (with_reducible refine unr ?_; try simp only [YY, ↓reduceIte, Nat.reduceEqDiff, Nat.reduceAdd, Nat.reduceLeDiff, reduceCtorEq, Int.reduceEq, Int.reduceLT, Int.reduceLE, Int.reduceNeg, Int.reduceAdd, Int.reduceSub, Int.reduceToNat]) | (with_reducible refine WW (by decide) ?_))
    refine ⟨fun c hc => by simp at hc, ?_⟩
    refine raw ?_
    repeat (first | (with_reducible refine unr ?_; try simp only [YY, ↓reduceIte, Nat.reduceEqDiff, Nat.reduceAdd, Nat.reduceLeDiff, reduceCtorEq, Int.reduceEq, Int.reduceLT, Int.reduceLE, Int.reduceNeg, Int.reduceAdd, Int.reduceSub, Int.reduceToNat]) | (with_reducible refine WW (by decide) ?_))
    exact FP.same k1 rfl (rowC_cln _)
end Go.Proofs.Ytjjbjibbjbbeaaa
/- What may begin: the program's answer and the document's are the same; plain law. -/
set_option linter.unusedVariables false
set_option linter.unusedSimpArgs false
namespace Go.AL
theorem nameS_first : ∀ j : Nat, j < 11 → (bl (nameS ((j + 1 : Nat) : Int)))[0]? ≠ some 35 ∧ (bl (nameS ((j + 1 : Nat) : Int)))[0]? ≠ some 120 := by decide
theorem op_first {s : ByteArray} (h : 0 < opS s) : (bl s)[0]? ≠ some 35 ∧ (bl s)[0]? ≠ some 120 := by
  have : ∃ j : Nat, j < 11 ∧ nameS ((j + 1 : Nat) : Int) = s := by
    refine Classical.byContradiction fun hn => ?_
    have := opS_zero (s := s) fun j hj e => hn ⟨j, hj, e⟩
    omega
  obtain ⟨j, hj, rfl⟩ := this
  exact nameS_first j hj
theorem xs_op (k : Nat) : ¬ 0 < opS (xs k) := fun h => (op_first h).2 (xs_bl k)
theorem pbAcc_bl (l : List Sup) : (bl (pbAcc l))[0]? = some 35 := by
  have key : ∀ (l : List Sup) (a : ByteArray), (bl a)[0]? = some 35 → (bl (l.foldl (fun a x => a ++ x.nm) a))[0]? = some 35 := by
    intro l
    induction l with
    | nil => intro a h; exact h
    | cons x r ih =>
      intro a h
      rw [List.foldl_cons]
      refine ih _ ?_
      rw [bl_app, List.getElem?_append_left (List.getElem?_eq_some_iff.1 h).1]
      exact h
  exact key l _ rfl
theorem pb_bl (l : List Sup) : (bl (pbName l))[0]? = some 35 := by
  rw [pbName, bl_app, List.getElem?_append_left (List.getElem?_eq_some_iff.1 (pbAcc_bl l)).1]
  exact pbAcc_bl l
theorem pb_op (l : List Sup) : ¬ 0 < opS (pbName l) := fun h => (op_first h).1 (pb_bl l)
theorem pb_size (l : List Sup) : ∀ x, x ∈ l → x.nm.size < (pbName l).size := by
  have key : ∀ (l : List Sup) (a : ByteArray), a.size ≤ (l.foldl (fun a x => a ++ x.nm) a).size ∧ ∀ x, x ∈ l → x.nm.size + a.size ≤ (l.foldl (fun a x => a ++ x.nm) a).size := by
    intro l
    induction l with
    | nil => intro a; simp
    | cons y r ih =>
      intro a
      rw [List.foldl_cons]
      obtain ⟨h1, h2⟩ := ih (a ++ y.nm)
      rw [size_app] at h1
      refine ⟨by omega, fun x hx => ?_⟩
      rcases List.mem_cons.1 hx with rfl | hx
      · omega
      · have := h2 x hx
        rw [size_app] at this
        omega
  intro x hx
  have := (key l ⟨#[35]⟩).2 x hx
  rw [pbName, size_app]
  have h1 : (⟨#[35]⟩ : ByteArray).size = 1 := rfl
  unfold pbAcc
  omega
theorem pb_new (l : List Sup) : pbName l ∉ l.map (·.nm) := fun h => by
  obtain ⟨x, hx, e⟩ := List.mem_map.1 h
  have := pb_size l x hx
  rw [e] at this
  omega
theorem Cr.RtE.mono {gl gl' : List ByteArray} (hs : ∀ s, s ∈ gl → s ∈ gl') {ins : List ByteArray} {x : Cr} (h : x.RtE gl ins) : x.RtE gl' ins := by
  induction h with
  | mk hh g1 ha g2 g3 hp g4 i1 i2 i3 i4 =>
    refine .mk ?_ i1 ha i2 i3 hp i4
    rename_i ins k nm n ar ps gs al bs pk
    unfold HeadOK at hh ⊢
    by_cases h1 : k = 1
    · rw [if_pos h1] at hh ⊢; exact hh
    rw [if_neg h1] at hh ⊢
    by_cases h2 : k = 2
    · rw [if_pos h2] at hh ⊢; exact ⟨hh.1.imp (hs _) id, hh.2⟩
    rw [if_neg h2] at hh ⊢
    exact hh
theorem fl_nil {gl ins : List ByteArray} {k : Int} {nm : ByteArray} {n ar : Int} {ps : List ByteArray} {gs : List Cr} {al : List (AltH × Cr)} {bs : List (ByteArray × Cr)} {pk : List (Int × Cr)} (h : RtParts gl ins k nm n ar ps gs al bs pk) (hf : FlParts false k gs al bs pk) : al = [] ∧ pk = [] := by
  have hl := hf.hl rfl
  have h6 := hf.h6
  have hh := h.hh
  have hk := head_no hh
  have : k = 1 ∨ k = 2 ∨ k = 3 ∨ k = 4 ∨ k = 5 ∨ k = 7 ∨ k = 9 := by omega
  rcases this with rfl | rfl | rfl | rfl | rfl | rfl | rfl
  · rw [head_1, Shp] at hh; exact ⟨nil_of (by omega), nil_of (by omega)⟩
  · rw [head_2, Shp] at hh; exact ⟨nil_of (by omega), nil_of (by omega)⟩
  · rw [head_3, Shp] at hh; exact ⟨nil_of (by omega), nil_of (by omega)⟩
  · rw [head_4, Shp] at hh; exact ⟨nil_of (by omega), nil_of (by omega)⟩
  · rw [head_5, Shp] at hh; exact ⟨nil_of (by omega), nil_of (by omega)⟩
  · rw [head_7, Shp] at hh; exact ⟨nil_of (by omega), nil_of (by omega)⟩
  · rw [head_9, Shp] at hh; exact ⟨nil_of (by omega), nil_of (by omega)⟩
/-- Of globals that are there anyway, one may be left out. -/
theorem rtE_nd {gl gl' : List ByteArray} : ∀ x : Cr, ∀ ins, x.RtE gl' ins → x.Fl false → x.Nd gl → x.RtE gl ins := by
  intro x
  induction x using Cr.ind with
  | _ k nm n ar ps gs al bs pk i1 i2 i3 i4 =>
    intro ins h hf hn
    have h := rtE_iff.1 h
    have hf := fl_iff.1 hf
    obtain ⟨n1, n2, n3⟩ := nd_iff.1 hn
    obtain ⟨rfl, rfl⟩ := fl_nil h hf
    refine rtE_iff.2 ⟨?_, fun x hx => i1 x hx _ (h.g1 x hx) (by simpa using hf.g1 x hx) (n2 x hx), h.ha, by simp, fun x hx => i3 x hx _ (h.g3 x hx) (hf.g3 x hx) (n3 x hx), h.hp, by simp⟩
    have hh := h.hh
    unfold HeadOK at hh ⊢
    by_cases h1 : k = 1
    · rw [if_pos h1] at hh ⊢; exact hh
    rw [if_neg h1] at hh ⊢
    by_cases h2 : k = 2
    · rw [if_pos h2] at hh ⊢
      refine ⟨(n1 h2).imp id fun h0 => ?_, hh.2⟩
      have := opS_bd nm
      omega
    rw [if_neg h2] at hh ⊢
    exact hh
theorem rt_two {gl ins : List ByteArray} {nm : ByteArray} {n ar : Int} {ps : List ByteArray} {gs : List Cr} {al : List (AltH × Cr)} {bs : List (ByteArray × Cr)} {pk : List (Int × Cr)} (h : (Cr.mk 2 nm n ar ps gs al bs pk).RtE gl ins) : nm ∈ gl ∨ 0 < opS nm := by
  have := (rtE_iff.1 h).hh
  rw [head_2] at this
  exact this.1
theorem rt_cl {gl : List ByteArray} {p : ByteArray} (hp : p ∉ gl) (ho : ¬ 0 < opS p) : ∀ x : Cr, ∀ ins, x.RtE gl ins → x.Cl p := by
  intro x
  induction x using Cr.ind with
  | _ k nm n ar ps gs al bs pk i1 i2 i3 i4 =>
    intro ins h
    have h' := rtE_iff.1 h
    refine cl_iff.2 ⟨?_, fun x hx => i1 x hx _ (h'.g1 x hx), fun x hx => i3 x hx _ (h'.g3 x hx)⟩
    rintro ⟨rfl, rfl⟩
    exact (rt_two h).elim hp ho
theorem cl_nd {gl : List ByteArray} {p : ByteArray} : ∀ x : Cr, ∀ ins, x.RtE (gl ++ [p]) ins → x.Cl p → x.Nd gl := by
  intro x
  induction x using Cr.ind with
  | _ k nm n ar ps gs al bs pk i1 i2 i3 i4 =>
    intro ins h hc
    have h' := rtE_iff.1 h
    obtain ⟨c1, c2, c3⟩ := cl_iff.1 hc
    refine nd_iff.2 ⟨fun e => ?_, fun x hx => i1 x hx _ (h'.g1 x hx) (c2 x hx), fun x hx => i3 x hx _ (h'.g3 x hx) (c3 x hx)⟩
    subst e
    rcases rt_two h with q | q
    · rcases List.mem_append.1 q with q | q
      · exact .inl q
      · simp at q; exact absurd ⟨rfl, q⟩ c1
    · exact .inr (by omega)
theorem la_of {g : Gl} {gl : List ByteArray} : ∀ x : Cr, ∀ ins, x.RtE gl ins → x.Fl false → x.Kn g → x.La g := by
  intro x
  induction x using Cr.ind with
  | _ k nm n ar ps gs al bs pk i1 i2 i3 i4 =>
    intro ins h hf hk
    have h' := rtE_iff.1 h
    have hf := fl_iff.1 hf
    have hk := kn_iff.1 hk
    have hh := h'.hh
    have hkk := head_no hh
    have hl := hf.hl rfl
    have h6 := hf.h6
    refine .mk (by omega) (fun e => ?_) (fun e => ?_) (fun e => ?_) (fun e => ?_) (fun x hx => i1 x hx _ (h'.g1 x hx) (by simpa using hf.g1 x hx) (hk.g1 x hx)) fun x hx => i3 x hx _ (h'.g3 x hx) (hf.g3 x hx) (hk.g3 x hx)
    · obtain ⟨i, c, h1, _⟩ := hk.h4 e
      exact Classical.byContradiction fun hn => by rw [idx_none.2 hn] at h1; cases h1
    · subst e; rw [head_9] at hh; omega
    · rcases e with rfl | rfl
      · rw [head_5, Shp] at hh; omega
      · rw [head_9, Shp] at hh; omega
    · subst e; rw [head_7, Shp] at hh; omega
/-- One more. -/
theorem flat_snoc {l : List Sup} {p : Sup} (h : FlatE l) (hn : NameQ p) (hp : p.nm ∉ l.map (·.nm)) (hb : BodyQ (l.map (·.nm) ++ [p.nm]) p) : FlatE (l ++ [p]) := by
  have e : (l ++ [p]).map (·.nm) = l.map (·.nm) ++ [p.nm] := by simp
  refine ⟨⟨fun x hx => ?_, ?_⟩, fun x hx => ?_⟩
  · rcases List.mem_append.1 hx with hx | hx
    · exact h.1.1 x hx
    · simp at hx; subst hx; exact hn
  · rw [e]
    exact List.nodup_append.2 ⟨h.1.2, by simp, by intro a ha b hb e; simp at hb; subst hb; subst e; exact hp ha⟩
  · rw [e]
    rcases List.mem_append.1 hx with hx | hx
    · exact ⟨(h.2 x hx).1, (h.2 x hx).2.mono fun s hs => List.mem_append_left _ hs⟩
    · simp at hx; subst hx; exact hb
theorem flat_more {e : Cr} {l : List Sup} (h : FlatE l) (hf : e.Fl false) (hr : e.RtE (l.map (·.nm)) []) {k : Nat} (hk : xs k ∉ l.map (·.nm)) : FlatE (l ++ [moreS e (xs k)]) :=
  flat_snoc h ⟨by simp only [moreS]; rw [xs_size]; omega, by simp only [moreS]; exact xs_op k, Locs.nil⟩ hk ⟨fl_late e hf, hr.mono fun s hs => List.mem_append_left _ hs⟩
theorem flat_probe {e : Cr} {l : List Sup} (h : FlatE l) (hf : e.Fl false) (hr : e.RtE (l.map (·.nm)) []) : FlatE (l ++ [probeS e l]) := by
  refine flat_snoc h ⟨?_, pb_op l, Locs.nil⟩ (pb_new l) ⟨?_, ?_⟩
  · simp only [probeS]
    rw [pbName, size_app]
    have h1 : (⟨#[35]⟩ : ByteArray).size = 1 := rfl
    omega
  · refine fl_iff.2 ⟨by decide, fun e => (by cases e), fun x hx => ?_, by simp, by simp, by simp⟩
    simp only [List.mem_cons, List.not_mem_nil, or_false] at hx
    rcases hx with rfl | rfl
    · exact fl_iff.2 ⟨by decide, fun _ => by decide, by simp, by simp, by simp, by simp⟩
    · exact hf
  · refine rtE_iff.2 ⟨by rw [head_5, Shp]; exact ⟨rfl, rfl, rfl, rfl, rfl, rfl, rfl, rfl⟩, fun x hx => ?_, by intro i a h; simp at h, by simp, by simp, by simp, by simp⟩
    rw [innerE_ne (by decide) (by decide)]
    simp only [List.mem_cons, List.not_mem_nil, or_false] at hx
    rcases hx with rfl | rfl
    · exact rtE_iff.2 ⟨by rw [head_3, Shp]; exact ⟨rfl, rfl, rfl, rfl, rfl, rfl, rfl⟩, by simp, by intro i a h; simp at h, by simp, by simp, by simp, by simp⟩
    · exact hr.mono fun s hs => List.mem_append_left _ hs
theorem more_rt {e : Cr} {l : List Sup} {s : ByteArray} (h : FlatE (l ++ [moreS e s])) : e.RtE (l.map (·.nm) ++ [s]) [] := by
  have := (h.2 (moreS e s) (by simp)).2
  simpa [moreS] using this
theorem xs_new (l : List Sup) : ∃ k, xs k ∉ l.map (·.nm) := by
  refine Classical.byContradiction fun hn => ?_
  have := xs_bound (n := l.length + 1) (l := l.map (·.nm)) fun j _ => Classical.byContradiction fun h => hn ⟨j, h⟩
  rw [List.length_map] at this
  omega
end Go.AL
namespace Go.Proofs.Ytjjbjibbjbbeaaa
open Go.AL
theorem any_k (e : Cr) (l : List Sup) : AnyK e l := fun h hfl k k' hk hk' hf hn => flat_more h hfl (rtE_nd e [] (more_rt hf) hfl hn) hk'
theorem start_iff (e : Cr) (l : List Sup) (cons : List Con5) : StartOK e l cons ↔ StartD e l cons := by
  constructor
  · rintro ⟨h1, h2, h3, h4⟩
    obtain ⟨hr, hf⟩ := h2.probe
    have e1 : (l ++ [probeS e l]).map (·.nm) = l.map (·.nm) ++ [pbName l] := by simp [probeS]
    rw [e1] at hr
    have hn := cl_nd e [] hr h4
    have hr2 := rtE_nd e [] hr hf hn
    obtain ⟨k, hk⟩ := xs_new l
    exact ⟨h1, h3, hf, hn, k, hk, flat_more h1.1 hf hr2 hk⟩
  · rintro ⟨h1, h3, hf, hn, k, hk, h5⟩
    have hr2 := rtE_nd e [] (more_rt h5) hf hn
    exact ⟨h1, flat_probe h1.1 hf hr2, h3, rt_cl (pb_new l) (pb_op l) e [] hr2⟩
theorem start_la {e : Cr} {l : List Sup} {cons : List Con5} (h : StartD e l cons) : e.La (glOf l cons) := by
  obtain ⟨h1, h3, hf, hn, k, hk, h5⟩ := h
  exact la_of e [] (more_rt h5) hf h3
end Go.Proofs.Ytjjbjibbjbbeaaa
/- A code is the same as itself. -/
set_option linter.unusedVariables false
set_option linter.unusedSimpArgs false
namespace Go.AL
theorem insC_len (i : Ins) : (insC i).length = 4 := rfl
theorem insC_t4 (i : Ins) : List.take 4 (insC i) = insC i := rfl
theorem RelV.len {g : Ghost} {es : List (List AV)} {v : Value} (h : RelV g (.list es) v) : es.length ≤ maxLen := by
  cases h with
  | listNil => simp
  | list h1 h2 h3 h4 h5 h6 h7 => exact Nat.le_trans h6 h7
theorem RelV.cell {g : Ghost} {cs : List AV} {v : Value} {k : Nat} {c : AV} (h : RelV g (.agg cs) v) (hk : cs[k]? = some c) : ∃ w, RelV g c w := by
  cases h with
  | agg hs hc h1 => exact ⟨_, hc k c hk⟩
theorem RelV.elem {g : Ghost} {es : List (List AV)} {v : Value} {i j : Nat} {e : List AV} {c : AV} (h : RelV g (.list es) v) (hi : es[i]? = some e) (hj : e[j]? = some c) : ∃ w, RelV g c w := by
  cases h with
  | listNil => simp at hi
  | list h1 h2 h3 h4 h5 h6 h7 => exact ⟨_, h4 i j e c hi hj⟩
theorem ACalls_know {P : Program} {f : FuncId} {args : List AV} {σ : Store} {K : AV → Store → Prop} (j : Nat) {c : AV} (hj : args[j]? = some c) {p : Prop} (hp : ∀ (g : Ghost) (v : Value), RelV g c v → p) (h : p → ACalls P f args σ K) : ACalls P f args σ K := by
  intro B w0 g w vs hS hl hrel
  exact h (hp g _ (hrel j _ hj)) B w0 g w vs hS hl hrel
theorem row2_ne (a b : Int) : aBin (.row [.int, .int]) .neq (.agg [.int .i64 a, .int .i64 b]) (.agg [.int .i64 a, .int .i64 b]) = some (.bool false) := by
  simp [aBin, eqFs, eq1]
end Go.AL
namespace Go.Proofs.Ytjjbjibbjbbeaaa
open Go.AL
set_option maxHeartbeats 1000000 in
theorem sameC_ok (c : Cd) (σ : Store) : ACalls Try.prog 32 [.agg (codeC c), .agg (codeC c)] σ fun r σ' => r = .bool true ∧ σ' = σ := by
  obtain ⟨nm, ar, con, ops⟩ := c
  unfold codeC
  refine ACalls_len2 (j := 0) (k := 3) rfl rfl fun hm1 => ?_
  simp only [List.length_map, maxLen] at hm1
  refine ACalls_know 0 rfl (p := ∀ (i : Nat) x, ops[i]? = some x → x.js.length ≤ 2 ^ 63 - 1) (fun g v hr i x hx => ?_) fun hm2 => ?_
  · obtain ⟨w, hw⟩ := hr.cell (k := 3) rfl
    obtain ⟨w, hw⟩ := hw.elem (i := i) (j := 3) (e := insC x) (by simp [hx]) rfl
    simpa [maxLen] using hw.len
  refine ACalls_fp (p := fun r => r = .bool true) ?_
  refine in32 (by simp) ?_
  unfold c32
  try simp only [YY, ↓reduceIte, Nat.reduceEqDiff, Nat.reduceAdd, Nat.reduceLeDiff, reduceCtorEq, Int.reduceEq, Int.reduceLT, Int.reduceLE, Int.reduceNeg, Int.reduceAdd, Int.reduceSub, Int.reduceToNat]
  iterate 2 ((with_reducible refine WW (by decide) ?_); refine unr ?_; try simp only [YY, ↓reduceIte, Nat.reduceEqDiff, Nat.reduceAdd, Nat.reduceLeDiff, reduceCtorEq, Int.reduceEq, Int.reduceLT, Int.reduceLE, Int.reduceNeg, Int.reduceAdd, Int.reduceSub, Int.reduceToNat])
  generalize hs : Store.push _ _ = s1
  have k1 : Kp σ s1 := by rw [← hs]; exact (Kp.pushed _ _).push _
  have he1 : s1.get σ.next = some (.cells 81 0 4 [[.str nm, .int .i64 ar, .bool con, .list (ops.map insC)]]) := by rw [← hs]; simp [Store.push_get, Store.push_next]
  have he2 : s1.get (σ.next + 1) = some (.cells 81 0 4 [[.str nm, .int .i64 ar, .bool con, .list (ops.map insC)]]) := by rw [← hs]; simp [Store.push_get, Store.push_next]
  clear hs
  have g1 := he1
  have g2 := he2
  refine AWP_cut [2, 3] (fun _ : Unit => [.ptr σ.next 0 0 0, .ptr (σ.next + 1) 0 0 0]) (fun _ s => s1 = s) ?_ ?_
  · refine raw ?_
    repeat' (first | (with_reducible refine unr ?_; try simp only [YY, ↓reduceIte, Nat.reduceEqDiff, Nat.reduceAdd, Nat.reduceLeDiff, reduceCtorEq, Int.reduceEq, Int.reduceLT, Int.reduceLE, Int.reduceNeg, Int.reduceAdd, Int.reduceSub, Int.reduceToNat, he1, he2, str_nil, *]) | (with_reducible first | refine WW (by decide) ?_ | refine ok_idx (by first | assumption | omega) (fun b hb => raw ?_) | refine ok_iad (by first | assumption | omega) (fun x hx hxm => raw ?_) | refine And.intro (by omega) (raw ?_) | (refine guardW_b (fun h => raw ?_) (fun h => raw ?_) <;> try simp only [Ty] at h) | (refine ePick_b (fun h => raw ?_) (fun h => raw ?_) <;> try simp only [Ty] at h) | (refine condW_b (fun h => raw ?_) (fun h => raw ?_) <;> try simp only [Ty] at h)))
    exact ⟨(), trivial⟩
  rintro _ _ rfl
  refine raw ?_
  repeat (first | (with_reducible refine unr ?_; try simp only [YY, ↓reduceIte, Nat.reduceEqDiff, Nat.reduceAdd, Nat.reduceLeDiff, reduceCtorEq, Int.reduceEq, Int.reduceLT, Int.reduceLE, Int.reduceNeg, Int.reduceAdd, Int.reduceSub, Int.reduceToNat, he1, he2]) | (with_reducible refine WW (by decide) ?_))
  refine AWP_while [2, 3, 5] (fun i : Nat => ops.length - i) (fun i => [.ptr σ.next 0 0 0, .ptr (σ.next + 1) 0 0 0, .int .i64 i]) (fun i t => Kp s1 t ∧ i ≤ ops.length) 0 ⟨.refl _, by simp⟩ ?_ ?_
  · refine raw ?_
    repeat (first | (with_reducible refine unr ?_; try simp only [YY, ↓reduceIte, Nat.reduceEqDiff, Nat.reduceAdd, Nat.reduceLeDiff, reduceCtorEq, Int.reduceEq, Int.reduceLT, Int.reduceLE, Int.reduceNeg, Int.reduceAdd, Int.reduceSub, Int.reduceToNat]) | (with_reducible refine WW (by decide) ?_))
    rfl
  rintro i t ⟨k2, hi⟩
  have he1 := k2.get g1
  have he2 := k2.get g2
  have hq1 := lt_ne (t.lt he1)
  have hq2 := lt_ne (t.lt he2)
  by_cases hil : i < ops.length
  · have hil' : (i : Int) < (ops.length : Int) := by omega
    have hw := wrap_succ (i := i) (by omega)
    obtain ⟨x, hx⟩ : ∃ x, ops[i]? = some x := ⟨_, List.getElem?_eq_getElem hil⟩
    have hg : (ops.map insC)[i]? = some (insC x) := by simp [hx]
    have hjl := hm2 i x hx
    clear hm2
    try simp only [YY, ↓reduceIte, Nat.reduceEqDiff, Nat.reduceAdd, Nat.reduceLeDiff, reduceCtorEq, Int.reduceEq, Int.reduceLT, Int.reduceLE, Int.reduceNeg, Int.reduceAdd, Int.reduceSub, Int.reduceToNat, he1, he2, hil', hg, insC_len, insC_t4, hq1, hq2, lt_ne2 (t.lt he1), lt_ne2 (t.lt he2)]
    iterate 9 ((with_reducible refine WW (by decide) ?_); refine unr ?_; try simp only [YY, ↓reduceIte, Nat.reduceEqDiff, Nat.reduceAdd, Nat.reduceLeDiff, reduceCtorEq, Int.reduceEq, Int.reduceLT, Int.reduceLE, Int.reduceNeg, Int.reduceAdd, Int.reduceSub, Int.reduceToNat, he1, he2, hil', hg, insC_len, insC_t4, hq1, hq2, lt_ne2 (t.lt he1), lt_ne2 (t.lt he2)])
    generalize hs : Store.push _ _ = s3
    have k3 : Kp t s3 := by rw [← hs]; exact (Kp.pushed _ _).push _
    have f1 : s3.get t.next = some (.cells 139 0 4 [insC x]) := by rw [← hs]; simp [Store.push_get, Store.push_next]
    have f2 : s3.get (t.next + 1) = some (.cells 139 0 4 [insC x]) := by rw [← hs]; simp [Store.push_get, Store.push_next]
    clear hs
    unfold insC at f1 f2
    have d1 := f1
    have d2 := f2
    refine AWP_cut [2, 3, 5, 6, 7] (fun _ : Unit => [.ptr σ.next 0 0 0, .ptr (σ.next + 1) 0 0 0, .int .i64 i, .ptr t.next 0 0 0, .ptr (t.next + 1) 0 0 0]) (fun _ s => s3 = s) ?_ ?_
    · refine raw ?_
      repeat' (first | (with_reducible refine unr ?_; try simp only [YY, ↓reduceIte, Nat.reduceEqDiff, Nat.reduceAdd, Nat.reduceLeDiff, reduceCtorEq, Int.reduceEq, Int.reduceLT, Int.reduceLE, Int.reduceNeg, Int.reduceAdd, Int.reduceSub, Int.reduceToNat, f1, f2, str_nil, *]) | (with_reducible first | refine WW (by decide) ?_ | refine ok_idx (by first | assumption | omega) (fun b hb => raw ?_) | refine ok_iad (by first | assumption | omega) (fun x hx hxm => raw ?_) | refine And.intro (by omega) (raw ?_) | (refine guardW_b (fun h => raw ?_) (fun h => raw ?_) <;> try simp only [Ty] at h) | (refine ePick_b (fun h => raw ?_) (fun h => raw ?_) <;> try simp only [Ty] at h) | (refine condW_b (fun h => raw ?_) (fun h => raw ?_) <;> try simp only [Ty] at h)))
      exact ⟨(), trivial⟩
    rintro _ _ rfl
    refine raw ?_
    repeat (first | (with_reducible refine unr ?_; try simp only [YY, ↓reduceIte, Nat.reduceEqDiff, Nat.reduceAdd, Nat.reduceLeDiff, reduceCtorEq, Int.reduceEq, Int.reduceLT, Int.reduceLE, Int.reduceNeg, Int.reduceAdd, Int.reduceSub, Int.reduceToNat]) | (with_reducible refine WW (by decide) ?_))
    refine AWP_while [2, 3, 5, 6, 7, 8] (fun m : Nat => x.js.length - m) (fun m => [.ptr σ.next 0 0 0, .ptr (σ.next + 1) 0 0 0, .int .i64 i, .ptr t.next 0 0 0, .ptr (t.next + 1) 0 0 0, .int .i64 m]) (fun m u => Kp s3 u ∧ m ≤ x.js.length) 0 ⟨.refl _, by simp⟩ ?_ ?_
    · refine raw ?_
      repeat (first | (with_reducible refine unr ?_; try simp only [YY, ↓reduceIte, Nat.reduceEqDiff, Nat.reduceAdd, Nat.reduceLeDiff, reduceCtorEq, Int.reduceEq, Int.reduceLT, Int.reduceLE, Int.reduceNeg, Int.reduceAdd, Int.reduceSub, Int.reduceToNat]) | (with_reducible refine WW (by decide) ?_))
      rfl
    rintro m u ⟨k4, hmi⟩
    have f1 := k4.get d1
    have f2 := k4.get d2
    by_cases hml : m < x.js.length
    · have hml' : (m : Int) < (x.js.length : Int) := by omega
      have hw2 := wrap_succ (i := m) (by omega)
      obtain ⟨y, hy⟩ : ∃ y, x.js[m]? = some y := ⟨_, List.getElem?_eq_getElem hml⟩
      have hg2 : (x.js.map jC)[m]? = some (jC y) := by simp [hy]
      have hrow := row2_ne y.1 y.2
      refine raw ?_
      repeat' (first | (with_reducible refine unr ?_; try simp only [YY, ↓reduceIte, Nat.reduceEqDiff, Nat.reduceAdd, Nat.reduceLeDiff, reduceCtorEq, Int.reduceEq, Int.reduceLT, Int.reduceLE, Int.reduceNeg, Int.reduceAdd, Int.reduceSub, Int.reduceToNat, f1, f2, hml', hg2, jC, hrow, str_nil, *]) | (with_reducible first | refine WW (by decide) ?_ | refine ok_idx (by first | assumption | omega) (fun b hb => raw ?_) | refine ok_iad (by first | assumption | omega) (fun x hx hxm => raw ?_) | refine And.intro (by omega) (raw ?_) | (refine guardW_b (fun h => raw ?_) (fun h => raw ?_) <;> try simp only [Ty] at h) | (refine ePick_b (fun h => raw ?_) (fun h => raw ?_) <;> try simp only [Ty] at h) | (refine condW_b (fun h => raw ?_) (fun h => raw ?_) <;> try simp only [Ty] at h)))
      exact ⟨m + 1, rfl, by omega, by omega⟩
    · have hml' : ¬ (m : Int) < (x.js.length : Int) := by omega
      refine raw ?_
      repeat (first | (with_reducible refine unr ?_; try simp only [YY, ↓reduceIte, Nat.reduceEqDiff, Nat.reduceAdd, Nat.reduceLeDiff, reduceCtorEq, Int.reduceEq, Int.reduceLT, Int.reduceLE, Int.reduceNeg, Int.reduceAdd, Int.reduceSub, Int.reduceToNat, f1, f2, hml', hw]) | (with_reducible refine WW (by decide) ?_))
      exact ⟨i + 1, rfl, ⟨k2.trans (k3.trans k4), by omega⟩, by omega⟩
  · have hil' : ¬ (i : Int) < (ops.length : Int) := by omega
    refine raw ?_
    repeat (first | (with_reducible refine unr ?_; try simp only [YY, ↓reduceIte, Nat.reduceEqDiff, Nat.reduceAdd, Nat.reduceLeDiff, reduceCtorEq, Int.reduceEq, Int.reduceLT, Int.reduceLE, Int.reduceNeg, Int.reduceAdd, Int.reduceSub, Int.reduceToNat, he1, he2, hil']) | (with_reducible refine WW (by decide) ?_))
    exact FP.same (k1.trans k2) rfl (.bool _)
end Go.Proofs.Ytjjbjibbjbbeaaa
/- The resolved code of some functions. -/
set_option linter.unusedVariables false
namespace Go.Proofs.Ytjjbjibbjbbeaaa.Own
open Go.AL
/-- changeling/changelinglaw17.truths -/
def c31 : ACode :=
(.seq
 (.reg [oo 0 (.move (.c .nils))])
 (.seq
 (.reg [oo 1 (.build [(.str ⟨#[]⟩), (.str ⟨#[]⟩), (.int .i64 0), (.int .i64 0), .nils] [(0, 1, (.c (.str ⟨#[70, 97, 108, 115, 101]⟩))), (1, 1, (.c (.str ⟨#[66, 111, 111, 108]⟩)))]),
 oo 2 (.build [(.str ⟨#[]⟩), (.str ⟨#[]⟩), (.int .i64 0), (.int .i64 0), .nils] [(0, 1, (.c (.str ⟨#[84, 114, 117, 101]⟩))), (1, 1, (.c (.str ⟨#[66, 111, 111, 108]⟩))), (2, 1, (.c (.int .i64 1)))]),
 oo 3 (.lit true 87 5 [(.t 1), (.t 2)]),
 mv 0 3])
 .ret))
theorem in31 {args : List AV} {σ : Store} {K : AV → Store → Prop} (hargs : args.length ≤ 4 := by simp) (h : AWP Try.prog Try.f31.ntmps c31 (fun e t s => match e with | .exit _ => False | _ => Res [.slot 0] K t s) (env (argList 0 args)) σ) : ACalls Try.prog 31 args σ K :=
  enter (own := [3]) Try.func31 (by kernel_rfl) (by kernel_rfl) (by kernel_rfl) hargs h
end Go.Proofs.Ytjjbjibbjbbeaaa.Own
/- The resolved code of some functions, as it is run on values. -/
set_option linter.unusedVariables false
namespace Go.Proofs.Ytjjbjibbjbbeaaa
open Go.AL
/-- changeling/changelinglaw17.known -/
def v26 : ACode :=
(.seq
 (.reg [oo 0 (.move (.c (.bool false)))])
 (.seq
 (.reg [oo 5 (.lit true 9 1 [(.c (.str ⟨#[35, 48]⟩)), (.c (.str ⟨#[35, 49]⟩))]),
 oo 6 (.build [(.int .i64 0), (.str ⟨#[]⟩), (.int .i64 0), (.int .i64 0), .nils, .nils, .nils, .nils, .nils] [(0, 1, (.c (.int .i64 1))), (1, 1, (.c (.str ⟨#[35, 48]⟩)))]),
 oo 7 (.build [(.str ⟨#[]⟩), .nils, (.int .i64 0), (.str ⟨#[]⟩), (.int .i64 0), (.int .i64 0), .nils, .nils, .nils, .nils, .nils] [(0, 1, (.c (.str ⟨#[107]⟩))), (1, 1, (.t 5)), (2, 9, (.t 6))]),
 oo 8 (.lit true 71 11 [(.t 7)]),
 oo 9 (.call 31 []),
 oo 10 (.call 27 [(.t 8), (.t 9)]),
 mv 4 10,
 oo 11 (.extract (.t 4) 0),
 oo 12 (.extract (.t 4) 1),
 mv 1 11,
 mv 2 12])
 (.seq
 (.seq
 (.reg [mv 13 2,
 oo 14 (.bin .int .neq (.t 13) (.c (.int .i64 0))),
 mv 15 14,
 og 16 15 false (.move (.t 1)),
 og 17 15 false (.len .slice (.t 16)),
 og 18 15 false (.bin .int .neq (.t 17) (.c (.int .i64 14))),
 oo 19 (.pick (.t 15) (.c (.bool true)) (.t 18))])
 (.cond (.t 19)
 (.seq
 (.reg [oo 0 (.move (.c (.bool false)))])
 .ret)
 .skip))
 (.seq
 (.reg [oo 20 (.build [(.int .i64 0), (.int .i64 0), (.int .i64 0), .nils] [(0, 1, (.c (.int .i64 1)))]),
 oo 21 (.build [(.int .i64 0), (.int .i64 0), (.int .i64 0), .nils] [(0, 1, (.c (.int .i64 5))), (1, 1, (.c (.int .i64 2)))]),
 oo 22 (.build [(.int .i64 0), (.int .i64 0), (.int .i64 0), .nils] [(0, 1, (.c (.int .i64 6))), (1, 1, (.c (.int .i64 2)))]),
 oo 23 (.build [(.int .i64 0), (.int .i64 0), (.int .i64 0), .nils] [(0, 1, (.c (.int .i64 10)))]),
 oo 24 (.lit true 139 4 [(.t 20), (.t 21), (.t 22), (.t 23)]),
 oo 25 (.build [(.str ⟨#[]⟩), (.int .i64 0), (.bool false), .nils] [(0, 1, (.c (.str ⟨#[107]⟩))), (1, 1, (.c (.int .i64 2))), (3, 1, (.t 24))]),
 oo 3 (.new 81 (.c (.agg [(.str ⟨#[]⟩), (.int .i64 0), (.bool false), .nils]))),
 ⟨none, .store 4 (.t 3) (.t 25), none⟩])
 (.seq
 (.reg [mv 26 1,
 oo 27 (.iaddr 4 (.t 26) (.c (.int .i64 0))),
 oo 28 (.load (some 4) (.t 27)),
 oo 29 (.load (some 4) (.t 3)),
 oo 30 (.call 32 [(.t 28), (.t 29)]),
 mv 31 30,
 og 32 31 true (.move (.t 1)),
 og 33 31 true (.iaddr 4 (.t 32) (.c (.int .i64 1))),
 og 34 31 true (.faddr 0 (.t 33)),
 og 35 31 true (.load none (.t 34)),
 og 36 31 true (.bin .str .eql (.t 35) (.c (.str ⟨#[70, 97, 108, 115, 101]⟩))),
 oo 37 (.pick (.t 31) (.t 36) (.c (.bool false))),
 mv 38 37,
 og 39 38 true (.move (.t 1)),
 og 40 38 true (.iaddr 4 (.t 39) (.c (.int .i64 1))),
 og 41 38 true (.faddr 2 (.t 40)),
 og 42 38 true (.load none (.t 41)),
 oo 43 (.pick (.t 38) (.t 42) (.c (.bool false))),
 mv 44 43,
 og 45 44 true (.move (.t 1)),
 og 46 44 true (.iaddr 4 (.t 45) (.c (.int .i64 13))),
 og 47 44 true (.faddr 0 (.t 46)),
 og 48 44 true (.load none (.t 47)),
 og 49 44 true (.bin .str .eql (.t 48) (.c (.str ⟨#[62, 61]⟩))),
 oo 50 (.pick (.t 44) (.t 49) (.c (.bool false))),
 mv 0 50])
 .ret)))))
theorem ent26 : EntOK Try.prog 26 ⟨51, v26, [.slot 0]⟩ := fun args σ K ha h =>
  enter (own := List.range 51) Try.func26 (by kernel_rfl) (by kernel_rfl) (by kernel_rfl) ha h
theorem ent27 : EntOK Try.prog 27 ⟨62, c27, [.slot 4, .slot 5]⟩ := fun args σ K ha h =>
  in27 ha h
theorem ent31 : EntOK Try.prog 31 ⟨4, c31, [.slot 0]⟩ := fun args σ K ha h =>
  in31 ha h
theorem ent32 : EntOK Try.prog 32 ⟨100, c32, [.slot 4]⟩ := fun args σ K ha h =>
  in32 ha h
theorem ent56 : EntOK Try.prog 56 ⟨34, c56, [.slot 4, .slot 5]⟩ := fun args σ K ha h =>
  in56 ha h
theorem ent57 : EntOK Try.prog 57 ⟨31, c57, [.cell 4 (some 4)]⟩ := fun args σ K ha h =>
  in57 ha h
theorem ent58 : EntOK Try.prog 58 ⟨44, c58, [.cell 6 (some 4)]⟩ := fun args σ K ha h =>
  in58 ha h
theorem ent59 : EntOK Try.prog 59 ⟨29, c59, [.cell 4 (some 4)]⟩ := fun args σ K ha h =>
  in59 ha h
theorem ent62 : EntOK Try.prog 62 ⟨72, c62, [.slot 2]⟩ := fun args σ K ha h =>
  in62 ha h
theorem ent64 : EntOK Try.prog 64 ⟨91, c64, [.slot 4]⟩ := fun args σ K ha h =>
  in64 ha h
theorem ent66 : EntOK Try.prog 66 ⟨133, c66, []⟩ := fun args σ K ha h =>
  in66 ha h
theorem ent67 : EntOK Try.prog 67 ⟨25, c67, [.slot 6]⟩ := fun args σ K ha h =>
  in67 ha h
theorem ent83 : EntOK Try.prog 83 ⟨15, c83, [.slot 2]⟩ := fun args σ K ha h =>
  in83 ha h
theorem ent85 : EntOK Try.prog 85 ⟨9, c85, [.slot 4]⟩ := fun args σ K ha h =>
  in85 ha h
theorem ent86 : EntOK Try.prog 86 ⟨266, c86, [.slot 6]⟩ := fun args σ K ha h =>
  in86 ha h
theorem ent105 : EntOK Try.prog 105 ⟨82, c105, [.slot 4, .slot 5]⟩ := fun args σ K ha h =>
  in105 ha h
theorem ent106 : EntOK Try.prog 106 ⟨102, c106, []⟩ := fun args σ K ha h =>
  in106 ha h
theorem ent107 : EntOK Try.prog 107 ⟨34, c107, [.slot 8]⟩ := fun args σ K ha h =>
  in107 ha h
theorem ent108 : EntOK Try.prog 108 ⟨12, c108, []⟩ := fun args σ K ha h =>
  in108 ha h
theorem ent109 : EntOK Try.prog 109 ⟨18, c109, []⟩ := fun args σ K ha h =>
  in109 ha h
theorem ent110 : EntOK Try.prog 110 ⟨26, c110, [.slot 2]⟩ := fun args σ K ha h =>
  in110 ha h
theorem ent111 : EntOK Try.prog 111 ⟨23, c111, [.slot 2]⟩ := fun args σ K ha h =>
  in111 ha h
theorem ent112 : EntOK Try.prog 112 ⟨92, c112, [.slot 4]⟩ := fun args σ K ha h =>
  in112 ha h
theorem ent113 : EntOK Try.prog 113 ⟨30, c113, [.slot 6]⟩ := fun args σ K ha h =>
  in113 ha h
theorem ent114 : EntOK Try.prog 114 ⟨25, c114, [.slot 4]⟩ := fun args σ K ha h =>
  in114 ha h
theorem ent115 : EntOK Try.prog 115 ⟨25, c115, [.slot 4]⟩ := fun args σ K ha h =>
  in115 ha h
theorem ent116 : EntOK Try.prog 116 ⟨25, c116, [.slot 4]⟩ := fun args σ K ha h =>
  in116 ha h
theorem ent117 : EntOK Try.prog 117 ⟨59, c117, [.slot 8]⟩ := fun args σ K ha h =>
  in117 ha h
theorem ent136 : EntOK Try.prog 136 ⟨19, c136, [.slot 2]⟩ := fun args σ K ha h =>
  in136 ha h
theorem ent141 : EntOK Try.prog 141 ⟨79, c141, [.slot 2, .slot 3]⟩ := fun args σ K ha h =>
  in141 ha h
theorem ent142 : EntOK Try.prog 142 ⟨19, c142, [.slot 4]⟩ := fun args σ K ha h =>
  in142 ha h
theorem ent143 : EntOK Try.prog 143 ⟨12, c143, [.slot 4]⟩ := fun args σ K ha h =>
  in143 ha h
theorem ent144 : EntOK Try.prog 144 ⟨128, c144, [.slot 6]⟩ := fun args σ K ha h =>
  in144 ha h
theorem ent145 : EntOK Try.prog 145 ⟨34, c145, [.slot 6]⟩ := fun args σ K ha h =>
  in145 ha h
theorem ent152 : EntOK Try.prog 152 ⟨147, c152, []⟩ := fun args σ K ha h =>
  in152 ha h
theorem ent153 : EntOK Try.prog 153 ⟨88, c153, []⟩ := fun args σ K ha h =>
  in153 ha h
theorem ent154 : EntOK Try.prog 154 ⟨20, c154, [.slot 2]⟩ := fun args σ K ha h =>
  in154 ha h
theorem ent160 : EntOK Try.prog 160 ⟨9, c160, [.slot 4]⟩ := fun args σ K ha h =>
  in160 ha h
theorem ent167 : EntOK Try.prog 167 ⟨14, c167, [.slot 6]⟩ := fun args σ K ha h =>
  in167 ha h
theorem ent168 : EntOK Try.prog 168 ⟨25, c168, []⟩ := fun args σ K ha h =>
  in168 ha h
theorem ent169 : EntOK Try.prog 169 ⟨8, c169, [.slot 4]⟩ := fun args σ K ha h =>
  in169 ha h
theorem ent172 : EntOK Try.prog 172 ⟨19, c172, [.slot 4]⟩ := fun args σ K ha h =>
  in172 ha h
theorem ent173 : EntOK Try.prog 173 ⟨18, c173, [.slot 4]⟩ := fun args σ K ha h =>
  in173 ha h
noncomputable def tabL : List (Nat × FEnt) := [(26, ⟨51, v26, [.slot 0]⟩),
  (27, ⟨62, c27, [.slot 4, .slot 5]⟩),
  (31, ⟨4, c31, [.slot 0]⟩),
  (32, ⟨100, c32, [.slot 4]⟩),
  (56, ⟨34, c56, [.slot 4, .slot 5]⟩),
  (57, ⟨31, c57, [.cell 4 (some 4)]⟩),
  (58, ⟨44, c58, [.cell 6 (some 4)]⟩),
  (59, ⟨29, c59, [.cell 4 (some 4)]⟩),
  (62, ⟨72, c62, [.slot 2]⟩),
  (64, ⟨91, c64, [.slot 4]⟩),
  (66, ⟨133, c66, []⟩),
  (67, ⟨25, c67, [.slot 6]⟩),
  (83, ⟨15, c83, [.slot 2]⟩),
  (85, ⟨9, c85, [.slot 4]⟩),
  (86, ⟨266, c86, [.slot 6]⟩),
  (105, ⟨82, c105, [.slot 4, .slot 5]⟩),
  (106, ⟨102, c106, []⟩),
  (107, ⟨34, c107, [.slot 8]⟩),
  (108, ⟨12, c108, []⟩),
  (109, ⟨18, c109, []⟩),
  (110, ⟨26, c110, [.slot 2]⟩),
  (111, ⟨23, c111, [.slot 2]⟩),
  (112, ⟨92, c112, [.slot 4]⟩),
  (113, ⟨30, c113, [.slot 6]⟩),
  (114, ⟨25, c114, [.slot 4]⟩),
  (115, ⟨25, c115, [.slot 4]⟩),
  (116, ⟨25, c116, [.slot 4]⟩),
  (117, ⟨59, c117, [.slot 8]⟩),
  (136, ⟨19, c136, [.slot 2]⟩),
  (141, ⟨79, c141, [.slot 2, .slot 3]⟩),
  (142, ⟨19, c142, [.slot 4]⟩),
  (143, ⟨12, c143, [.slot 4]⟩),
  (144, ⟨128, c144, [.slot 6]⟩),
  (145, ⟨34, c145, [.slot 6]⟩),
  (152, ⟨147, c152, []⟩),
  (153, ⟨88, c153, []⟩),
  (154, ⟨20, c154, [.slot 2]⟩),
  (160, ⟨9, c160, [.slot 4]⟩),
  (167, ⟨14, c167, [.slot 6]⟩),
  (168, ⟨25, c168, []⟩),
  (169, ⟨8, c169, [.slot 4]⟩),
  (172, ⟨19, c172, [.slot 4]⟩),
  (173, ⟨18, c173, [.slot 4]⟩)]
theorem tab_ok : (tabOf tabL).OK Try.prog := tabOf_ok (by
  unfold tabL
  refine .cons ent26 ?_
  refine .cons ent27 ?_
  refine .cons ent31 ?_
  refine .cons ent32 ?_
  refine .cons ent56 ?_
  refine .cons ent57 ?_
  refine .cons ent58 ?_
  refine .cons ent59 ?_
  refine .cons ent62 ?_
  refine .cons ent64 ?_
  refine .cons ent66 ?_
  refine .cons ent67 ?_
  refine .cons ent83 ?_
  refine .cons ent85 ?_
  refine .cons ent86 ?_
  refine .cons ent105 ?_
  refine .cons ent106 ?_
  refine .cons ent107 ?_
  refine .cons ent108 ?_
  refine .cons ent109 ?_
  refine .cons ent110 ?_
  refine .cons ent111 ?_
  refine .cons ent112 ?_
  refine .cons ent113 ?_
  refine .cons ent114 ?_
  refine .cons ent115 ?_
  refine .cons ent116 ?_
  refine .cons ent117 ?_
  refine .cons ent136 ?_
  refine .cons ent141 ?_
  refine .cons ent142 ?_
  refine .cons ent143 ?_
  refine .cons ent144 ?_
  refine .cons ent145 ?_
  refine .cons ent152 ?_
  refine .cons ent153 ?_
  refine .cons ent154 ?_
  refine .cons ent160 ?_
  refine .cons ent167 ?_
  refine .cons ent168 ?_
  refine .cons ent169 ?_
  refine .cons ent172 ?_
  refine .cons ent173 ?_
  exact .nil)
end Go.Proofs.Ytjjbjibbjbbeaaa
/- The law CodeAlone. -/
set_option linter.unusedVariables false
set_option linter.unusedSimpArgs false
namespace Go.Proofs.Ytjjbjibbjbbeaaa
open Go.AL
set_option maxRecDepth 1000000 in
theorem code_run : saysF true (callF (tabOf tabL) (runF (tabOf tabL) 300) 26 [] 0 .nil) = true := by kernel_rfl
theorem code_known (σ : Store) : ACalls Try.prog 26 [] σ fun r σ' => r = .bool true ∧ σ' = σ := ACalls_shut (ACalls_says tab_ok code_run) σ
theorem size7 (x : Cr) (h : x.Sm) (σ : Store) : ACalls Try.prog 17 [.agg x.cells] σ fun r σ' => (∃ n : Int, r = .int .i64 n ∧ True) ∧ σ' = σ := (size_ok x h σ).mono fun r s ⟨⟨n, hn⟩, hs⟩ => ⟨⟨n, hn, trivial⟩, hs⟩
theorem small_ok (l : List Sup) (hb : bulkS l ≤ 1048576) (σ : Store) : ACalls Try.prog 25 [.list (l.map supC)] σ fun r σ' => (∃ b : Bool, r = .bool b ∧ True) ∧ σ' = σ := by
  refine in25 (by simp) ?_
  unfold c25
  have hdl := lenS l
  refine raw ?_
  repeat (first | (with_reducible refine unr ?_; try simp only [YY, ↓reduceIte, Nat.reduceEqDiff, Nat.reduceAdd, Nat.reduceLeDiff, reduceCtorEq, Int.reduceEq, Int.reduceLT, Int.reduceLE, Int.reduceNeg, Int.reduceAdd, Int.reduceSub, Int.reduceToNat]) | (with_reducible refine WW (by decide) ?_))
  refine AWP_while [0, 3, 4] (fun y : Int × Nat => l.length - y.2) (fun y => [.list (l.map supC), .int .i64 y.1, .int .i64 y.2])
    (fun y t => σ = t ∧ y.2 ≤ l.length) (0, 0) ⟨rfl, by simp⟩ ?_ ?_
  · refine raw ?_
    repeat (first | (with_reducible refine unr ?_; try simp only [YY, ↓reduceIte, Nat.reduceEqDiff, Nat.reduceAdd, Nat.reduceLeDiff, reduceCtorEq, Int.reduceEq, Int.reduceLT, Int.reduceLE, Int.reduceNeg, Int.reduceAdd, Int.reduceSub, Int.reduceToNat]) | (with_reducible refine WW (by decide) ?_))
    rfl
  rintro ⟨a, i⟩ _ ⟨rfl, hi⟩
  simp only at hi
  have hw := wrap_succ (i := i) (by omega)
  by_cases hil : i < l.length
  · have hil' : (i : Int) < (l.length : Int) := by omega
    obtain ⟨x, hx⟩ : ∃ x, l[i]? = some x := ⟨_, List.getElem?_eq_getElem hil⟩
    have hg : (l.map supC)[i]? = some (supC x) := by simp [hx]
    have hxb := bulkS_le (List.mem_of_getElem? hx)
    have hsm := x.bd.sm_of_bulk (by omega)
    refine raw ?_
    repeat' (first | (with_reducible refine unr ?_; try simp only [YY, ↓reduceIte, Nat.reduceEqDiff, Nat.reduceAdd, Nat.reduceLeDiff, reduceCtorEq, Int.reduceEq, Int.reduceLT, Int.reduceLE, Int.reduceNeg, Int.reduceAdd, Int.reduceSub, Int.reduceToNat, hil', hg, supC, Cr.len, Cr.take9, Cr.drop9, str_nil, *]) | (with_reducible first | refine WW (by decide) ?_ | refine ok_idx (by first | assumption | omega) (fun b hb => raw ?_) | refine ok_iad (by first | assumption | omega) (fun x hx hxm => raw ?_) | refine And.intro (by omega) (raw ?_) | (refine guardW_b (fun h => raw ?_) (fun h => raw ?_) <;> try simp only [Ty] at h) | (refine ePick_b (fun h => raw ?_) (fun h => raw ?_) <;> try simp only [Ty] at h) | (refine condW_b (fun h => raw ?_) (fun h => raw ?_) <;> try simp only [Ty] at h) | (refine (size7 x.bd hsm _).mono ?_; rintro _ _ ⟨⟨b, rfl, hb⟩, rfl⟩; refine raw ?_)))
    all_goals first
      | exact ⟨_, rfl⟩
      | exact ⟨(_, i + 1), rfl, by simp only; omega, by simp only; omega⟩
  · have hil' : ¬ (i : Int) < (l.length : Int) := by omega
    refine raw ?_
    repeat (first | (with_reducible refine unr ?_; try simp only [YY, ↓reduceIte, Nat.reduceEqDiff, Nat.reduceAdd, Nat.reduceLeDiff, reduceCtorEq, Int.reduceEq, Int.reduceLT, Int.reduceLE, Int.reduceNeg, Int.reduceAdd, Int.reduceSub, Int.reduceToNat, hil']) | (with_reducible refine WW (by decide) ?_))
    exact ⟨_, rfl⟩
end Go.Proofs.Ytjjbjibbjbbeaaa
/- The law CodeStarts. -/
set_option linter.unusedVariables false
set_option linter.unusedSimpArgs false
namespace Go.AL
theorem rowC_elen (l : List Ins) (σ : Store) : eLen .slice (rowC l) σ = some (.int .i64 l.length, σ) := by rw [rowC, eLen_list, List.length_map]
theorem rowC_co (l : List Ins) : (rowC l).cellsOf = some [rowC l] := rfl
def zeroCd : Cd := ⟨⟨#[]⟩, 0, false, []⟩
/-- What begins. -/
noncomputable def startV (e : Cr) (l : List Sup) (cons : List Con5) : Cd × Int := @ite _ (StartOK e l cons) (Classical.propDecidable _) (startS e l cons, 0) (zeroCd, 1)
theorem startR_v {e : Cr} {l : List Sup} {cons : List Con5} {r : AV} (h : StartR e l cons r) : LeD r (.tuple [.agg (codeC (startV e l cons).1), .int .i64 (startV e l cons).2]) := by
  unfold startV
  rcases h with ⟨hn, rfl⟩ | ⟨ho, rfl⟩
  · rw [if_neg hn]
    exact .tuple (.cons (.agg (.cons (.refl _) (.cons (.refl _) (.cons (.refl _) (.cons .nil .nil))))) (.cons (.refl _) .nil))
  · rw [if_pos ho]
    exact .tuple (.cons (leD_code _) (.cons (.refl _) .nil))
end Go.AL
namespace Go.Proofs.Ytjjbjibbjbbeaaa
open Go.AL
set_option maxHeartbeats 1000000 in
theorem startD_ok (e : Cr) (l : List Sup) (cons : List Con5) (hb : bulkS l + e.bulk ≤ 1100000) (hl : l.length + cons.length ≤ 100000000) (σ : Store) :
    ACalls Try.prog 34 [.agg e.cells, .list (l.map supC), .list (cons.map con5C)] σ fun r s => StartR e l cons r ∧ s = σ := by
  have hll := lenS l
  refine ACalls_fp (p := StartR e l cons) ?_
  refine in34 (by simp) ?_
  unfold c34
  try simp only [YY, ↓reduceIte, Nat.reduceEqDiff, Nat.reduceAdd, Nat.reduceLeDiff, reduceCtorEq, Int.reduceEq, Int.reduceLT, Int.reduceLE, Int.reduceNeg, Int.reduceAdd, Int.reduceSub, Int.reduceToNat, Cr.len]
  iterate 2 ((with_reducible refine WW (by decide) ?_); refine unr ?_; try simp only [YY, ↓reduceIte, Nat.reduceEqDiff, Nat.reduceAdd, Nat.reduceLeDiff, reduceCtorEq, Int.reduceEq, Int.reduceLT, Int.reduceLE, Int.reduceNeg, Int.reduceAdd, Int.reduceSub, Int.reduceToNat, Cr.len])
  generalize hs : Store.push _ _ = s1
  have k1 : Kp σ s1 := by rw [← hs]; exact (Kp.pushed _ _).push _
  have n1 : s1.next = σ.next + 2 := by rw [← hs]; rfl
  have e1 : s1.get σ.next = some (.cells 54 0 9 [e.cells]) := by rw [← hs]; simp [Store.push_get, Store.push_next]
  have e2 : s1.get (σ.next + 1) = some (.cells 81 0 4 [[.str ⟨#[]⟩, .int .i64 0, .bool false, .nils]]) := by rw [← hs]; simp [Store.push_get, Store.push_next]
  clear hs
  have hu : ∀ o, (s1.upd (σ.next + 1) o).get (σ.next + 1) = some o := fun o => Store.get_upd_self _ _ (s1.lt e2)
  have hcl : ∀ (a : List AV) (n : Int), Cln σ.next (.agg a) → Cln σ.next (.tuple [.agg a, .int .i64 n]) := fun a n h => by
    refine .tuple' fun x hx => ?_
    simp only [List.mem_cons, List.not_mem_nil, or_false] at hx
    rcases hx with rfl | rfl
    · exact h
    · exact .int _ _
  refine raw ?_
  repeat (first | (with_reducible refine unr ?_; try simp only [YY, ↓reduceIte, Nat.reduceEqDiff, Nat.reduceAdd, Nat.reduceLeDiff, reduceCtorEq, Int.reduceEq, Int.reduceLT, Int.reduceLE, Int.reduceNeg, Int.reduceAdd, Int.reduceSub, Int.reduceToNat, e1, Cr.len, Cr.take9]) | (with_reducible refine WW (by decide) ?_))
  refine (rightStart_ok e l cons (by omega) hl (any_k e l) _).mono ?_
  rintro _ s1 ⟨⟨b, rfl, hb1⟩, rfl⟩
  rw [← start_iff] at hb1
  cases b with
  | false =>
    refine raw ?_
    repeat (first | (with_reducible refine unr ?_; try simp only [YY, ↓reduceIte, Nat.reduceEqDiff, Nat.reduceAdd, Nat.reduceLeDiff, reduceCtorEq, Int.reduceEq, Int.reduceLT, Int.reduceLE, Int.reduceNeg, Int.reduceAdd, Int.reduceSub, Int.reduceToNat, e2, hu]) | (with_reducible refine WW (by decide) ?_))
    refine FP.same (k1.upd (id := σ.next + 1) (by omega) _) (.inl ⟨iff_f hb1 rfl, rfl⟩) (hcl _ _ ?_)
    refine .agg' fun x hx => ?_
    simp only [List.mem_cons, List.not_mem_nil, or_false] at hx
    rcases hx with rfl | rfl | rfl | rfl
    · exact .str _
    · exact .int _ _
    · exact .bool _
    · exact .nils
  | true =>
  have hOK := hb1.1 rfl
  have hla := start_la ((start_iff e l cons).1 hOK)
  have hgc : (glOf l cons).sup.length + (glOf l cons).con.length ≤ 1000000000 := by simp [glOf]; omega
  refine raw ?_
  repeat (first | (with_reducible refine unr ?_; try simp only [YY, ↓reduceIte, Nat.reduceEqDiff, Nat.reduceAdd, Nat.reduceLeDiff, reduceCtorEq, Int.reduceEq, Int.reduceLT, Int.reduceLE, Int.reduceNeg, Int.reduceAdd, Int.reduceSub, Int.reduceToNat, e1, Cr.len, Cr.take9]) | (with_reducible refine WW (by decide) ?_))
  refine (of_ok l cons hl _).mono ?_
  rintro _ s1 ⟨rfl, rfl⟩
  have hlat := laterD (glOf l cons) hgc e hla s1 [] 0 ⟨by simp; omega, by simp⟩ (by omega) (by omega)
  have hrow : ∃ row, row = latS (glOf l cons) opS [] 0 e := ⟨_, rfl⟩
  obtain ⟨row, hrow⟩ := hrow
  have hll2 := latS_len (glOf l cons) opS e [] 0
  rw [← hrow] at hll2 hlat
  refine raw ?_
  repeat (first | (with_reducible refine unr ?_; try simp only [YY, ↓reduceIte, Nat.reduceEqDiff, Nat.reduceAdd, Nat.reduceLeDiff, reduceCtorEq, Int.reduceEq, Int.reduceLT, Int.reduceLE, Int.reduceNeg, Int.reduceAdd, Int.reduceSub, Int.reduceToNat, e1, Cr.len, Cr.take9]) | (with_reducible refine WW (by decide) ?_))
  refine hlat.mono ?_
  clear hlat
  rintro _ s1 ⟨rfl, rfl⟩
  refine raw ?_
  repeat (first | (with_reducible refine unr ?_; try simp only [YY, ↓reduceIte, Nat.reduceEqDiff, Nat.reduceAdd, Nat.reduceLeDiff, reduceCtorEq, Int.reduceEq, Int.reduceLT, Int.reduceLE, Int.reduceNeg, Int.reduceAdd, Int.reduceSub, Int.reduceToNat, rowC_elen]) | (with_reducible refine WW (by decide) ?_))
  refine (one_ok 9 _ _).mono ?_
  rintro _ s1 ⟨rfl, rfl⟩
  refine raw ?_
  repeat (first | (with_reducible refine unr ?_; try simp only [YY, ↓reduceIte, Nat.reduceEqDiff, Nat.reduceAdd, Nat.reduceLeDiff, reduceCtorEq, Int.reduceEq, Int.reduceLT, Int.reduceLE, Int.reduceNeg, Int.reduceAdd, Int.reduceSub, Int.reduceToNat]) | (with_reducible refine WW (by decide) ?_))
  refine (one_ok 18 _ _).mono ?_
  rintro _ s1 ⟨rfl, rfl⟩
  refine raw ?_
  repeat (first | (with_reducible refine unr ?_; try simp only [YY, ↓reduceIte, Nat.reduceEqDiff, Nat.reduceAdd, Nat.reduceLeDiff, reduceCtorEq, Int.reduceEq, Int.reduceLT, Int.reduceLE, Int.reduceNeg, Int.reduceAdd, Int.reduceSub, Int.reduceToNat]) | (with_reducible refine WW (by decide) ?_))
  refine (one_ok 19 _ _).mono ?_
  rintro _ s1 ⟨rfl, rfl⟩
  refine raw ?_
  repeat (first | (with_reducible refine unr ?_; try simp only [YY, ↓reduceIte, Nat.reduceEqDiff, Nat.reduceAdd, Nat.reduceLeDiff, reduceCtorEq, Int.reduceEq, Int.reduceLT, Int.reduceLE, Int.reduceNeg, Int.reduceAdd, Int.reduceSub, Int.reduceToNat, rowC_co]) | (with_reducible refine WW (by decide) ?_))
  refine (few_ok [row, [ik 9 0], [ik 18 0], [ik 19 row.length]] (by simp) (by simp; omega) _).mono ?_
  rintro _ s1 ⟨rfl, rfl⟩
  refine raw ?_
  repeat (first | (with_reducible refine unr ?_; try simp only [YY, ↓reduceIte, Nat.reduceEqDiff, Nat.reduceAdd, Nat.reduceLeDiff, reduceCtorEq, Int.reduceEq, Int.reduceLT, Int.reduceLE, Int.reduceNeg, Int.reduceAdd, Int.reduceSub, Int.reduceToNat, e2, hu, rowC_co]) | (with_reducible refine WW (by decide) ?_))
  have hes : AV.agg [.str ⟨#[]⟩, .int .i64 0, .bool false, rowC [row, [ik 9 0], [ik 18 0], [ik 19 (row.length : Nat)]].flatten] = .agg (codeR (startS e l cons)) := by
    simp [codeR, startS, rowC, ← hrow]
  refine FP.same (k1.upd (id := σ.next + 1) (by omega) _) (.inr ⟨hOK, by rw [hes]⟩) (hcl _ _ ?_)
  rw [hes]
  exact codeR_cln _
theorem startP (e : Cr) (l : List Sup) (cons : List Con5) (hb : bulkS l + e.bulk ≤ 1100000) (hl : l.length + cons.length ≤ 100000000) (σ : Store) :
    ACalls Try.prog 33 [.agg e.cells, .list (l.map supC), .list (cons.map con5C)] σ fun r s => r = .tuple [.agg (codeC (startV e l cons).1), .int .i64 (startV e l cons).2] ∧ s = σ :=
  ACalls_leD ((start_ok e l cons hb hl σ).mono fun r s h => ⟨_, startR_v h.1, rfl, h.2⟩)
theorem startQ (e : Cr) (l : List Sup) (cons : List Con5) (hb : bulkS l + e.bulk ≤ 1100000) (hl : l.length + cons.length ≤ 100000000) (σ : Store) :
    ACalls Try.prog 34 [.agg e.cells, .list (l.map supC), .list (cons.map con5C)] σ fun r s => r = .tuple [.agg (codeC (startV e l cons).1), .int .i64 (startV e l cons).2] ∧ s = σ :=
  ACalls_leD ((startD_ok e l cons hb hl σ).mono fun r s h => ⟨_, startR_v h.1, rfl, h.2⟩)
set_option maxHeartbeats 1000000 in
theorem law8 (e : Cr) (l : List Sup) (cons : List Con5) (hb : bulkS l + e.bulk ≤ 1048576) (hc : cons.length ≤ 1048576) (σ : Store) :
    ACalls Try.prog 8 [.agg e.cells, .list (l.map supC), .list (cons.map con5C)] σ fun r σ' => r = .bool true ∧ σ' = σ := by
  have hll := lenS l
  have sl := small_ok l (by omega)
  have se := size7 e (e.sm_of_bulk (by omega))
  refine ACalls_fp (p := fun r => r = .bool true) ?_
  refine in8 (by simp) ?_
  unfold c8
  try simp only [YY, ↓reduceIte, Nat.reduceEqDiff, Nat.reduceAdd, Nat.reduceLeDiff, reduceCtorEq, Int.reduceEq, Int.reduceLT, Int.reduceLE, Int.reduceNeg, Int.reduceAdd, Int.reduceSub, Int.reduceToNat, Cr.len]
  iterate 2 ((with_reducible refine WW (by decide) ?_); refine unr ?_; try simp only [YY, ↓reduceIte, Nat.reduceEqDiff, Nat.reduceAdd, Nat.reduceLeDiff, reduceCtorEq, Int.reduceEq, Int.reduceLT, Int.reduceLE, Int.reduceNeg, Int.reduceAdd, Int.reduceSub, Int.reduceToNat, Cr.len])
  generalize hs : Store.push _ _ = s1
  have k1 : Kp σ s1 := by rw [← hs]; exact Kp.pushed _ _
  have e1 : s1.get σ.next = some (.cells 54 0 9 [e.cells]) := by rw [← hs]; simp [Store.push_get, Store.push_next]
  clear hs
  refine AWP_cut [1, 2, 3] (fun _ : Unit => [.list (l.map supC), .list (cons.map con5C), .ptr σ.next 0 0 0]) (fun _ s => s1 = s) ?_ ?_
  · refine raw ?_
    repeat' (first | (with_reducible refine unr ?_; try simp only [YY, ↓reduceIte, Nat.reduceEqDiff, Nat.reduceAdd, Nat.reduceLeDiff, reduceCtorEq, Int.reduceEq, Int.reduceLT, Int.reduceLE, Int.reduceNeg, Int.reduceAdd, Int.reduceSub, Int.reduceToNat, e1, Cr.len, Cr.take9, str_nil, *]) | (with_reducible first | refine WW (by decide) ?_ | refine ok_idx (by first | assumption | omega) (fun b hb => raw ?_) | refine ok_iad (by first | assumption | omega) (fun x hx hxm => raw ?_) | refine And.intro (by omega) (raw ?_) | (refine guardW_b (fun h => raw ?_) (fun h => raw ?_) <;> try simp only [Ty] at h) | (refine ePick_b (fun h => raw ?_) (fun h => raw ?_) <;> try simp only [Ty] at h) | (refine condW_b (fun h => raw ?_) (fun h => raw ?_) <;> try simp only [Ty] at h) | (refine (sl _).mono ?_; rintro _ _ ⟨⟨b, rfl, hb⟩, rfl⟩; refine raw ?_) | (refine (se _).mono ?_; rintro _ _ ⟨⟨b, rfl, hb⟩, rfl⟩; refine raw ?_) | (refine (code_known _).mono ?_; rintro _ _ ⟨⟨b, rfl, hb⟩, rfl⟩; refine raw ?_)))
    all_goals first
      | exact FP.same k1 rfl (.bool _)
      | exact ⟨(), trivial⟩
  rintro _ _ rfl
  generalize hv : startV e l cons = V
  have hP := fun s => startP e l cons (by omega) (by omega) s
  have hQ := fun s => startQ e l cons (by omega) (by omega) s
  rw [hv] at hP hQ
  obtain ⟨cd, n⟩ := V
  simp only at hP hQ
  refine raw ?_
  repeat (first | (with_reducible refine unr ?_; try simp only [YY, ↓reduceIte, Nat.reduceEqDiff, Nat.reduceAdd, Nat.reduceLeDiff, reduceCtorEq, Int.reduceEq, Int.reduceLT, Int.reduceLE, Int.reduceNeg, Int.reduceAdd, Int.reduceSub, Int.reduceToNat, e1, Cr.len, Cr.take9]) | (with_reducible refine WW (by decide) ?_))
  refine (hP _).mono ?_
  rintro _ s1 ⟨rfl, rfl⟩
  have hnl := codeC_len cd
  have q1 := lt_ne (s1.lt e1)
  refine raw ?_
  repeat (first | (with_reducible refine unr ?_; try simp only [YY, ↓reduceIte, Nat.reduceEqDiff, Nat.reduceAdd, Nat.reduceLeDiff, reduceCtorEq, Int.reduceEq, Int.reduceLT, Int.reduceLE, Int.reduceNeg, Int.reduceAdd, Int.reduceSub, Int.reduceToNat, e1, Cr.len, Cr.take9, hnl, q1]) | (with_reducible refine WW (by decide) ?_))
  refine (hQ _).mono ?_
  rintro _ s2 ⟨rfl, hs2⟩
  subst hs2
  refine raw ?_
  repeat (first | (with_reducible refine unr ?_; try simp only [YY, ↓reduceIte, Nat.reduceEqDiff, Nat.reduceAdd, Nat.reduceLeDiff, reduceCtorEq, Int.reduceEq, Int.reduceLT, Int.reduceLE, Int.reduceNeg, Int.reduceAdd, Int.reduceSub, Int.reduceToNat, e1, Cr.len, Cr.take9, hnl, codeC_t4, q1]) | (with_reducible refine WW (by decide) ?_))
  refine (sameC_ok cd _).mono ?_
  rintro _ s3 ⟨rfl, hs3⟩
  subst hs3
  refine raw ?_
  repeat (first | (with_reducible refine unr ?_; try simp only [YY, ↓reduceIte, Nat.reduceEqDiff, Nat.reduceAdd, Nat.reduceLeDiff, reduceCtorEq, Int.reduceEq, Int.reduceLT, Int.reduceLE, Int.reduceNeg, Int.reduceAdd, Int.reduceSub, Int.reduceToNat]) | (with_reducible refine WW (by decide) ?_))
  refine (code_known _).mono ?_
  rintro _ s3 ⟨rfl, hs3⟩
  subst hs3
  refine raw ?_
  repeat (first | (with_reducible refine unr ?_; try simp only [YY, ↓reduceIte, Nat.reduceEqDiff, Nat.reduceAdd, Nat.reduceLeDiff, reduceCtorEq, Int.reduceEq, Int.reduceLT, Int.reduceLE, Int.reduceNeg, Int.reduceAdd, Int.reduceSub, Int.reduceToNat]) | (with_reducible refine WW (by decide) ?_))
  exact FP.same (k1.trans ((Kp.pushed _ _).push _)) rfl (.bool _)
end Go.Proofs.Ytjjbjibbjbbeaaa
/- Core expressions and definitions as arguments, with their bulk. -/
set_option linter.unusedVariables false
namespace Go.Proofs.Ytjjbjibbjbbeaaa
open Go.AL
section
variable {H : Type}
theorem one_le (d : DataW H) : 1 ≤ Rows.uptoBulk d := by
  cases d with
  | lit l => cases l <;> simp [Rows.uptoBulk]
  | nil => simp [Rows.uptoBulk]
  | ptr d => simp [Rows.uptoBulk]
  | slice elems spare => simp [Rows.uptoBulk]
  | agg parts => simp [Rows.uptoBulk]
  | iface t d => simp [Rows.uptoBulk]
  | map entries => simp [Rows.uptoBulk]
  | held h => simp [Rows.uptoBulk]
variable {P : Program} {t : TypeId} {cs : List AV} {d : DataW H}
theorem avdB_str (hu : P.underlying t = some .string) (h : AVD P t cs d) : ∃ s, cs = [.str s] ∧ s.size + 1 ≤ Rows.uptoBulk d := by
  cases h with
  | int h hw => rw [hu] at h; cases h
  | bool h => rw [hu] at h; cases h
  | str h hs => exact ⟨_, rfl, by simp [Rows.uptoBulk]⟩
  | nilp h => rw [hu] at h; cases h
  | ptr h _ => rw [hu] at h; cases h
  | nils h => rw [hu] at h; cases h
  | list h _ _ _ => rw [hu] at h; cases h
  | struct h _ _ _ => rw [hu] at h; cases h
  | other h => simp [okType, hu] at h
theorem avdB_slice {e : TypeId} (hu : P.underlying t = some (.slice e)) (hc : 0 < P.cellsOf e) (h : AVD P t cs d) :
    ∃ (es : List (List AV)) (ds : List (DataW H)), cs = [.list es] ∧ es.length = ds.length ∧ Rows.uptoBulkAll ds + 1 ≤ Rows.uptoBulk d ∧ (∀ x, x ∈ ds → SizeOf.sizeOf x < SizeOf.sizeOf d) ∧ ∀ (i : Nat) (c : List AV) (x : DataW H), es[i]? = some c → ds[i]? = some x → AVD P e c x := by
  cases h with
  | int h hw => rw [hu] at h; cases h
  | bool h => rw [hu] at h; cases h
  | str h _ => rw [hu] at h; cases h
  | nilp h => rw [hu] at h; cases h
  | ptr h _ => rw [hu] at h; cases h
  | nils h => exact ⟨[], [], rfl, rfl, by simp [Rows.uptoBulk, Rows.uptoBulkAll], by simp, by simp⟩
  | list h h1 h2 h3 =>
    rw [hu] at h; cases h
    rename_i ds rest
    refine ⟨_, ds, rfl, h1, by simp only [Rows.uptoBulk]; omega, fun x hx => ?_, h3⟩
    have := List.sizeOf_lt_of_mem hx
    simp only [DataW.slice.sizeOf_spec]; omega
  | struct h _ _ _ => rw [hu] at h; cases h
  | other h => simp [okType, hu, hc] at h
theorem avdB_struct {fs : Array Field} (hu : P.underlying t = some (.struct fs)) (h : AVD P t cs d) :
    cs.length = P.cellsOf t ∧ ∃ ds : List (DataW H), ds.length = fs.size ∧ Rows.uptoBulkAll ds + 1 ≤ Rows.uptoBulk d ∧ (∀ x, x ∈ ds → SizeOf.sizeOf x < SizeOf.sizeOf d) ∧
      ∀ (i : Nat) (f : Field) (x : DataW H), fs[i]? = some f → ds[i]? = some x → AVD P f.type ((cs.drop f.offset).take (P.cellsOf f.type)) x := by
  cases h with
  | int h hw => rw [hu] at h; cases h
  | bool h => rw [hu] at h; cases h
  | str h _ => rw [hu] at h; cases h
  | nilp h => rw [hu] at h; cases h
  | ptr h _ => rw [hu] at h; cases h
  | nils h => rw [hu] at h; cases h
  | list h _ _ _ => rw [hu] at h; cases h
  | struct h h1 h2 h3 =>
    rw [hu] at h; cases h
    rename_i ds
    refine ⟨h1, ds, h2, by simp only [Rows.uptoBulk]; omega, fun x hx => ?_, h3⟩
    have := List.sizeOf_lt_of_mem hx
    simp only [DataW.agg.sizeOf_spec]; omega
  | other h => simp [okType, hu] at h
theorem dint {cs : List AV} {d : DataW H} (h : AVD Try.prog 3 cs d) : ∃ n, cs = [.int .i64 n] := by
  obtain ⟨n, h, _⟩ := avd_int Try.underlying3 h; exact ⟨n, h⟩
theorem dint2 {cs : List AV} {d : DataW H} (h : AVD Try.prog 2 cs d) : ∃ n, cs = [.int .i64 n] := by
  obtain ⟨n, h, _⟩ := avd_int Try.underlying2 h; exact ⟨n, h⟩
theorem k2 : Try.prog.cellsOf 2 = 1 := by kernel_rfl
theorem k3 : Try.prog.cellsOf 3 = 1 := by kernel_rfl
theorem k9 : Try.prog.cellsOf 9 = 1 := by kernel_rfl
theorem k48 : Try.prog.cellsOf 48 = 1 := by kernel_rfl
theorem k49 : Try.prog.cellsOf 49 = 1 := by kernel_rfl
theorem k50 : Try.prog.cellsOf 50 = 1 := by kernel_rfl
theorem k51 : Try.prog.cellsOf 51 = 1 := by kernel_rfl
theorem k52 : Try.prog.cellsOf 52 = 1 := by kernel_rfl
theorem k54 : Try.prog.cellsOf 54 = 9 := by kernel_rfl
theorem k113 : Try.prog.cellsOf 113 = 13 := by kernel_rfl
theorem k114 : Try.prog.cellsOf 114 = 10 := by kernel_rfl
theorem k116 : Try.prog.cellsOf 116 = 10 := by kernel_rfl
theorem bulk_all {α : Type} {f : α → List AV} {w : α → Nat} {T : List α → Nat} (hT0 : T [] = 0) (hT : ∀ x l, T (x :: l) = w x + T l) {Q : List AV → DataW H → Prop} :
    ∀ (es : List (List AV)) (ds : List (DataW H)), es.length = ds.length → (∀ (i : Nat) c x, es[i]? = some c → ds[i]? = some x → ∃ a, c = f a ∧ w a ≤ Rows.uptoBulk x) → ∃ l : List α, es = l.map f ∧ T l ≤ Rows.uptoBulkAll ds
  | [], [], _, _ => ⟨[], rfl, by simp [hT0]⟩
  | c :: es, x :: ds, hl, h => by
    obtain ⟨a, ha, hw⟩ := h 0 c x rfl rfl
    obtain ⟨l, hl2, hb⟩ := bulk_all (α := α) (f := f) (w := w) hT0 hT (Q := Q) es ds (by simpa using hl) fun i c x h1 h2 => h (i + 1) c x (by simpa using h1) (by simpa using h2)
    exact ⟨a :: l, by simp [ha, hl2], by rw [hT, Rows.uptoBulkAll]; omega⟩
theorem dtexts {cs : List AV} {d : DataW H} (h : AVD Try.prog 48 cs d) : ∃ l, cs = [strs l] ∧ l.length + 1 ≤ Rows.uptoBulk d := by
  obtain ⟨es, ds, rfl, hl, hb, _, he⟩ := avdB_slice Try.underlying48 (by rw [k9]; decide) h
  obtain ⟨l, rfl, hw⟩ := bulk_all (f := fun x : ByteArray => [AV.str x]) (w := fun _ => 1) (T := List.length) rfl (fun x l => by simp; omega) (Q := fun _ _ => True) es ds hl fun i c x h1 h2 => by
    obtain ⟨s, rfl, hs⟩ := avdB_str Try.underlying9 (he i c x h1 h2)
    exact ⟨s, rfl, one_le x⟩
  exact ⟨l, rfl, by omega⟩
theorem at9 {α : Type} : ∀ {l : List α}, l.length = 9 → ∃ a b c d e f g h i, l = [a, b, c, d, e, f, g, h, i]
  | [a, b, c, d, e, f, g, h, i], _ => ⟨a, b, c, d, e, f, g, h, i, rfl⟩
theorem at10 {α : Type} {l : List α} (h : l.length = 10) : ∃ a r, l = a :: r ∧ r.length = 9 := by
  cases l with
  | nil => simp at h
  | cons a r => exact ⟨a, r, rfl, by simpa using h⟩
set_option maxRecDepth 100000 in
theorem dcore : ∀ (n : Nat) {cs : List AV} {d : DataW H}, SizeOf.sizeOf d < n → AVD Try.prog 54 cs d → ∃ x : Cr, cs = x.cells ∧ x.bulk + 1 ≤ Rows.uptoBulk d
  | 0, _, _, hn, _ => by omega
  | n + 1, cs, d, hn, h => by
    obtain ⟨hl, ds, hdl, hb, hsz, hf⟩ := avdB_struct Try.underlying54 h
    rw [k54] at hl
    obtain ⟨a0, a1, a2, a3, a4, a5, a6, a7, a8, rfl⟩ := at9 hl
    obtain ⟨d0, d1, d2, d3, d4, d5, d6, d7, d8, rfl⟩ := at9 (show ds.length = 9 from hdl)
    have h0 := hf 0 _ d0 rfl rfl
    have h1 := hf 1 _ d1 rfl rfl
    have h2 := hf 2 _ d2 rfl rfl
    have h3 := hf 3 _ d3 rfl rfl
    have h4 := hf 4 _ d4 rfl rfl
    have h5 := hf 5 _ d5 rfl rfl
    have h6 := hf 6 _ d6 rfl rfl
    have h7 := hf 7 _ d7 rfl rfl
    have h8 := hf 8 _ d8 rfl rfl
    have s5 := hsz d5 (by simp)
    have s6 := hsz d6 (by simp)
    have s7 := hsz d7 (by simp)
    have s8 := hsz d8 (by simp)
    change AVD Try.prog 3 (List.take (Try.prog.cellsOf 3) (List.drop 0 [a0, a1, a2, a3, a4, a5, a6, a7, a8])) d0 at h0
    change AVD Try.prog 9 (List.take (Try.prog.cellsOf 9) (List.drop 1 [a0, a1, a2, a3, a4, a5, a6, a7, a8])) d1 at h1
    change AVD Try.prog 2 (List.take (Try.prog.cellsOf 2) (List.drop 2 [a0, a1, a2, a3, a4, a5, a6, a7, a8])) d2 at h2
    change AVD Try.prog 3 (List.take (Try.prog.cellsOf 3) (List.drop 3 [a0, a1, a2, a3, a4, a5, a6, a7, a8])) d3 at h3
    change AVD Try.prog 48 (List.take (Try.prog.cellsOf 48) (List.drop 4 [a0, a1, a2, a3, a4, a5, a6, a7, a8])) d4 at h4
    change AVD Try.prog 49 (List.take (Try.prog.cellsOf 49) (List.drop 5 [a0, a1, a2, a3, a4, a5, a6, a7, a8])) d5 at h5
    change AVD Try.prog 50 (List.take (Try.prog.cellsOf 50) (List.drop 6 [a0, a1, a2, a3, a4, a5, a6, a7, a8])) d6 at h6
    change AVD Try.prog 51 (List.take (Try.prog.cellsOf 51) (List.drop 7 [a0, a1, a2, a3, a4, a5, a6, a7, a8])) d7 at h7
    change AVD Try.prog 52 (List.take (Try.prog.cellsOf 52) (List.drop 8 [a0, a1, a2, a3, a4, a5, a6, a7, a8])) d8 at h8
    simp only [k2, k3, k9, k48, k49, k50, k51, k52, List.drop_zero, List.drop_succ_cons, List.take_succ_cons, List.take_zero] at h0 h1 h2 h3 h4 h5 h6 h7 h8
    obtain ⟨k, e0⟩ := dint h0
    obtain ⟨nm, e1, b1⟩ := avdB_str Try.underlying9 h1
    obtain ⟨m, e2⟩ := dint2 h2
    obtain ⟨ar, e3⟩ := dint h3
    obtain ⟨ps, e4, b4⟩ := dtexts h4
    obtain ⟨es5, ds5, e5, l5, b5, z5, q5⟩ := avdB_slice Try.underlying49 (by rw [k54]; decide) h5
    obtain ⟨es6, ds6, e6, l6, b6, z6, q6⟩ := avdB_slice Try.underlying50 (by rw [k113]; decide) h6
    obtain ⟨es7, ds7, e7, l7, b7, z7, q7⟩ := avdB_slice Try.underlying51 (by rw [k114]; decide) h7
    obtain ⟨es8, ds8, e8, l8, b8, z8, q8⟩ := avdB_slice Try.underlying52 (by rw [k116]; decide) h8
    obtain ⟨gs, rfl, w5⟩ := bulk_all (f := Cr.cells) (w := Cr.bulk) (T := Cr.bulkL) (by rw [Cr.bulkL]) (fun x l => by rw [Cr.bulkL]) (Q := fun _ _ => True) es5 ds5 l5 fun i c x g1 g2 => by
      have := z5 x (List.mem_of_getElem? g2)
      obtain ⟨y, hy, hw⟩ := dcore n (by omega) (q5 i c x g1 g2)
      exact ⟨y, hy, by omega⟩
    obtain ⟨al, rfl, w6⟩ := bulk_all (f := altC) (w := fun y => y.1.ps.length + y.2.bulk) (T := Cr.bulkA) (by rw [Cr.bulkA]) (fun x l => by obtain ⟨g, y⟩ := x; rw [Cr.bulkA]) (Q := fun _ _ => True) es6 ds6 l6 fun i c x g1 g2 => by
      have hzx := z6 x (List.mem_of_getElem? g2)
      obtain ⟨jl, dd, jd, jb, jz, jf⟩ := avdB_struct Try.underlying113 (q6 i c x g1 g2)
      rw [k113] at jl
      obtain ⟨c0, c1, c2, c3, r, rfl, hr⟩ : ∃ c0 c1 c2 c3 r, c = c0 :: c1 :: c2 :: c3 :: r ∧ r.length = 9 := by
        match c, jl with
        | c0 :: c1 :: c2 :: c3 :: r, jl => exact ⟨c0, c1, c2, c3, r, rfl, by simpa using jl⟩
      obtain ⟨t0, t1, t2, t3, t4, rfl⟩ := len5' (show dd.length = 5 from jd)
      have u0 := jf 0 _ t0 rfl rfl
      have u1 := jf 1 _ t1 rfl rfl
      have u2 := jf 2 _ t2 rfl rfl
      have u3 := jf 3 _ t3 rfl rfl
      have u4 := jf 4 _ t4 rfl rfl
      have y4 := jz t4 (by simp)
      change AVD Try.prog 3 (List.take (Try.prog.cellsOf 3) (List.drop 0 (c0 :: c1 :: c2 :: c3 :: r))) t0 at u0
      change AVD Try.prog 9 (List.take (Try.prog.cellsOf 9) (List.drop 1 (c0 :: c1 :: c2 :: c3 :: r))) t1 at u1
      change AVD Try.prog 2 (List.take (Try.prog.cellsOf 2) (List.drop 2 (c0 :: c1 :: c2 :: c3 :: r))) t2 at u2
      change AVD Try.prog 48 (List.take (Try.prog.cellsOf 48) (List.drop 3 (c0 :: c1 :: c2 :: c3 :: r))) t3 at u3
      change AVD Try.prog 54 (List.take (Try.prog.cellsOf 54) (List.drop 4 (c0 :: c1 :: c2 :: c3 :: r))) t4 at u4
      simp only [k2, k3, k9, k48, k54, List.drop_zero, List.drop_succ_cons, List.take_succ_cons, List.take_zero] at u0 u1 u2 u3 u4
      rw [List.take_of_length_le (by omega)] at u4
      obtain ⟨v0, x0⟩ := dint u0
      obtain ⟨v1, x1, _⟩ := avdB_str Try.underlying9 u1
      obtain ⟨v2, x2⟩ := dint2 u2
      obtain ⟨v3, x3, x3b⟩ := dtexts u3
      obtain ⟨y, hy, hw⟩ := dcore n (by omega) u4
      simp only [List.cons.injEq, and_true] at x0 x1 x2 x3
      subst x0 x1 x2 x3 hy
      refine ⟨(⟨v0, v1, v2, v3⟩, y), rfl, ?_⟩
      simp only [Rows.uptoBulkAll] at jb
      simp only
      omega
    obtain ⟨bs, rfl, w7⟩ := bulk_all (f := bindC) (w := fun y => 1 + y.2.bulk) (T := Cr.bulkB) (by rw [Cr.bulkB]) (fun x l => by obtain ⟨g, y⟩ := x; rw [Cr.bulkB]) (Q := fun _ _ => True) es7 ds7 l7 fun i c x g1 g2 => by
      have hzx := z7 x (List.mem_of_getElem? g2)
      obtain ⟨jl, dd, jd, jb, jz, jf⟩ := avdB_struct Try.underlying114 (q7 i c x g1 g2)
      rw [k114] at jl
      obtain ⟨c0, r, rfl, hr⟩ := at10 jl
      obtain ⟨t0, t1, rfl⟩ := len2 (show dd.length = 2 from jd)
      have u0 := jf 0 _ t0 rfl rfl
      have u1 := jf 1 _ t1 rfl rfl
      have y4 := jz t1 (by simp)
      change AVD Try.prog 9 (List.take (Try.prog.cellsOf 9) (List.drop 0 (c0 :: r))) t0 at u0
      change AVD Try.prog 54 (List.take (Try.prog.cellsOf 54) (List.drop 1 (c0 :: r))) t1 at u1
      simp only [k9, k54, List.drop_zero, List.drop_succ_cons, List.take_succ_cons, List.take_zero] at u0 u1
      rw [List.take_of_length_le (by omega)] at u1
      obtain ⟨v0, x0, x0b⟩ := avdB_str Try.underlying9 u0
      obtain ⟨y, hy, hw⟩ := dcore n (by omega) u1
      simp only [List.cons.injEq, and_true] at x0
      subst x0 hy
      refine ⟨(v0, y), rfl, ?_⟩
      simp only [Rows.uptoBulkAll] at jb
      simp only
      omega
    obtain ⟨pk, rfl, w8⟩ := bulk_all (f := pickC) (w := fun y => y.2.bulk) (T := Cr.bulkP) (by rw [Cr.bulkP]) (fun x l => by obtain ⟨g, y⟩ := x; rw [Cr.bulkP]) (Q := fun _ _ => True) es8 ds8 l8 fun i c x g1 g2 => by
      have hzx := z8 x (List.mem_of_getElem? g2)
      obtain ⟨jl, dd, jd, jb, jz, jf⟩ := avdB_struct Try.underlying116 (q8 i c x g1 g2)
      rw [k116] at jl
      obtain ⟨c0, r, rfl, hr⟩ := at10 jl
      obtain ⟨t0, t1, rfl⟩ := len2 (show dd.length = 2 from jd)
      have u0 := jf 0 _ t0 rfl rfl
      have u1 := jf 1 _ t1 rfl rfl
      have y4 := jz t1 (by simp)
      change AVD Try.prog 3 (List.take (Try.prog.cellsOf 3) (List.drop 0 (c0 :: r))) t0 at u0
      change AVD Try.prog 54 (List.take (Try.prog.cellsOf 54) (List.drop 1 (c0 :: r))) t1 at u1
      simp only [k3, k54, List.drop_zero, List.drop_succ_cons, List.take_succ_cons, List.take_zero] at u0 u1
      rw [List.take_of_length_le (by omega)] at u1
      obtain ⟨v0, x0⟩ := dint u0
      obtain ⟨y, hy, hw⟩ := dcore n (by omega) u1
      simp only [List.cons.injEq, and_true] at x0
      subst x0 hy
      refine ⟨(v0, y), rfl, ?_⟩
      simp only [Rows.uptoBulkAll] at jb
      simp only
      omega
    simp only [List.cons.injEq, and_true] at e0 e1 e2 e3 e4 e5 e6 e7 e8
    subst e0 e1 e2 e3 e4 e5 e6 e7 e8
    refine ⟨.mk k nm m ar ps gs al bs pk, by rw [Cr.cells_eq], ?_⟩
    simp only [Rows.uptoBulkAll] at hb
    have := one_le d0; have := one_le d2; have := one_le d3
    rw [Cr.bulk]
    omega
end
end Go.Proofs.Ytjjbjibbjbbeaaa
/- Supercombinators as arguments, with their bulk. -/
set_option linter.unusedVariables false
namespace Go.Proofs.Ytjjbjibbjbbeaaa
open Go.AL
section
variable {H : Type}
theorem k71 : Try.prog.cellsOf 71 = 11 := by kernel_rfl
theorem at11 {α : Type} {l : List α} (h : l.length = 11) : ∃ a b r, l = a :: b :: r ∧ r.length = 9 := by
  match l, h with
  | a :: b :: r, h => exact ⟨a, b, r, rfl, by simpa using h⟩
theorem at3 {α : Type} : ∀ {l : List α}, l.length = 3 → ∃ a b c, l = [a, b, c]
  | [a, b, c], _ => ⟨a, b, c, rfl⟩
theorem dsup {cs : List AV} {d : DataW H} (h : AVD Try.prog 71 cs d) : ∃ x : Sup, cs = supC x ∧ x.nm.size + 1 + x.ps.length + x.bd.bulk ≤ Rows.uptoBulk d := by
  obtain ⟨jl, dd, jd, jb, jz, jf⟩ := avdB_struct Try.underlying71 h
  rw [k71] at jl
  obtain ⟨c0, c1, r, rfl, hr⟩ := at11 jl
  obtain ⟨t0, t1, t2, rfl⟩ := at3 (show dd.length = 3 from jd)
  have u0 := jf 0 _ t0 rfl rfl
  have u1 := jf 1 _ t1 rfl rfl
  have u2 := jf 2 _ t2 rfl rfl
  change AVD Try.prog 9 (List.take (Try.prog.cellsOf 9) (List.drop 0 (c0 :: c1 :: r))) t0 at u0
  change AVD Try.prog 48 (List.take (Try.prog.cellsOf 48) (List.drop 1 (c0 :: c1 :: r))) t1 at u1
  change AVD Try.prog 54 (List.take (Try.prog.cellsOf 54) (List.drop 2 (c0 :: c1 :: r))) t2 at u2
  simp only [k9, k48, k54, List.drop_zero, List.drop_succ_cons, List.take_succ_cons, List.take_zero] at u0 u1 u2
  rw [List.take_of_length_le (by omega)] at u2
  obtain ⟨v0, x0, x0b⟩ := avdB_str Try.underlying9 u0
  obtain ⟨v1, x1, x1b⟩ := dtexts u1
  obtain ⟨y, hy, hw⟩ := dcore _ (Nat.lt_succ_self _) u2
  simp only [List.cons.injEq, and_true] at x0 x1
  subst x0 x1 hy
  refine ⟨⟨v0, v1, y⟩, rfl, ?_⟩
  simp only [Rows.uptoBulkAll] at jb
  simp only
  omega
theorem dsups {cs : List AV} {d : DataW H} (h : AVD Try.prog 59 cs d) : ∃ l : List Sup, cs = [.list (l.map supC)] ∧ bulkS l + 1 ≤ Rows.uptoBulk d := by
  obtain ⟨es, ds, rfl, hl, hb, _, he⟩ := avdB_slice Try.underlying59 (by rw [k71]; decide) h
  obtain ⟨l, rfl, hw⟩ := bulk_all (f := supC) (w := fun x => x.nm.size + 1 + x.ps.length + x.bd.bulk) (T := bulkS) rfl (fun x l => by rw [bulkS]) (Q := fun _ _ => True) es ds hl fun i c x h1 h2 => dsup (he i c x h1 h2)
  exact ⟨l, rfl, by omega⟩
end
end Go.Proofs.Ytjjbjibbjbbeaaa
/- Depths on each way through a code: certificates, put together from parts. -/
set_option linter.unusedVariables false
set_option linter.unusedSimpArgs false
namespace Go.AL
/-- The depth behind an instruction. -/
inductive Aft : Ins → Int → Int → Prop
  | push {k n d : Int} {js : List (Int × Int)} (h0 : 0 ≤ k) (h1 : k < d) : Aft ⟨1, k, n, js⟩ d (d + 1)
  | glob {k n d : Int} {js : List (Int × Int)} (h0 : 0 ≤ k) : Aft ⟨2, k, n, js⟩ d (d + 1)
  | int {k n d : Int} {js : List (Int × Int)} (h0 : 0 ≤ k) : Aft ⟨3, k, n, js⟩ d (d + 1)
  | apply {k n d : Int} {js : List (Int × Int)} (h0 : 2 ≤ d) : Aft ⟨4, k, n, js⟩ d (d - 1)
  | prim {k n d : Int} {js : List (Int × Int)} (h0 : 2 ≤ d) : Aft ⟨16, k, n, js⟩ d (d - 1)
  | update {k n d : Int} {js : List (Int × Int)} (h0 : 0 ≤ k) (h1 : 1 ≤ d) (h2 : k ≤ d - 1) : Aft ⟨5, k, n, js⟩ d (d - 1)
  | pop {k n d : Int} {js : List (Int × Int)} (h0 : 0 ≤ k) (h1 : k ≤ d) : Aft ⟨6, k, n, js⟩ d (d - k)
  | slide {k n d : Int} {js : List (Int × Int)} (h0 : 0 ≤ k) (h1 : k < d) : Aft ⟨7, k, n, js⟩ d (d - k)
  | alloc {k n d : Int} {js : List (Int × Int)} (h0 : 1 ≤ k) : Aft ⟨8, k, n, js⟩ d (d + k)
  | pack {k n d : Int} {js : List (Int × Int)} (h0 : 0 ≤ k) (h1 : k ≤ d) : Aft ⟨11, k, n, js⟩ d (d - k + 1)
  | split {k n d : Int} {js : List (Int × Int)} (h0 : 0 ≤ k) (h1 : 1 ≤ d) : Aft ⟨12, k, n, js⟩ d (d - 1 + k)
  | eval {k n d : Int} {js : List (Int × Int)} (h0 : 1 ≤ d) : Aft ⟨9, k, n, js⟩ d d
  | case {k n d : Int} {js : List (Int × Int)} (h0 : 1 ≤ d) : Aft ⟨13, k, n, js⟩ d d
  | pick {k n d : Int} {js : List (Int × Int)} : Aft ⟨14, k, n, js⟩ d d
  | jump {k n d : Int} {js : List (Int × Int)} : Aft ⟨15, k, n, js⟩ d d
  | unwind {k n d : Int} {js : List (Int × Int)} : Aft ⟨10, k, n, js⟩ d d
  | fail {k n d : Int} {js : List (Int × Int)} : Aft ⟨17, k, n, js⟩ d d
abbrev Tgt := Nat → Int → Prop
/-- A place behind, with its depth. -/
def Leads (T : Tgt) (i : Nat) (k d : Int) : Prop := ∃ j : Nat, k = j ∧ i < j ∧ T j d
theorem Leads.mono {T T' : Tgt} {i : Nat} {k d : Int} (h : Leads T i k d) (ht : ∀ j d, T j d → T' j d) : Leads T' i k d := by
  obtain ⟨j, h1, h2, h3⟩ := h
  exact ⟨j, h1, h2, ht j d h3⟩
/-- What is asked of an instruction that is met. -/
structure StepOK (o : Ins) (i : Nat) (d d' : Int) (T : Tgt) : Prop where
  aft : Aft o d d'
  js : ∀ p, p ∈ o.js → Leads T i p.2 d'
  unwind : o.op = 10 → d' = 0
  case : o.op = 13 → 0 ≤ o.k → Leads T i o.k d'
  jump : o.op = 14 ∨ o.op = 15 → Leads T i o.k d'
  next : o.op ≠ 10 → o.op ≠ 17 → o.op ≠ 13 → o.op ≠ 14 → o.op ≠ 15 → T (i + 1) d'
theorem StepOK.mono {o : Ins} {i : Nat} {d d' : Int} {T T' : Tgt} (h : StepOK o i d d' T) (ht : ∀ j d, T j d → T' j d) : StepOK o i d d' T' :=
  ⟨h.aft, fun p hp => (h.js p hp).mono ht, h.unwind, fun e k => (h.case e k).mono ht, fun e => (h.jump e).mono ht, fun a b c e f => ht _ _ (h.next a b c e f)⟩
def maxD : Int := 1000000000
def InT (A : Nat → Option Int) (e : Nat) (T : Tgt) : Tgt := fun j d => A j = some d ∨ (T j d ∧ e ≤ j)
/-- A part of a code: where it is entered, and where it leads. -/
def Seg (base : Nat) (E : Tgt) (ops : List Ins) (T : Tgt) : Prop :=
  ∃ A : Nat → Option Int, (∀ j d, E j d → InT A (base + ops.length) T j d) ∧
    ∀ i d, A i = some d → base ≤ i ∧ i < base + ops.length ∧ 0 ≤ d ∧ d ≤ maxD ∧ ∃ o d', ops[i - base]? = some o ∧ d' ≤ maxD ∧ StepOK o i d d' (InT A (base + ops.length) T)
theorem Seg.app {base : Nat} {E E1 E2 T T1 T2 : Tgt} {o1 o2 : List Ins} (h1 : Seg base E1 o1 T1) (h2 : Seg (base + o1.length) E2 o2 T2)
    (hE : ∀ j d, E j d → E1 j d ∨ E2 j d) (hT1 : ∀ j d, T1 j d → base + o1.length ≤ j → E2 j d ∨ (T j d ∧ base + o1.length + o2.length ≤ j)) (hT2 : ∀ j d, T2 j d → base + o1.length + o2.length ≤ j → T j d) : Seg base E (o1 ++ o2) T := by
  obtain ⟨A1, e1, s1⟩ := h1
  obtain ⟨A2, e2, s2⟩ := h2
  have k2 : ∀ j d, InT A2 (base + o1.length + o2.length) T2 j d → InT (fun i => if i < base + o1.length then A1 i else A2 i) (base + (o1 ++ o2).length) T j d := by
    intro j d h
    rcases h with h | ⟨h, hj⟩
    · have := s2 j d h
      left
      simp only [if_neg (show ¬ j < base + o1.length by omega)]
      exact h
    · exact .inr ⟨hT2 j d h hj, by rw [List.length_append]; omega⟩
  have k1 : ∀ j d, InT A1 (base + o1.length) T1 j d → InT (fun i => if i < base + o1.length then A1 i else A2 i) (base + (o1 ++ o2).length) T j d := by
    intro j d h
    rcases h with h | ⟨h, hj⟩
    · have := s1 j d h
      left
      simp only [if_pos this.2.1]
      exact h
    · rcases hT1 j d h hj with h | ⟨h, hj⟩
      · exact k2 j d (e2 j d h)
      · exact .inr ⟨h, by rw [List.length_append]; omega⟩
  refine ⟨fun i => if i < base + o1.length then A1 i else A2 i, fun j d h => ?_, fun i d h => ?_⟩
  · rcases hE j d h with h | h
    · exact k1 j d (e1 j d h)
    · exact k2 j d (e2 j d h)
  · by_cases hi : i < base + o1.length
    · simp only [if_pos hi] at h
      obtain ⟨a, b, c, c2, o, d', ho, hd, hs⟩ := s1 i d h
      exact ⟨a, by rw [List.length_append]; omega, c, c2, o, d', by rw [List.getElem?_append_left (by omega)]; exact ho, hd, hs.mono k1⟩
    · simp only [if_neg hi] at h
      obtain ⟨a, b, c, c2, o, d', ho, hd, hs⟩ := s2 i d h
      exact ⟨by omega, by rw [List.length_append]; omega, c, c2, o, d', by rw [List.getElem?_append_right (by omega), show i - base - o1.length = i - (base + o1.length) by omega]; exact ho, hd, hs.mono k2⟩
/-- One place with its depth. -/
def At (j : Nat) (d : Int) : Tgt := fun j' d' => j' = j ∧ d' = d
theorem Seg.nil {base : Nat} {E T : Tgt} (h : ∀ j d, E j d → T j d ∧ base ≤ j) : Seg base E [] T :=
  ⟨fun _ => none, fun j d he => .inr (by simpa using h j d he), by simp⟩
theorem Seg.one {base : Nat} {d d' : Int} {o : Ins} {T : Tgt} (h0 : 0 ≤ d) (h1 : d ≤ maxD) (h2 : d' ≤ maxD) (h : StepOK o base d d' (fun j d => T j d ∧ base + 1 ≤ j)) : Seg base (At base d) [o] T := by
  refine ⟨fun i => if i = base then some d else none, fun j d2 he => ?_, fun i d2 hi => ?_⟩
  · obtain ⟨rfl, rfl⟩ := he
    exact .inl (by simp)
  · by_cases e : i = base
    · simp only [if_pos e, Option.some.injEq] at hi
      subst e hi
      exact ⟨Nat.le_refl _, by simp, h0, h1, o, d', by simp, h2, h.mono fun j d h => .inr h⟩
    · simp [if_neg e] at hi
theorem Seg.mono {base : Nat} {E E' T T' : Tgt} {ops : List Ins} (h : Seg base E ops T) (hE : ∀ j d, E' j d → E j d) (hT : ∀ j d, T j d → base + ops.length ≤ j → T' j d) : Seg base E' ops T' := by
  obtain ⟨A, e, s⟩ := h
  have k : ∀ j d, InT A (base + ops.length) T j d → InT A (base + ops.length) T' j d := fun j d h => h.imp id fun h => ⟨hT j d h.1 h.2, h.2⟩
  exact ⟨A, fun j d h => k j d (e j d (hE j d h)), fun i d h => by
    obtain ⟨a, b, c, c2, o, d', ho, hd, hs⟩ := s i d h
    exact ⟨a, b, c, c2, o, d', ho, hd, hs.mono k⟩⟩
/-- What runs through: from a depth to a depth. -/
def Thru (base : Nat) (d : Int) (ops : List Ins) (d' : Int) : Prop := Seg base (At base d) ops (At (base + ops.length) d')
theorem Thru.app {base : Nat} {d d1 d2 : Int} {o1 o2 : List Ins} (h1 : Thru base d o1 d1) (h2 : Thru (base + o1.length) d1 o2 d2) : Thru base d (o1 ++ o2) d2 :=
  Seg.app h1 h2 (fun j d h => .inl h) (fun j d h _ => .inl h) fun j d h _ => by rw [At, List.length_append, ← Nat.add_assoc]; exact h
/-- An instruction that goes on to the next. -/
def Plain (o : Ins) : Prop := o.js = [] ∧ o.op ≠ 10 ∧ o.op ≠ 17 ∧ o.op ≠ 13 ∧ o.op ≠ 14 ∧ o.op ≠ 15
theorem Thru.one {base : Nat} {d d' : Int} {o : Ins} (h0 : 0 ≤ d) (h1 : d ≤ maxD) (h2 : d' ≤ maxD) (hp : Plain o) (h : Aft o d d') : Thru base d [o] d' := by
  obtain ⟨h3, a, b, c, e, f⟩ := hp
  exact Seg.one h0 h1 h2 ⟨h, by rw [h3]; simp, fun x => absurd x a, fun x => absurd x c, fun x => x.elim (fun y => absurd y e) (fun y => absurd y f), fun _ _ _ _ _ => ⟨⟨by simp, rfl⟩, Nat.le_refl _⟩⟩
theorem Thru.then {base : Nat} {d d1 : Int} {o1 o2 : List Ins} {T : Tgt} (h1 : Thru base d o1 d1) (h2 : Seg (base + o1.length) (At (base + o1.length) d1) o2 T) : Seg base (At base d) (o1 ++ o2) T :=
  Seg.app h1 h2 (fun j d h => .inl h) (fun j d h _ => .inl h) fun j d h _ => h
end Go.AL
/- The depths of what makes nodes and values. -/
set_option linter.unusedVariables false
set_option linter.unusedSimpArgs false
namespace Go.AL
/-! ### Levels -/
def LvD (lv : Lv) (d : Int) : Prop := ∀ p, p ∈ lv → 0 ≤ p.2 ∧ p.2 < d
theorem LvD.up {lv : Lv} {d d' : Int} (h : LvD lv d) (hd : d ≤ d') : LvD lv d' := fun p hp => ⟨(h p hp).1, by have := (h p hp).2; omega⟩
/-! ### Single instructions -/
section
variable {base : Nat} {d : Int}
end
/-! ### Nodes -/
section
variable (g : Gl) (O : ByteArray → Int)
variable (hg : g.con ≠ []) (hO : ∀ s, 0 ≤ O s)
include hg hO
omit hO in
omit hg hO in
end
end Go.AL
/- The depths of values, and of whole codes. -/
set_option linter.unusedVariables false
set_option linter.unusedSimpArgs false
namespace Go.AL
/-- Where a value leads: on, one deeper; at the end of a code nowhere. -/
def Out (last : Bool) (e : Nat) (d : Int) : Tgt := fun j d' => last = false ∧ j = e ∧ d' = d
theorem Out.no {e : Nat} {d : Int} {j : Nat} {d' : Int} {p : Prop} (h : Out true e d j d') : p := by cases h.1
theorem Thru.out {base : Nat} {d d' : Int} {ops : List Ins} (h : Thru base d ops d') : Seg base (At base d) ops (Out false (base + ops.length) d') := h.mono (fun _ _ h => h) fun j d h _ => ⟨rfl, h⟩
section
variable (g : Gl) (O : ByteArray → Int)
variable (hg : g.con ≠ []) (hO : ∀ s, 0 ≤ O s)
include hg hO
end
/-! ### Whole codes -/
end Go.AL
/- What the law asks of a code: the depth behind an instruction; a place is reached. -/
set_option linter.unusedVariables false
set_option linter.unusedSimpArgs false
namespace Go.Proofs.Ytjjbjibbjbbeaaa
open Go.AL
end Go.Proofs.Ytjjbjibbjbbeaaa
/- What the law asks of a code: how a place is reached. -/
set_option linter.unusedVariables false
set_option linter.unusedSimpArgs false
namespace Go.AL
def dC (d : Int) : List AV := [.int .i64 d]
def mC (b : Bool) : List AV := [.bool b]
/-- The objects of the law: from a number on. -/
structure Snd (cs : List AV) (p n : Nat) (D : List Int) (M : List Bool) (s : Store) : Prop where
  code : s.get p = some (.cells 81 0 4 [cs])
  num : s.get (p + 1) = some (.cells 3 0 1 [[.int .i64 n]])
  dep : s.get (p + 2) = some (.cells 3 0 1 (D.map dC))
  depv : s.get (p + 3) = some (.cells 96 0 1 [[.own (p + 2) 0 1 0 n]])
  met : s.get (p + 4) = some (.cells 4 0 1 (M.map mC))
  metv : s.get (p + 5) = some (.cells 146 0 1 [[.own (p + 4) 0 1 0 n]])
  ok : s.get (p + 6) = some (.cells 4 0 1 [[.bool true]])
  dl : D.length = n
  ml : M.length = n
/-- What is left by a place that is reached. -/
structure Met (p : Nat) (s t : Store) : Prop where
  next : t.next = s.next
  get : ∀ id, id ≠ p + 4 → id ≠ p + 2 → t.get id = s.get id
@[congr] theorem Snd_congr {w : Prop} (hw : Visit = w) {cs : List AV} {p n : Nat} {D : List Int} {M : List Bool} {s t : Store} (h : s = t) : Snd cs p n D M s = Snd cs p n D M t := by rw [h]
theorem Snd.upd {cs : List AV} {p n : Nat} {D : List Int} {M : List Bool} {s : Store} (h : Snd cs p n D M s) (j : Nat) (d : Int) :
    Snd cs p n (D.set j d) (M.set j true) ((s.upd (p + 4) (.cells 4 0 1 ((M.map mC).set j (mC true)))).upd (p + 2) (.cells 3 0 1 ((D.map dC).set j (dC d)))) := by
  have h2 := s.lt h.dep
  have h4 := s.lt h.met
  constructor
  · rw [Store.get_upd_ne _ _ (by omega), Store.get_upd_ne _ _ (by omega)]; exact h.code
  · rw [Store.get_upd_ne _ _ (by omega), Store.get_upd_ne _ _ (by omega)]; exact h.num
  · rw [Store.get_upd_self _ _ (by rw [Store.next_upd]; exact h2), List.map_set]
  · rw [Store.get_upd_ne _ _ (by omega), Store.get_upd_ne _ _ (by omega)]; exact h.depv
  · rw [Store.get_upd_ne _ _ (by omega), Store.get_upd_self _ _ h4, List.map_set]
  · rw [Store.get_upd_ne _ _ (by omega), Store.get_upd_ne _ _ (by omega)]; exact h.metv
  · rw [Store.get_upd_ne _ _ (by omega), Store.get_upd_ne _ _ (by omega)]; exact h.ok
  · rw [List.length_set]; exact h.dl
  · rw [List.length_set]; exact h.ml
theorem Snd.keep {cs : List AV} {p n : Nat} {D : List Int} {M : List Bool} {s t : Store} (h : Snd cs p n D M s) (k : Kp s t) : Snd cs p n D M t :=
  ⟨k.get h.code, k.get h.num, k.get h.dep, k.get h.depv, k.get h.met, k.get h.metv, k.get h.ok, h.dl, h.ml⟩
end Go.AL
namespace Go.Proofs.Ytjjbjibbjbbeaaa
open Go.AL
end Go.Proofs.Ytjjbjibbjbbeaaa
/- What the law asks of a code. -/
set_option linter.unusedVariables false
set_option linter.unusedSimpArgs false
namespace Go.AL
/-- What is met has the depth that it must have. -/
def Dep (A : Nat → Option Int) (D : List Int) (M : List Bool) : Prop := ∀ j, M[j]? = some true → ∃ d, A j = some d ∧ D[j]? = some d
theorem Dep.set {A : Nat → Option Int} {D : List Int} {M : List Bool} (h : Dep A D M) {j : Nat} {d : Int} (hA : A j = some d) (hj : j < D.length) : Dep A (D.set j d) (M.set j true) := by
  intro k hk
  by_cases e : j = k
  · subst e
    exact ⟨d, hA, by simp [hj]⟩
  · rw [List.getElem?_set_ne e] at hk ⊢
    exact h k hk
/-- The objects of the law, with depths that are right. -/
def Lp (σ : Store) (cs : List AV) (n : Nat) (A : Nat → Option Int) (t : Store) : Prop := ∃ D M, Snd cs σ.next n D M t ∧ Dep A D M ∧ Kp σ t
@[congr] theorem Lp_congr {w : Prop} (hw : Visit = w) {σ : Store} {cs : List AV} {n : Nat} {A : Nat → Option Int} {s t : Store} (h : s = t) : Lp σ cs n A s = Lp σ cs n A t := by rw [h]
theorem Lp.keep {σ s t : Store} {cs : List AV} {n : Nat} {A : Nat → Option Int} (h : Lp σ cs n A s) (k : Kp s t) : Lp σ cs n A t := by
  obtain ⟨D, M, h1, h2, h3⟩ := h
  exact ⟨D, M, h1.keep k, h2, h3.trans k⟩
theorem Met.kp {σ s t : Store} (h : Met σ.next s t) (k : Kp σ s) : Kp σ t :=
  ⟨by rw [h.next]; exact k.next, fun j hj => by rw [h.get j (by omega) (by omega)]; exact k.keep j hj⟩
end Go.AL
namespace Go.Proofs.Ytjjbjibbjbbeaaa
open Go.AL
end Go.Proofs.Ytjjbjibbjbbeaaa
/- The law CodeSound. -/
set_option linter.unusedVariables false
set_option linter.unusedSimpArgs false
namespace Go.AL
/-- The bulk of constructors. -/
def bulkC : List Con5 → Nat
  | [] => 0
  | c :: r => 1 + c.fs.length + bulkC r
theorem lenC : ∀ l : List Con5, l.length ≤ bulkC l
  | [] => by simp
  | c :: r => by have := lenC r; rw [bulkC, List.length_cons]; omega
end Go.AL
namespace Go.Proofs.Ytjjbjibbjbbeaaa
open Go.AL
end Go.Proofs.Ytjjbjibbjbbeaaa
/- Constructors as arguments, with their bulk. -/
set_option linter.unusedVariables false
namespace Go.Proofs.Ytjjbjibbjbbeaaa
open Go.AL
section
variable {H : Type}
theorem k87 : Try.prog.cellsOf 87 = 5 := by kernel_rfl
theorem k33 : Try.prog.cellsOf 33 = 4 := by kernel_rfl
theorem k22 : Try.prog.cellsOf 22 = 1 := by kernel_rfl
theorem at5 {α : Type} : ∀ {l : List α}, l.length = 5 → ∃ a b c d e, l = [a, b, c, d, e]
  | [a, b, c, d, e], _ => ⟨a, b, c, d, e, rfl⟩
theorem bulk_len : ∀ ds : List (DataW H), ds.length ≤ Rows.uptoBulkAll ds
  | [] => by simp
  | d :: r => by have := bulk_len r; have := one_le d; rw [Rows.uptoBulkAll, List.length_cons]; omega
theorem dcon {cs : List AV} {d : DataW H} (h : AVD Try.prog 87 cs d) : ∃ x : Con5, cs = con5C x ∧ 1 + x.fs.length ≤ Rows.uptoBulk d := by
  obtain ⟨jl, dd, jd, jb, jz, jf⟩ := avdB_struct Try.underlying87 h
  rw [k87] at jl
  obtain ⟨c0, c1, c2, c3, c4, rfl⟩ := at5 jl
  obtain ⟨t0, t1, t2, t3, t4, rfl⟩ := at5 (show dd.length = 5 from jd)
  have u0 := jf 0 _ t0 rfl rfl
  have u1 := jf 1 _ t1 rfl rfl
  have u2 := jf 2 _ t2 rfl rfl
  have u3 := jf 3 _ t3 rfl rfl
  have u4 := jf 4 _ t4 rfl rfl
  change AVD Try.prog 9 (List.take (Try.prog.cellsOf 9) (List.drop 0 [c0, c1, c2, c3, c4])) t0 at u0
  change AVD Try.prog 9 (List.take (Try.prog.cellsOf 9) (List.drop 1 [c0, c1, c2, c3, c4])) t1 at u1
  change AVD Try.prog 3 (List.take (Try.prog.cellsOf 3) (List.drop 2 [c0, c1, c2, c3, c4])) t2 at u2
  change AVD Try.prog 3 (List.take (Try.prog.cellsOf 3) (List.drop 3 [c0, c1, c2, c3, c4])) t3 at u3
  change AVD Try.prog 22 (List.take (Try.prog.cellsOf 22) (List.drop 4 [c0, c1, c2, c3, c4])) t4 at u4
  simp only [k9, k3, k22, List.drop_zero, List.drop_succ_cons, List.take_succ_cons, List.take_zero] at u0 u1 u2 u3 u4
  obtain ⟨v0, x0, x0b⟩ := avdB_str Try.underlying9 u0
  obtain ⟨v1, x1, x1b⟩ := avdB_str Try.underlying9 u1
  obtain ⟨v2, x2⟩ := dint u2
  obtain ⟨v3, x3⟩ := dint u3
  obtain ⟨es, ds, x4, hl, hb, _, he⟩ := avdB_slice Try.underlying22 (by rw [k33]; decide) u4
  simp only [List.cons.injEq, and_true] at x0 x1 x2 x3 x4
  subst x0 x1 x2 x3 x4
  refine ⟨⟨v0, v1, v2, v3, es⟩, rfl, ?_⟩
  have := bulk_len ds
  simp only [Rows.uptoBulkAll] at jb
  simp only
  omega
theorem dcons {cs : List AV} {d : DataW H} (h : AVD Try.prog 73 cs d) : ∃ l : List Con5, cs = [.list (l.map con5C)] ∧ bulkC l + 1 ≤ Rows.uptoBulk d := by
  obtain ⟨es, ds, rfl, hl, hb, _, he⟩ := avdB_slice Try.underlying73 (by rw [k87]; decide) h
  obtain ⟨l, rfl, hw⟩ := bulk_all (f := con5C) (w := fun x => 1 + x.fs.length) (T := bulkC) rfl (fun x l => by rw [bulkC]) (Q := fun _ _ => True) es ds hl fun i c x h1 h2 => dcon (he i c x h1 h2)
  exact ⟨l, rfl, by omega⟩
end
end Go.Proofs.Ytjjbjibbjbbeaaa
