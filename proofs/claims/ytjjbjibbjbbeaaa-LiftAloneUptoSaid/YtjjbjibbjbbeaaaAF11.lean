/- What is free in an expression: look, Free. -/
import Derived.Test.YtjjbjibbjbbeaaaAF10
set_option linter.unusedVariables false
set_option linter.unusedSimpArgs false
namespace Go.Proofs.Ytjjbjibbjbbeaaa
open Go.AL
theorem look_ok : ∀ x : Cr, LookC x := by
  intro x
  induction x using Cr.ind with
  | _ k nm n ar ps gs al bs pk ih1 ih2 ih3 ih4 =>
    intro σ fid vb vo b o h hb
    rw [Cr.bulk] at hb
    refine in82 (by simp) ?_
    unfold c82
    have l3 := Cr.lenB2 bs
    try simp only [SS, argList, aPut, aFill, ↓reduceIte, Nat.reduceEqDiff, Nat.reduceAdd, Nat.reduceLeDiff, reduceCtorEq, Int.reduceEq, Int.reduceLT, Int.reduceLE, Int.reduceNeg, Int.reduceAdd, Int.reduceSub, Int.reduceToNat]
    iterate 2 ((with_reducible first | refine AWP_seq ?_ | refine AWP_block ?_ | refine AWP_scope ?_ | refine AWP_reg ?_ | refine AWP_draw ?_ | refine AWP_skip ?_ | refine AWP_ret ?_ | refine AWP_exit ?_ | (refine AWP_cond_true ?_ ?_; · simp only [SS, argList, aPut, aFill, ↓reduceIte, Nat.reduceEqDiff, Nat.reduceAdd, Nat.reduceLeDiff, reduceCtorEq, Int.reduceEq, Int.reduceLT, Int.reduceLE, Int.reduceNeg, Int.reduceAdd, Int.reduceSub, Int.reduceToNat]) | (refine AWP_cond_false ?_ ?_; · simp only [SS, argList, aPut, aFill, ↓reduceIte, Nat.reduceEqDiff, Nat.reduceAdd, Nat.reduceLeDiff, reduceCtorEq, Int.reduceEq, Int.reduceLT, Int.reduceLE, Int.reduceNeg, Int.reduceAdd, Int.reduceSub, Int.reduceToNat])); try simp only [SS, argList, aPut, aFill, ↓reduceIte, Nat.reduceEqDiff, Nat.reduceAdd, Nat.reduceLeDiff, reduceCtorEq, Int.reduceEq, Int.reduceLT, Int.reduceLE, Int.reduceNeg, Int.reduceAdd, Int.reduceSub, Int.reduceToNat])
    rw [Cr.cells_eq]
    generalize hs : Store.push _ _ = s1
    have k1 : Kp σ s1 := by rw [← hs]; exact (Kp.pushed _ _).push _
    have hp : s1.get σ.next = some (.cells 190 0 1 [[.ptr fid 0 0 0]]) := by rw [← hs]; simp [Store.push_get, Store.push_next]
    have hx : s1.get (σ.next + 1) = some (.cells 54 0 9 [(Cr.mk k nm n ar ps gs al bs pk).cells]) := by rw [← hs, Cr.cells_eq]; simp [Store.push_get, Store.push_next]
    have F := h.keep k1
    clear hs
    have p1 : σ.next ≠ fid := by have := σ.lt h.hd; omega
    have p2 : σ.next ∉ slIds vb := fun hm => by have := h.sb.lt hm; omega
    have p3 : σ.next ∉ slIds vo := fun hm => by have := h.so.lt hm; omega
    have x1 : σ.next + 1 ≠ fid := by have := σ.lt h.hd; omega
    have x2 : σ.next + 1 ∉ slIds vb := fun hm => by have := h.sb.lt hm; omega
    have x3 : σ.next + 1 ∉ slIds vo := fun hm => by have := h.so.lt hm; omega
    have hx' := hx
    rw [Cr.cells_eq] at hx'
    refine AWP_cut [2, 3] (fun _ : Unit => [.ptr σ.next 0 0 0, .ptr (σ.next + 1) 0 0 0]) (fun _ s => LookPost s1 fid vb vo b (@ite _ (k = 1 ∧ ¬ nm ∈ b ∧ ¬ nm ∈ o) (Classical.propDecidable _) (o ++ [nm]) o) s) ?_ ?_
    · try simp only [SS, argList, aPut, aFill, ↓reduceIte, Nat.reduceEqDiff, Nat.reduceAdd, Nat.reduceLeDiff, reduceCtorEq, Int.reduceEq, Int.reduceLT, Int.reduceLE, Int.reduceNeg, Int.reduceAdd, Int.reduceSub, Int.reduceToNat, hp, hx', F.hd, str_nil]
      repeat' ((with_reducible first | refine AWP_seq ?_ | refine AWP_block ?_ | refine AWP_scope ?_ | refine AWP_reg ?_ | refine AWP_draw ?_ | refine AWP_skip ?_ | refine AWP_ret ?_ | refine AWP_exit ?_ | (refine ok_idx (by first | assumption | omega) (fun b hb => ?_)) | (refine ok_iad (by first | assumption | omega) (fun x hx hxm => ?_)) | (refine And.intro (by omega) ?_) | (refine AWP_cond_true ?_ ?_; · simp only [SS, argList, aPut, aFill, ↓reduceIte, Nat.reduceEqDiff, Nat.reduceAdd, Nat.reduceLeDiff, reduceCtorEq, Int.reduceEq, Int.reduceLT, Int.reduceLE, Int.reduceNeg, Int.reduceAdd, Int.reduceSub, Int.reduceToNat, hp, hx', F.hd, str_nil, *]) | (refine AWP_cond_false ?_ ?_; · simp only [SS, argList, aPut, aFill, ↓reduceIte, Nat.reduceEqDiff, Nat.reduceAdd, Nat.reduceLeDiff, reduceCtorEq, Int.reduceEq, Int.reduceLT, Int.reduceLE, Int.reduceNeg, Int.reduceAdd, Int.reduceSub, Int.reduceToNat, hp, hx', F.hd, str_nil, *]) | (refine guardW_b (fun h => ?_) (fun h => ?_) <;> try simp only [dec_t, dec_f, not_t, not_f] at h) | (refine ePick_b (fun h => ?_) (fun h => ?_) <;> try simp only [dec_t, dec_f, not_t, not_f] at h) | (refine AWP_cond_b (by simp only [SS, argList, aPut, aFill, ↓reduceIte, Nat.reduceEqDiff, Nat.reduceAdd, Nat.reduceLeDiff, reduceCtorEq, Int.reduceEq, Int.reduceLT, Int.reduceLE, Int.reduceNeg, Int.reduceAdd, Int.reduceSub, Int.reduceToNat]; exact rfl) (fun h => ?_) (fun h => ?_) <;> try simp only [dec_t, dec_f, not_t, not_f] at h) | (refine (contains_ok F.sb.rds (by simp at *; omega) nm).mono ?_; rintro _ _ ⟨rfl, rfl⟩) | (refine (contains_ok F.so.rds (by simp at *; omega) nm).mono ?_; rintro _ _ ⟨rfl, rfl⟩)) <;> (try simp only [SS, argList, aPut, aFill, ↓reduceIte, Nat.reduceEqDiff, Nat.reduceAdd, Nat.reduceLeDiff, reduceCtorEq, Int.reduceEq, Int.reduceLT, Int.reduceLE, Int.reduceNeg, Int.reduceAdd, Int.reduceSub, Int.reduceToNat, hp, hx', F.hd, str_nil, *]))
      · refine ok_app F.so (es2 := [[.str nm]]) (by simp) (by simp; omega) (by simp [maxLen]; omega) ?_
        intro v' t3 hsl hfr
        rename_i hk hb1 s1
        have hp3 : t3.get σ.next = some (.cells 190 0 1 [[.ptr fid 0 0 0]]) := by rw [hfr.keep _ (s1.lt hp) p3]; exact hp
        have hd3 : t3.get fid = some (.cells 192 0 2 [[vb, vo]]) := by rw [hfr.keep _ (s1.lt F.hd) F.no]; exact F.hd
        have hlt3 := t3.lt hd3
        have hn3 : fid ∉ slIds v' := fun hm => (hfr.fresh _ hm).elim F.no (fun hh => by have := s1.lt F.hd; omega)
        have hu : ∀ j, j ≠ fid → (t3.upd fid (.cells 192 0 2 [[vb, v']])).get j = t3.get j := fun j hj => Store.get_upd_ne _ _ hj
        try simp only [SS, argList, aPut, aFill, ↓reduceIte, Nat.reduceEqDiff, Nat.reduceAdd, Nat.reduceLeDiff, reduceCtorEq, Int.reduceEq, Int.reduceLT, Int.reduceLE, Int.reduceNeg, Int.reduceAdd, Int.reduceSub, Int.reduceToNat, hp3, hd3, hsl.co]
        repeat ((with_reducible first | refine AWP_seq ?_ | refine AWP_block ?_ | refine AWP_scope ?_ | refine AWP_reg ?_ | refine AWP_draw ?_ | refine AWP_skip ?_ | refine AWP_ret ?_ | refine AWP_exit ?_ | (refine AWP_cond_true ?_ ?_; · simp only [SS, argList, aPut, aFill, ↓reduceIte, Nat.reduceEqDiff, Nat.reduceAdd, Nat.reduceLeDiff, reduceCtorEq, Int.reduceEq, Int.reduceLT, Int.reduceLE, Int.reduceNeg, Int.reduceAdd, Int.reduceSub, Int.reduceToNat, hp3, hd3, hsl.co]) | (refine AWP_cond_false ?_ ?_; · simp only [SS, argList, aPut, aFill, ↓reduceIte, Nat.reduceEqDiff, Nat.reduceAdd, Nat.reduceLeDiff, reduceCtorEq, Int.reduceEq, Int.reduceLT, Int.reduceLE, Int.reduceNeg, Int.reduceAdd, Int.reduceSub, Int.reduceToNat, hp3, hd3, hsl.co])); try simp only [SS, argList, aPut, aFill, ↓reduceIte, Nat.reduceEqDiff, Nat.reduceAdd, Nat.reduceLeDiff, reduceCtorEq, Int.reduceEq, Int.reduceLT, Int.reduceLE, Int.reduceNeg, Int.reduceAdd, Int.reduceSub, Int.reduceToNat, hp3, hd3, hsl.co])
        rw [if_pos ⟨hk, hb1, h⟩]
        refine ⟨(), vb, v', ⟨Store.get_upd_self _ _ hlt3, F.sb.keep fun j hj => ?_, ?_, F.nb, hn3, fun j hj hj2 => (hfr.fresh j hj2).elim (F.dj j hj) (fun hh => by have := F.sb.lt hj; omega)⟩, hfr.next, fun j hj h1 h2 h3 => ?_, fun j hj => .inl hj, fun j hj => hfr.fresh j hj⟩
        · rw [hu j (fun e => F.nb (e ▸ hj)), hfr.keep j (F.sb.lt hj) (F.dj j hj)]
        · rw [List.map_append]
          exact hsl.keep fun j hj => hu j (fun e => hn3 (e ▸ hj))
        · rw [hu j h1, hfr.keep j hj h3]
      · rw [if_neg (by rintro ⟨_, _, h3⟩; exact h3 h)]
        exact ⟨(), vb, vo, F, .refl _ _ _ _⟩
      · rw [if_neg (by rintro ⟨_, h3, _⟩; exact h3 h)]
        exact ⟨(), vb, vo, F, .refl _ _ _ _⟩
      · rw [if_neg (by rintro ⟨h3, _, _⟩; exact h h3)]
        exact ⟨(), vb, vo, F, .refl _ _ _ _⟩
    generalize ho : (@ite _ (k = 1 ∧ ¬ nm ∈ b ∧ ¬ nm ∈ o) (Classical.propDecidable _) (o ++ [nm]) o) = o'
    have hoe : ∀ inst : Decidable (k = 1 ∧ ¬ nm ∈ b ∧ ¬ nm ∈ o), @ite _ (k = 1 ∧ ¬ nm ∈ b ∧ ¬ nm ∈ o) inst (o ++ [nm]) o = o' := fun inst => by rw [← ho]; congr
    rw [freeS]
    simp only [hoe]
    have hol : o'.length ≤ o.length + 1 := by rw [← ho]; split <;> simp
    rintro _ s ⟨v1, o1, F1, G1⟩
    have hp1 := G1.get hp p1 p2 p3
    have hx1 := G1.get hx' x1 x2 x3
    have fin : ∀ l : List ByteArray, b.length + l.length + o.length + 2 * (Cr.bulkL gs + Cr.bulkA al + Cr.bulkB bs + Cr.bulkP pk) ≤ 39999999 + 2 * bs.length → ACalls Try.prog 137 [.ptr fid 0 0 0, strs l, .fn (.func 138) [] [.ptr (σ.next + 1) 0 0 0, .ptr σ.next 0 0 0]] s
        fun _ u => LookPost σ fid vb vo b (freeP (b ++ l) (freeB (b ++ l) (freeA (b ++ l) (freeL (b ++ l) o' gs) al) bs) pk) u := by
      intro l hl
      refine (within_ok s fid v1 o1 b o' l (freeP (b ++ l) (freeB (b ++ l) (freeA (b ++ l) (freeL (b ++ l) o' gs) al) bs) pk) 138 _ F1 (by omega) fun s3 v3 o3 F3 G3 => ?_).mono ?_
      · have q2 : σ.next ∉ slIds v1 := fun hm => (G1.fb _ hm).elim p2 (fun hh => by have := s1.lt hp; omega)
        have q3 : σ.next ∉ slIds o1 := fun hm => (G1.fo _ hm).elim p3 (fun hh => by have := s1.lt hp; omega)
        have r2 : σ.next + 1 ∉ slIds v1 := fun hm => (G1.fb _ hm).elim x2 (fun hh => by have := s1.lt hx; omega)
        have r3 : σ.next + 1 ∉ slIds o1 := fun hm => (G1.fo _ hm).elim x3 (fun hh => by have := s1.lt hx; omega)
        have hp3 := G3.get hp1 p1 q2 q3
        have hx3 := G3.get hx1 x1 r2 r3
        have q4 : σ.next ∉ slIds v3 := fun hm => (G3.fb _ hm).elim q2 (fun hh => by have := s.lt hp1; omega)
        have q5 : σ.next ∉ slIds o3 := fun hm => (G3.fo _ hm).elim q3 (fun hh => by have := s.lt hp1; omega)
        have r4 : σ.next + 1 ∉ slIds v3 := fun hm => (G3.fb _ hm).elim r2 (fun hh => by have := s.lt hx1; omega)
        have r5 : σ.next + 1 ∉ slIds o3 := fun hm => (G3.fo _ hm).elim r3 (fun hh => by have := s.lt hx1; omega)
        exact parts_ok k nm n ar ps gs al bs pk ih1 ih2 ih3 ih4 s3 fid σ.next (σ.next + 1) v3 o3 (b ++ l) o' F3 (by simp; omega) hp3 (by rw [Cr.cells_eq]; exact hx3) p1 q4 q5 x1 r4 r5
      · rintro _ u ⟨v3, o3, F3, G3⟩
        exact ⟨v3, o3, F3, (FF.kp k1 fid vb vo).trans (G1.trans G3)⟩
    by_cases hk : k = 7
    · have fin := fin (bs.map (·.1)) (by simp; omega)
      rw [if_pos hk]
      try simp only [SS, argList, aPut, aFill, ↓reduceIte, Nat.reduceEqDiff, Nat.reduceAdd, Nat.reduceLeDiff, reduceCtorEq, Int.reduceEq, Int.reduceLT, Int.reduceLE, Int.reduceNeg, Int.reduceAdd, Int.reduceSub, Int.reduceToNat, hp1, hx1, hk, str_nil]
      repeat' ((with_reducible first | refine AWP_seq ?_ | refine AWP_block ?_ | refine AWP_scope ?_ | refine AWP_reg ?_ | refine AWP_draw ?_ | refine AWP_skip ?_ | refine AWP_ret ?_ | refine AWP_exit ?_ | (refine ok_idx (by first | assumption | omega) (fun b hb => ?_)) | (refine ok_iad (by first | assumption | omega) (fun x hx hxm => ?_)) | (refine And.intro (by omega) ?_) | (refine AWP_cond_true ?_ ?_; · simp only [SS, argList, aPut, aFill, ↓reduceIte, Nat.reduceEqDiff, Nat.reduceAdd, Nat.reduceLeDiff, reduceCtorEq, Int.reduceEq, Int.reduceLT, Int.reduceLE, Int.reduceNeg, Int.reduceAdd, Int.reduceSub, Int.reduceToNat, hp1, hx1, hk, str_nil, *]) | (refine AWP_cond_false ?_ ?_; · simp only [SS, argList, aPut, aFill, ↓reduceIte, Nat.reduceEqDiff, Nat.reduceAdd, Nat.reduceLeDiff, reduceCtorEq, Int.reduceEq, Int.reduceLT, Int.reduceLE, Int.reduceNeg, Int.reduceAdd, Int.reduceSub, Int.reduceToNat, hp1, hx1, hk, str_nil, *]) | (refine guardW_b (fun h => ?_) (fun h => ?_) <;> try simp only [dec_t, dec_f, not_t, not_f] at h) | (refine ePick_b (fun h => ?_) (fun h => ?_) <;> try simp only [dec_t, dec_f, not_t, not_f] at h) | (refine AWP_cond_b (by simp only [SS, argList, aPut, aFill, ↓reduceIte, Nat.reduceEqDiff, Nat.reduceAdd, Nat.reduceLeDiff, reduceCtorEq, Int.reduceEq, Int.reduceLT, Int.reduceLE, Int.reduceNeg, Int.reduceAdd, Int.reduceSub, Int.reduceToNat]; exact rfl) (fun h => ?_) (fun h => ?_) <;> try simp only [dec_t, dec_f, not_t, not_f] at h) | (refine (names_ok bs (by omega) _).mono ?_; rintro _ _ ⟨rfl, rfl⟩)) <;> (try simp only [SS, argList, aPut, aFill, ↓reduceIte, Nat.reduceEqDiff, Nat.reduceAdd, Nat.reduceLeDiff, reduceCtorEq, Int.reduceEq, Int.reduceLT, Int.reduceLE, Int.reduceNeg, Int.reduceAdd, Int.reduceSub, Int.reduceToNat, hp1, hx1, hk, str_nil, *]))
      refine fin.mono ?_
      rintro _ u hu
      try simp only [SS, argList, aPut, aFill, ↓reduceIte, Nat.reduceEqDiff, Nat.reduceAdd, Nat.reduceLeDiff, reduceCtorEq, Int.reduceEq, Int.reduceLT, Int.reduceLE, Int.reduceNeg, Int.reduceAdd, Int.reduceSub, Int.reduceToNat]
      repeat ((with_reducible first | refine AWP_seq ?_ | refine AWP_block ?_ | refine AWP_scope ?_ | refine AWP_reg ?_ | refine AWP_draw ?_ | refine AWP_skip ?_ | refine AWP_ret ?_ | refine AWP_exit ?_ | (refine AWP_cond_true ?_ ?_; · simp only [SS, argList, aPut, aFill, ↓reduceIte, Nat.reduceEqDiff, Nat.reduceAdd, Nat.reduceLeDiff, reduceCtorEq, Int.reduceEq, Int.reduceLT, Int.reduceLE, Int.reduceNeg, Int.reduceAdd, Int.reduceSub, Int.reduceToNat]) | (refine AWP_cond_false ?_ ?_; · simp only [SS, argList, aPut, aFill, ↓reduceIte, Nat.reduceEqDiff, Nat.reduceAdd, Nat.reduceLeDiff, reduceCtorEq, Int.reduceEq, Int.reduceLT, Int.reduceLE, Int.reduceNeg, Int.reduceAdd, Int.reduceSub, Int.reduceToNat])); try simp only [SS, argList, aPut, aFill, ↓reduceIte, Nat.reduceEqDiff, Nat.reduceAdd, Nat.reduceLeDiff, reduceCtorEq, Int.reduceEq, Int.reduceLT, Int.reduceLE, Int.reduceNeg, Int.reduceAdd, Int.reduceSub, Int.reduceToNat])
      exact hu
    · have fin := fin ps (by omega)
      rw [if_neg hk]
      try simp only [SS, argList, aPut, aFill, ↓reduceIte, Nat.reduceEqDiff, Nat.reduceAdd, Nat.reduceLeDiff, reduceCtorEq, Int.reduceEq, Int.reduceLT, Int.reduceLE, Int.reduceNeg, Int.reduceAdd, Int.reduceSub, Int.reduceToNat, hp1, hx1, hk, str_nil]
      repeat' ((with_reducible first | refine AWP_seq ?_ | refine AWP_block ?_ | refine AWP_scope ?_ | refine AWP_reg ?_ | refine AWP_draw ?_ | refine AWP_skip ?_ | refine AWP_ret ?_ | refine AWP_exit ?_ | (refine ok_idx (by first | assumption | omega) (fun b hb => ?_)) | (refine ok_iad (by first | assumption | omega) (fun x hx hxm => ?_)) | (refine And.intro (by omega) ?_) | (refine AWP_cond_true ?_ ?_; · simp only [SS, argList, aPut, aFill, ↓reduceIte, Nat.reduceEqDiff, Nat.reduceAdd, Nat.reduceLeDiff, reduceCtorEq, Int.reduceEq, Int.reduceLT, Int.reduceLE, Int.reduceNeg, Int.reduceAdd, Int.reduceSub, Int.reduceToNat, hp1, hx1, hk, str_nil, *]) | (refine AWP_cond_false ?_ ?_; · simp only [SS, argList, aPut, aFill, ↓reduceIte, Nat.reduceEqDiff, Nat.reduceAdd, Nat.reduceLeDiff, reduceCtorEq, Int.reduceEq, Int.reduceLT, Int.reduceLE, Int.reduceNeg, Int.reduceAdd, Int.reduceSub, Int.reduceToNat, hp1, hx1, hk, str_nil, *]) | (refine guardW_b (fun h => ?_) (fun h => ?_) <;> try simp only [dec_t, dec_f, not_t, not_f] at h) | (refine ePick_b (fun h => ?_) (fun h => ?_) <;> try simp only [dec_t, dec_f, not_t, not_f] at h) | (refine AWP_cond_b (by simp only [SS, argList, aPut, aFill, ↓reduceIte, Nat.reduceEqDiff, Nat.reduceAdd, Nat.reduceLeDiff, reduceCtorEq, Int.reduceEq, Int.reduceLT, Int.reduceLE, Int.reduceNeg, Int.reduceAdd, Int.reduceSub, Int.reduceToNat]; exact rfl) (fun h => ?_) (fun h => ?_) <;> try simp only [dec_t, dec_f, not_t, not_f] at h)) <;> (try simp only [SS, argList, aPut, aFill, ↓reduceIte, Nat.reduceEqDiff, Nat.reduceAdd, Nat.reduceLeDiff, reduceCtorEq, Int.reduceEq, Int.reduceLT, Int.reduceLE, Int.reduceNeg, Int.reduceAdd, Int.reduceSub, Int.reduceToNat, hp1, hx1, hk, str_nil, *]))
      refine fin.mono ?_
      rintro _ u hu
      try simp only [SS, argList, aPut, aFill, ↓reduceIte, Nat.reduceEqDiff, Nat.reduceAdd, Nat.reduceLeDiff, reduceCtorEq, Int.reduceEq, Int.reduceLT, Int.reduceLE, Int.reduceNeg, Int.reduceAdd, Int.reduceSub, Int.reduceToNat]
      repeat ((with_reducible first | refine AWP_seq ?_ | refine AWP_block ?_ | refine AWP_scope ?_ | refine AWP_reg ?_ | refine AWP_draw ?_ | refine AWP_skip ?_ | refine AWP_ret ?_ | refine AWP_exit ?_ | (refine AWP_cond_true ?_ ?_; · simp only [SS, argList, aPut, aFill, ↓reduceIte, Nat.reduceEqDiff, Nat.reduceAdd, Nat.reduceLeDiff, reduceCtorEq, Int.reduceEq, Int.reduceLT, Int.reduceLE, Int.reduceNeg, Int.reduceAdd, Int.reduceSub, Int.reduceToNat]) | (refine AWP_cond_false ?_ ?_; · simp only [SS, argList, aPut, aFill, ↓reduceIte, Nat.reduceEqDiff, Nat.reduceAdd, Nat.reduceLeDiff, reduceCtorEq, Int.reduceEq, Int.reduceLT, Int.reduceLE, Int.reduceNeg, Int.reduceAdd, Int.reduceSub, Int.reduceToNat])); try simp only [SS, argList, aPut, aFill, ↓reduceIte, Nat.reduceEqDiff, Nat.reduceAdd, Nat.reduceLeDiff, reduceCtorEq, Int.reduceEq, Int.reduceLT, Int.reduceLE, Int.reduceNeg, Int.reduceAdd, Int.reduceSub, Int.reduceToNat])
      exact hu
theorem free_ok (x : Cr) (hb : x.bulk ≤ 20000000) (σ : Store) : ACalls Try.prog 46 [.agg x.cells] σ fun r σ' => r = strs (freeS [] [] x) ∧ σ' = σ := by
  refine ACalls_fp (p := fun r => r = strs (freeS [] [] x)) ?_
  refine in46 (by simp) ?_
  unfold c46
  try simp only [SS, argList, aPut, aFill, ↓reduceIte, Nat.reduceEqDiff, Nat.reduceAdd, Nat.reduceLeDiff, reduceCtorEq, Int.reduceEq, Int.reduceLT, Int.reduceLE, Int.reduceNeg, Int.reduceAdd, Int.reduceSub, Int.reduceToNat, Cr.len, Cr.take9]
  repeat ((with_reducible first | refine AWP_seq ?_ | refine AWP_block ?_ | refine AWP_scope ?_ | refine AWP_reg ?_ | refine AWP_draw ?_ | refine AWP_skip ?_ | refine AWP_ret ?_ | refine AWP_exit ?_ | (refine AWP_cond_true ?_ ?_; · simp only [SS, argList, aPut, aFill, ↓reduceIte, Nat.reduceEqDiff, Nat.reduceAdd, Nat.reduceLeDiff, reduceCtorEq, Int.reduceEq, Int.reduceLT, Int.reduceLE, Int.reduceNeg, Int.reduceAdd, Int.reduceSub, Int.reduceToNat, Cr.len, Cr.take9]) | (refine AWP_cond_false ?_ ?_; · simp only [SS, argList, aPut, aFill, ↓reduceIte, Nat.reduceEqDiff, Nat.reduceAdd, Nat.reduceLeDiff, reduceCtorEq, Int.reduceEq, Int.reduceLT, Int.reduceLE, Int.reduceNeg, Int.reduceAdd, Int.reduceSub, Int.reduceToNat, Cr.len, Cr.take9])); try simp only [SS, argList, aPut, aFill, ↓reduceIte, Nat.reduceEqDiff, Nat.reduceAdd, Nat.reduceLeDiff, reduceCtorEq, Int.reduceEq, Int.reduceLT, Int.reduceLE, Int.reduceNeg, Int.reduceAdd, Int.reduceSub, Int.reduceToNat, Cr.len, Cr.take9])
  generalize hs : Store.push _ _ = s
  have k1 : Kp σ s := by rw [← hs]; exact (Kp.pushed _ _).push _
  have F : FindAt s (σ.next + 1) .nils .nils [] [] := by
    refine ⟨by rw [← hs]; simp [Store.push_get, Store.push_next], .nil _ _ _, .nil _ _ _, by simp [slIds], by simp [slIds], by simp [slIds]⟩
  clear hs
  refine (look_ok x s (σ.next + 1) .nils .nils [] [] F (by simp; omega)).mono ?_
  rintro _ u ⟨v2, o2, F2, G2⟩
  try simp only [SS, argList, aPut, aFill, ↓reduceIte, Nat.reduceEqDiff, Nat.reduceAdd, Nat.reduceLeDiff, reduceCtorEq, Int.reduceEq, Int.reduceLT, Int.reduceLE, Int.reduceNeg, Int.reduceAdd, Int.reduceSub, Int.reduceToNat, F2.hd]
  repeat ((with_reducible first | refine AWP_seq ?_ | refine AWP_block ?_ | refine AWP_scope ?_ | refine AWP_reg ?_ | refine AWP_draw ?_ | refine AWP_skip ?_ | refine AWP_ret ?_ | refine AWP_exit ?_ | (refine AWP_cond_true ?_ ?_; · simp only [SS, argList, aPut, aFill, ↓reduceIte, Nat.reduceEqDiff, Nat.reduceAdd, Nat.reduceLeDiff, reduceCtorEq, Int.reduceEq, Int.reduceLT, Int.reduceLE, Int.reduceNeg, Int.reduceAdd, Int.reduceSub, Int.reduceToNat, F2.hd]) | (refine AWP_cond_false ?_ ?_; · simp only [SS, argList, aPut, aFill, ↓reduceIte, Nat.reduceEqDiff, Nat.reduceAdd, Nat.reduceLeDiff, reduceCtorEq, Int.reduceEq, Int.reduceLT, Int.reduceLE, Int.reduceNeg, Int.reduceAdd, Int.reduceSub, Int.reduceToNat, F2.hd])); try simp only [SS, argList, aPut, aFill, ↓reduceIte, Nat.reduceEqDiff, Nat.reduceAdd, Nat.reduceLeDiff, reduceCtorEq, Int.reduceEq, Int.reduceLT, Int.reduceLE, Int.reduceNeg, Int.reduceAdd, Int.reduceSub, Int.reduceToNat, F2.hd])
  have e : ∀ j, j < σ.next → u.get j = σ.get j := fun j hj => by
    rw [G2.keep j (by have := k1.next; omega) (by omega) (by simp [slIds]) (by simp [slIds]), k1.keep j hj]
  exact FP.mk (strs (freeS [] [] x)) F2.so .here rfl (cln_strs _) ⟨by have := k1.next; have := G2.next; omega, e⟩ (fun j hj => by have := k1.next; rcases G2.fo j hj with h | h; (· simp [slIds] at h); omega)
end Go.Proofs.Ytjjbjibbjbbeaaa
