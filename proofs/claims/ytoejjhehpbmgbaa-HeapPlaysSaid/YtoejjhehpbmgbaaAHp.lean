/- What is made by playing calls on a new heap. -/
import Derived.Test.YtoejjhehpbmgbaaAHh
set_option linter.unusedVariables false
set_option linter.unusedSimpArgs false
namespace Go.AL
/-- What is known of an arena that was played. -/
structure Played (H : Hp) (cap : Int) (m : Nat) : Prop where
  good : H.Good
  cap : H.cap = cap
  sizes : ∀ a x, H.at a = some x → x.l.length ≤ 20
  len : H.cells.length ≤ m
theorem Played.weight {H : Hp} {cap : Int} {m : Nat} (h : Played H cap m) : weight H.cells ≤ m * 21 := by
  have := weight_le (B := 20) h.sizes
  have := Nat.mul_le_mul_right 21 h.len
  omega
theorem Played.mono {H : Hp} {cap : Int} {m m' : Nat} (h : Played H cap m) (hm : m ≤ m') : Played H cap m' := ⟨h.good, h.cap, h.sizes, Nat.le_trans h.len hm⟩
theorem Played.start {cap : Int} (h : 1 ≤ cap ∧ cap ≤ 16777216) : Played (Hp.mk0 cap) cap 0 := ⟨Hp.mk0_good h, rfl, fun a x hx => (by rw [mk0_at] at hx; cases hx), by simp [Hp.mk0]⟩
theorem Played.alloc {H : Hp} {cap : Int} {m : Nat} (h : Played H cap m) (x : Nd) (hx : x.l.length ≤ 20) : Played (H.alloc x).1 cap (m + 1) := by
  by_cases hal : H.all x.l = true
  · by_cases hl : H.live < H.cap
    · obtain ⟨a, h1, h2, h3, h4, h5, h6, h7, h8⟩ := alloc_spec h.good x hal hl
      refine ⟨h.good.alloc x, by rw [h7, h.cap], fun b y hy => ?_, ?_⟩
      · rw [h5] at hy
        split at hy
        · cases hy; exact hx
        · exact h.sizes b y hy
      · have := h.len
        unfold Hp.alloc
        rw [if_pos hal]
        split
        · omega
        · split <;> simp <;> omega
    · rw [alloc_full x hal (by omega)]; exact h.mono (by omega)
  · rw [alloc_bad x (by simpa using hal)]; exact h.mono (by omega)
theorem Played.set {H : Hp} {cap : Int} {m : Nat} (h : Played H cap m) (a : Int) (x : Nd) (hx : x.l.length ≤ 20) : Played (H.set a x).1 cap m := by
  refine ⟨h.good.set a x, ?_, ?_, ?_⟩
  · unfold Hp.set; split
    · exact h.cap
    · exact h.cap
  · intro b y hy
    unfold Hp.set at hy
    split at hy
    · rename_i hc
      obtain ⟨h0, y', m', hc'⟩ := has_iff.mp hc.1
      rw [at_set (H := H) (List.getElem?_eq_some_iff.mp hc').1 x rfl b] at hy
      split at hy
      · cases hy; exact hx
      · exact h.sizes b y hy
    · exact h.sizes b y hy
  · have := h.len
    unfold Hp.set; split
    · simpa using this
    · exact this
theorem Played.sweep {H : Hp} {cap : Int} {m : Nat} (h : Played H cap m) {roots : List Int} (hr : H.all roots = true) {C : List Cl} (hM : MI H.cells roots C []) : Played (H.sweep C) cap m := by
  obtain ⟨hG1, hat, hn, hcap, hal⟩ := collect_spec h.good hr hM
  refine ⟨hG1, by rw [hcap, h.cap], fun a x hx => ?_, ?_⟩
  · by_cases hre : AL.Reach H.cells roots a
    · rw [((hat a).1 hre).1] at hx; exact h.sizes a x hx
    · rw [(hat a).2 hre] at hx; cases hx
  · have : C.length = H.cells.length := by simpa using congrArg List.length hM.same
    simp only [Hp.sweep, List.length_map, this]; exact h.len
end Go.AL
namespace Go.Proofs.Ytoejjhehpbmgbaa
open Go.AL
theorem played_ok (σ : Store) (cap : Int) (hc : 1 ≤ cap ∧ cap ≤ 16777216) (l : List OpM) (hl : few l = true) :
    ACalls Try.prog 19 [.int .i64 cap, opsV l] σ fun r σ' => ∃ H, r = .ptr σ.next 0 0 0 ∧ Played H cap 400 ∧ HeapTo σ σ.next [] H σ' := by
  have hl' : l.length ≤ 400 ∧ ∀ o, o ∈ l → o.n.l.length ≤ 20 := by
    simp only [few, Bool.and_eq_true, decide_eq_true_eq, List.all_eq_true] at hl
    exact hl
  obtain ⟨h400, hsz⟩ := hl'
  have e21 : ((2 : Int) = 1) = False := by decide
  have e41 : ((4 : Int) = 1) = False := by decide
  have e42 : ((4 : Int) = 2) = False := by decide
  have hw : ∀ i : Nat, (i : Int) ≤ 1000 → IntKind.i64.wrap ((i : Int) + 1) = ((i + 1 : Nat) : Int) := fun i hi => by rw [wrap_of (by omega) (by omega)]; rfl
  refine in19 (by simp) ?_
  unfold c19
  try simp only [S, argList, aPut, aFill, ↓reduceIte, Nat.reduceEqDiff, Nat.reduceAdd, Nat.reduceLeDiff, reduceCtorEq]
  repeat ((with_reducible first | refine AWP_seq ?_ | refine AWP_block ?_ | refine AWP_scope ?_ | refine AWP_reg ?_ | refine AWP_draw ?_ | refine AWP_skip ?_ | refine AWP_ret ?_ | refine AWP_exit ?_ | (refine AWP_cond_true ?_ ?_; · simp only [S, argList, aPut, aFill, ↓reduceIte, Nat.reduceEqDiff, Nat.reduceAdd, Nat.reduceLeDiff, reduceCtorEq]) | (refine AWP_cond_false ?_ ?_; · simp only [S, argList, aPut, aFill, ↓reduceIte, Nat.reduceEqDiff, Nat.reduceAdd, Nat.reduceLeDiff, reduceCtorEq])); try simp only [S, argList, aPut, aFill, ↓reduceIte, Nat.reduceEqDiff, Nat.reduceAdd, Nat.reduceLeDiff, reduceCtorEq])
  refine (new_ok σ cap hc).mono ?_
  rintro r s0 ⟨rfl, cs0, fs0, hH0, hF0⟩
  try simp only [S, argList, aPut, aFill, ↓reduceIte, Nat.reduceEqDiff, Nat.reduceAdd, Nat.reduceLeDiff, reduceCtorEq]
  repeat ((with_reducible first | refine AWP_seq ?_ | refine AWP_block ?_ | refine AWP_scope ?_ | refine AWP_reg ?_ | refine AWP_draw ?_ | refine AWP_skip ?_ | refine AWP_ret ?_ | refine AWP_exit ?_ | (refine AWP_cond_true ?_ ?_; · simp only [S, argList, aPut, aFill, ↓reduceIte, Nat.reduceEqDiff, Nat.reduceAdd, Nat.reduceLeDiff, reduceCtorEq]) | (refine AWP_cond_false ?_ ?_; · simp only [S, argList, aPut, aFill, ↓reduceIte, Nat.reduceEqDiff, Nat.reduceAdd, Nat.reduceLeDiff, reduceCtorEq])); try simp only [S, argList, aPut, aFill, ↓reduceIte, Nat.reduceEqDiff, Nat.reduceAdd, Nat.reduceLeDiff, reduceCtorEq])
  refine AWP_while [1, 5, 7] (fun y : Nat × Hp => l.length - y.1) (fun y => [opsV l, .ptr σ.next 0 0 0, .int .i64 y.1])
    (fun y s => y.1 ≤ l.length ∧ Played y.2 cap y.1 ∧ HeapTo σ σ.next [] y.2 s) (0, Hp.mk0 cap) ⟨by simp, Played.start hc, cs0, fs0, hH0, hF0⟩ ?_ ?_
  · try simp only [S, argList, aPut, aFill, ↓reduceIte, Nat.reduceEqDiff, Nat.reduceAdd, Nat.reduceLeDiff, reduceCtorEq]
    repeat ((with_reducible first | refine AWP_seq ?_ | refine AWP_block ?_ | refine AWP_scope ?_ | refine AWP_reg ?_ | refine AWP_draw ?_ | refine AWP_skip ?_ | refine AWP_ret ?_ | refine AWP_exit ?_ | (refine AWP_cond_true ?_ ?_; · simp only [S, argList, aPut, aFill, ↓reduceIte, Nat.reduceEqDiff, Nat.reduceAdd, Nat.reduceLeDiff, reduceCtorEq]) | (refine AWP_cond_false ?_ ?_; · simp only [S, argList, aPut, aFill, ↓reduceIte, Nat.reduceEqDiff, Nat.reduceAdd, Nat.reduceLeDiff, reduceCtorEq])); try simp only [S, argList, aPut, aFill, ↓reduceIte, Nat.reduceEqDiff, Nat.reduceAdd, Nat.reduceLeDiff, reduceCtorEq])
    rfl
  · rintro ⟨i, H⟩ s ⟨hi, hP, cs, fs, hH, hF⟩
    simp only at hi hP hH
    by_cases hil : i < l.length
    · have hil' : (i : Int) < (l.length : Int) := by omega
      obtain ⟨o, ho⟩ : ∃ o, l[i]? = some o := ⟨_, List.getElem?_eq_getElem hil⟩
      have hos := hsz o (List.mem_of_getElem? ho)
      have hg : (l.map OpM.cells)[i]? = some o.cells := by simp [ho]
      have hb8 : o.n.l.length * 8 ≤ 140737488355328 := by omega
      by_cases h1 : o.kind = 1
      · try simp only [S, argList, aPut, aFill, ↓reduceIte, Nat.reduceEqDiff, Nat.reduceAdd, Nat.reduceLeDiff, reduceCtorEq, opsV, hil', hg, OpM.cells, h1]
        repeat ((with_reducible first | refine AWP_seq ?_ | refine AWP_block ?_ | refine AWP_scope ?_ | refine AWP_reg ?_ | refine AWP_draw ?_ | refine AWP_skip ?_ | refine AWP_ret ?_ | refine AWP_exit ?_ | (refine AWP_cond_true ?_ ?_; · simp only [S, argList, aPut, aFill, ↓reduceIte, Nat.reduceEqDiff, Nat.reduceAdd, Nat.reduceLeDiff, reduceCtorEq, opsV, hil', hg, OpM.cells, h1]) | (refine AWP_cond_false ?_ ?_; · simp only [S, argList, aPut, aFill, ↓reduceIte, Nat.reduceEqDiff, Nat.reduceAdd, Nat.reduceLeDiff, reduceCtorEq, opsV, hil', hg, OpM.cells, h1])); try simp only [S, argList, aPut, aFill, ↓reduceIte, Nat.reduceEqDiff, Nat.reduceAdd, Nat.reduceLeDiff, reduceCtorEq, opsV, hil', hg, OpM.cells, h1])
        refine (alloc_ok hH hP.good o.n hb8).mono ?_
        rintro r s1 ⟨rfl, cs1, fs1, hH1, hF1⟩
        try simp only [S, argList, aPut, aFill, ↓reduceIte, Nat.reduceEqDiff, Nat.reduceAdd, Nat.reduceLeDiff, reduceCtorEq, hw i (by omega)]
        repeat ((with_reducible first | refine AWP_seq ?_ | refine AWP_block ?_ | refine AWP_scope ?_ | refine AWP_reg ?_ | refine AWP_draw ?_ | refine AWP_skip ?_ | refine AWP_ret ?_ | refine AWP_exit ?_ | (refine AWP_cond_true ?_ ?_; · simp only [S, argList, aPut, aFill, ↓reduceIte, Nat.reduceEqDiff, Nat.reduceAdd, Nat.reduceLeDiff, reduceCtorEq, hw i (by omega)]) | (refine AWP_cond_false ?_ ?_; · simp only [S, argList, aPut, aFill, ↓reduceIte, Nat.reduceEqDiff, Nat.reduceAdd, Nat.reduceLeDiff, reduceCtorEq, hw i (by omega)])); try simp only [S, argList, aPut, aFill, ↓reduceIte, Nat.reduceEqDiff, Nat.reduceAdd, Nat.reduceLeDiff, reduceCtorEq, hw i (by omega)])
        exact ⟨(i + 1, _), rfl, ⟨by simp only; omega, hP.alloc o.n hos, cs1, fs1, hH1, hF.trans hF1⟩, by simp only; omega⟩
      · by_cases h2 : o.kind = 2
        · try simp only [S, argList, aPut, aFill, ↓reduceIte, Nat.reduceEqDiff, Nat.reduceAdd, Nat.reduceLeDiff, reduceCtorEq, opsV, hil', hg, OpM.cells, h2, e21]
          repeat ((with_reducible first | refine AWP_seq ?_ | refine AWP_block ?_ | refine AWP_scope ?_ | refine AWP_reg ?_ | refine AWP_draw ?_ | refine AWP_skip ?_ | refine AWP_ret ?_ | refine AWP_exit ?_ | (refine AWP_cond_true ?_ ?_; · simp only [S, argList, aPut, aFill, ↓reduceIte, Nat.reduceEqDiff, Nat.reduceAdd, Nat.reduceLeDiff, reduceCtorEq, opsV, hil', hg, OpM.cells, h2, e21]) | (refine AWP_cond_false ?_ ?_; · simp only [S, argList, aPut, aFill, ↓reduceIte, Nat.reduceEqDiff, Nat.reduceAdd, Nat.reduceLeDiff, reduceCtorEq, opsV, hil', hg, OpM.cells, h2, e21])); try simp only [S, argList, aPut, aFill, ↓reduceIte, Nat.reduceEqDiff, Nat.reduceAdd, Nat.reduceLeDiff, reduceCtorEq, opsV, hil', hg, OpM.cells, h2, e21])
          refine (set_ok hH (by have := hP.good.cap; omega) hP.good.clean o.a o.n hb8).mono ?_
          rintro r s1 ⟨rfl, cs1, fs1, hH1, hF1⟩
          try simp only [S, argList, aPut, aFill, ↓reduceIte, Nat.reduceEqDiff, Nat.reduceAdd, Nat.reduceLeDiff, reduceCtorEq, hw i (by omega)]
          repeat ((with_reducible first | refine AWP_seq ?_ | refine AWP_block ?_ | refine AWP_scope ?_ | refine AWP_reg ?_ | refine AWP_draw ?_ | refine AWP_skip ?_ | refine AWP_ret ?_ | refine AWP_exit ?_ | (refine AWP_cond_true ?_ ?_; · simp only [S, argList, aPut, aFill, ↓reduceIte, Nat.reduceEqDiff, Nat.reduceAdd, Nat.reduceLeDiff, reduceCtorEq, hw i (by omega)]) | (refine AWP_cond_false ?_ ?_; · simp only [S, argList, aPut, aFill, ↓reduceIte, Nat.reduceEqDiff, Nat.reduceAdd, Nat.reduceLeDiff, reduceCtorEq, hw i (by omega)])); try simp only [S, argList, aPut, aFill, ↓reduceIte, Nat.reduceEqDiff, Nat.reduceAdd, Nat.reduceLeDiff, reduceCtorEq, hw i (by omega)])
          exact ⟨(i + 1, _), rfl, ⟨by simp only; omega, (hP.set o.a o.n hos).mono (by simp only; omega), cs1, fs1, hH1, hF.trans hF1⟩, by simp only; omega⟩
        · by_cases h4 : o.kind = 4
          · try simp only [S, argList, aPut, aFill, ↓reduceIte, Nat.reduceEqDiff, Nat.reduceAdd, Nat.reduceLeDiff, reduceCtorEq, opsV, hil', hg, OpM.cells, h4, e41, e42]
            repeat ((with_reducible first | refine AWP_seq ?_ | refine AWP_block ?_ | refine AWP_scope ?_ | refine AWP_reg ?_ | refine AWP_draw ?_ | refine AWP_skip ?_ | refine AWP_ret ?_ | refine AWP_exit ?_ | (refine AWP_cond_true ?_ ?_; · simp only [S, argList, aPut, aFill, ↓reduceIte, Nat.reduceEqDiff, Nat.reduceAdd, Nat.reduceLeDiff, reduceCtorEq, opsV, hil', hg, OpM.cells, h4, e41, e42]) | (refine AWP_cond_false ?_ ?_; · simp only [S, argList, aPut, aFill, ↓reduceIte, Nat.reduceEqDiff, Nat.reduceAdd, Nat.reduceLeDiff, reduceCtorEq, opsV, hil', hg, OpM.cells, h4, e41, e42])); try simp only [S, argList, aPut, aFill, ↓reduceIte, Nat.reduceEqDiff, Nat.reduceAdd, Nat.reduceLeDiff, reduceCtorEq, opsV, hil', hg, OpM.cells, h4, e41, e42])
            have hwt := hP.weight
            refine (collect_ok hH hP.good o.n.l (by omega)).mono ?_
            intro r s1 hcl
            by_cases hr : H.all o.n.l = true
            · rw [if_pos hr] at hcl
              obtain ⟨C, hM, rfl, cs1, fs1, hH1, hF1⟩ := hcl
              try simp only [S, argList, aPut, aFill, ↓reduceIte, Nat.reduceEqDiff, Nat.reduceAdd, Nat.reduceLeDiff, reduceCtorEq, hw i (by omega)]
              repeat ((with_reducible first | refine AWP_seq ?_ | refine AWP_block ?_ | refine AWP_scope ?_ | refine AWP_reg ?_ | refine AWP_draw ?_ | refine AWP_skip ?_ | refine AWP_ret ?_ | refine AWP_exit ?_ | (refine AWP_cond_true ?_ ?_; · simp only [S, argList, aPut, aFill, ↓reduceIte, Nat.reduceEqDiff, Nat.reduceAdd, Nat.reduceLeDiff, reduceCtorEq, hw i (by omega)]) | (refine AWP_cond_false ?_ ?_; · simp only [S, argList, aPut, aFill, ↓reduceIte, Nat.reduceEqDiff, Nat.reduceAdd, Nat.reduceLeDiff, reduceCtorEq, hw i (by omega)])); try simp only [S, argList, aPut, aFill, ↓reduceIte, Nat.reduceEqDiff, Nat.reduceAdd, Nat.reduceLeDiff, reduceCtorEq, hw i (by omega)])
              exact ⟨(i + 1, _), rfl, ⟨by simp only; omega, (hP.sweep hr hM).mono (by simp only; omega), cs1, fs1, hH1, hF.trans hF1⟩, by simp only; omega⟩
            · rw [if_neg hr] at hcl
              obtain ⟨rfl, rfl⟩ := hcl
              try simp only [S, argList, aPut, aFill, ↓reduceIte, Nat.reduceEqDiff, Nat.reduceAdd, Nat.reduceLeDiff, reduceCtorEq, hw i (by omega)]
              repeat ((with_reducible first | refine AWP_seq ?_ | refine AWP_block ?_ | refine AWP_scope ?_ | refine AWP_reg ?_ | refine AWP_draw ?_ | refine AWP_skip ?_ | refine AWP_ret ?_ | refine AWP_exit ?_ | (refine AWP_cond_true ?_ ?_; · simp only [S, argList, aPut, aFill, ↓reduceIte, Nat.reduceEqDiff, Nat.reduceAdd, Nat.reduceLeDiff, reduceCtorEq, hw i (by omega)]) | (refine AWP_cond_false ?_ ?_; · simp only [S, argList, aPut, aFill, ↓reduceIte, Nat.reduceEqDiff, Nat.reduceAdd, Nat.reduceLeDiff, reduceCtorEq, hw i (by omega)])); try simp only [S, argList, aPut, aFill, ↓reduceIte, Nat.reduceEqDiff, Nat.reduceAdd, Nat.reduceLeDiff, reduceCtorEq, hw i (by omega)])
              exact ⟨(i + 1, H), rfl, ⟨by simp only; omega, hP.mono (by simp only; omega), cs, fs, hH, hF⟩, by simp only; omega⟩
          · try simp only [S, argList, aPut, aFill, ↓reduceIte, Nat.reduceEqDiff, Nat.reduceAdd, Nat.reduceLeDiff, reduceCtorEq, opsV, hil', hg, OpM.cells, h1, h2, h4, hw i (by omega)]
            repeat ((with_reducible first | refine AWP_seq ?_ | refine AWP_block ?_ | refine AWP_scope ?_ | refine AWP_reg ?_ | refine AWP_draw ?_ | refine AWP_skip ?_ | refine AWP_ret ?_ | refine AWP_exit ?_ | (refine AWP_cond_true ?_ ?_; · simp only [S, argList, aPut, aFill, ↓reduceIte, Nat.reduceEqDiff, Nat.reduceAdd, Nat.reduceLeDiff, reduceCtorEq, opsV, hil', hg, OpM.cells, h1, h2, h4, hw i (by omega)]) | (refine AWP_cond_false ?_ ?_; · simp only [S, argList, aPut, aFill, ↓reduceIte, Nat.reduceEqDiff, Nat.reduceAdd, Nat.reduceLeDiff, reduceCtorEq, opsV, hil', hg, OpM.cells, h1, h2, h4, hw i (by omega)])); try simp only [S, argList, aPut, aFill, ↓reduceIte, Nat.reduceEqDiff, Nat.reduceAdd, Nat.reduceLeDiff, reduceCtorEq, opsV, hil', hg, OpM.cells, h1, h2, h4, hw i (by omega)])
            exact ⟨(i + 1, H), rfl, ⟨by simp only; omega, hP.mono (by simp only; omega), cs, fs, hH, hF⟩, by simp only; omega⟩
    · have hil' : ¬ (i : Int) < (l.length : Int) := by omega
      try simp only [S, argList, aPut, aFill, ↓reduceIte, Nat.reduceEqDiff, Nat.reduceAdd, Nat.reduceLeDiff, reduceCtorEq, opsV, hil']
      repeat ((with_reducible first | refine AWP_seq ?_ | refine AWP_block ?_ | refine AWP_scope ?_ | refine AWP_reg ?_ | refine AWP_draw ?_ | refine AWP_skip ?_ | refine AWP_ret ?_ | refine AWP_exit ?_ | (refine AWP_cond_true ?_ ?_; · simp only [S, argList, aPut, aFill, ↓reduceIte, Nat.reduceEqDiff, Nat.reduceAdd, Nat.reduceLeDiff, reduceCtorEq, opsV, hil']) | (refine AWP_cond_false ?_ ?_; · simp only [S, argList, aPut, aFill, ↓reduceIte, Nat.reduceEqDiff, Nat.reduceAdd, Nat.reduceLeDiff, reduceCtorEq, opsV, hil'])); try simp only [S, argList, aPut, aFill, ↓reduceIte, Nat.reduceEqDiff, Nat.reduceAdd, Nat.reduceLeDiff, reduceCtorEq, opsV, hil'])
      exact ⟨H, hP.mono (by omega), cs, fs, hH, hF⟩
end Go.Proofs.Ytoejjhehpbmgbaa
