/- What con makes of a table. -/
import Derived.Test.YtoejjhehpbmgbaaAD3
set_option linter.unusedVariables false
set_option linter.unusedSimpArgs false
namespace Go.AL
def conM (T : DT) (d : DDM) (tag : Int) (c : CDM) : DT × Int :=
  if (T.find c.name).isSome = true then (T, 80)
  else match fieldsL T.ps d.params c.fields with
    | (l, 0) => ({ T with cs := T.cs ++ [⟨c.name, d.name, tag, d.params.length, l⟩] }, 0)
    | (_, e) => (T, e)
theorem TblAt.off {σ s : Store} {tid pm cm : Nat} {ces : List (AV × AV)} {ov : AV} {T : DT} (h : TblAt σ tid pm cm ces ov T) (hk : ∀ i, i < σ.next → s.get i = σ.get i) : TblAt s tid pm cm ces ov T := h.keep fun i hi => hk i (h.lt hi)
theorem TblTo.base {σ0 σ s : Store} {tid : Nat} {old : List Nat} {T : DT} (hn : σ0.next ≤ σ.next) (hk : ∀ i, i < σ0.next → σ.get i = σ0.get i) (h : TblTo σ tid old T s) : TblTo σ0 tid old T s := by
  obtain ⟨pm, cm, ces, ov, h1, h2⟩ := h
  exact ⟨pm, cm, ces, ov, h1, Fr.kpl ⟨hn, hk⟩ h2⟩
theorem TblTo.same {σ s : Store} {tid pm cm : Nat} {ces : List (AV × AV)} {ov : AV} {T : DT} (h : TblAt σ tid pm cm ces ov T) (k : Kp σ s) : TblTo σ tid (TF tid pm cm ov) T s := ⟨pm, cm, ces, ov, h.kp k, ⟨k.next, fun i hi _ => k.keep i hi, fun i hi => .inl hi⟩⟩
theorem TblTo.kp {σ s s' : Store} {tid : Nat} {old : List Nat} {T : DT} (h : TblTo σ tid old T s) (k : Kp s s') : TblTo σ tid old T s' := by
  obtain ⟨pm, cm, ces, ov, h1, h2⟩ := h
  exact ⟨pm, cm, ces, ov, h1.kp k, ⟨Nat.le_trans h2.next k.next, fun i hi hn => by rw [k.keep i (Nat.lt_of_lt_of_le hi h2.next), h2.keep i hi hn], h2.fresh⟩⟩
end Go.AL
namespace Go.Proofs.Ytoejjhehpbmgbaa
open Go.AL
theorem con_ok {σ : Store} {tid pm cm : Nat} {ces : List (AV × AV)} {ov : AV} {T : DT} (h : TblAt σ tid pm cm ces ov T) (hl : T.cs.length ≤ 1000000) (hps : ∀ p, p ∈ T.ps → 0 ≤ p.2 ∧ p.2 ≤ 1000000) (d : DDM) (hd : d.params.length ≤ 1000000) (tag : Int) (c : CDM) (hc : c.fields.length ≤ 1000000) :
    ACalls Try.prog 50 [.ptr tid 0 0 0, .agg d.cells, .int .i64 tag, .agg c.cells] σ fun r σ' => r = .int .i64 (conM T d tag c).2 ∧ TblTo σ tid (TF tid pm cm ov) (conM T d tag c).1 σ' := by
  refine in50 (by simp) ?_
  unfold c50
  have q1 := lt_ne (σ.lt h.hd)
  have q2 := lt_ne (σ.lt h.gcm)
  have q3 : (tid = σ.next + 1) = False := by have := σ.lt h.hd; simp; omega
  have q4 : (cm = σ.next + 1) = False := by have := σ.lt h.gcm; simp; omega
  have q5 : (tid = σ.next + 1 + 1) = False := by have := σ.lt h.hd; simp; omega
  have q6 : (cm = σ.next + 1 + 1) = False := by have := σ.lt h.gcm; simp; omega
  rcases h.find c.name with ⟨hf1, hf2⟩ | ⟨c', v', j, hf1, ⟨fv', rfl, hfv'⟩, hf2⟩
  · try simp only [SS, argList, aPut, aFill, ↓reduceIte, Nat.reduceEqDiff, Nat.reduceAdd, Nat.reduceLeDiff, reduceCtorEq, Int.reduceEq, Int.reduceLT, Int.reduceLE, Int.reduceNeg, Int.reduceAdd, Int.reduceSub, Int.reduceToNat, DDM.cells, CDM.cells, h.hd, h.gcm, q1, q2, q3, q4, q5, q6, hf2, findVal]
    repeat ((with_reducible first | refine AWP_seq ?_ | refine AWP_block ?_ | refine AWP_scope ?_ | refine AWP_reg ?_ | refine AWP_draw ?_ | refine AWP_skip ?_ | refine AWP_ret ?_ | refine AWP_exit ?_ | (refine AWP_cond_true ?_ ?_; · simp only [SS, argList, aPut, aFill, ↓reduceIte, Nat.reduceEqDiff, Nat.reduceAdd, Nat.reduceLeDiff, reduceCtorEq, Int.reduceEq, Int.reduceLT, Int.reduceLE, Int.reduceNeg, Int.reduceAdd, Int.reduceSub, Int.reduceToNat, DDM.cells, CDM.cells, h.hd, h.gcm, q1, q2, q3, q4, q5, q6, hf2, findVal]) | (refine AWP_cond_false ?_ ?_; · simp only [SS, argList, aPut, aFill, ↓reduceIte, Nat.reduceEqDiff, Nat.reduceAdd, Nat.reduceLeDiff, reduceCtorEq, Int.reduceEq, Int.reduceLT, Int.reduceLE, Int.reduceNeg, Int.reduceAdd, Int.reduceSub, Int.reduceToNat, DDM.cells, CDM.cells, h.hd, h.gcm, q1, q2, q3, q4, q5, q6, hf2, findVal])); try simp only [SS, argList, aPut, aFill, ↓reduceIte, Nat.reduceEqDiff, Nat.reduceAdd, Nat.reduceLeDiff, reduceCtorEq, Int.reduceEq, Int.reduceLT, Int.reduceLE, Int.reduceNeg, Int.reduceAdd, Int.reduceSub, Int.reduceToNat, DDM.cells, CDM.cells, h.hd, h.gcm, q1, q2, q3, q4, q5, q6, hf2, findVal])
    generalize ht0 : Store.push _ _ = t0
    have k0 : Kp σ t0 := by rw [← ht0]; exact (((Kp.refl σ).push _).push _).push _ |>.push _
    have n0 : t0.next = σ.next + 4 := by rw [← ht0]; simp [Store.push_next]
    have e0 : t0.get σ.next = some (.cells 65 0 5 [d.cells]) := by rw [← ht0]; simp [Store.push_get, Store.push_next, DDM.cells, self_ne2, self_ne3, self_ne4]
    have e1 : t0.get (σ.next + 1) = some (.cells 105 0 4 [c.cells]) := by rw [← ht0]; simp [Store.push_get, Store.push_next, CDM.cells, self_ne2, self_ne3, self_ne4]
    have e3 : t0.get (σ.next + 1 + 1 + 1) = some (.cells 78 0 5 [[.str c.name, .str d.name, .int .i64 tag, .int .i64 d.params.length, .nils]]) := by rw [← ht0]; simp [Store.push_get, Store.push_next]
    have kb : ∀ j, j < σ.next + 3 → t0.get j = t0.get j := fun _ _ => rfl
    clear ht0
    -- the store ahead of the constructor's variable
    have hM : conM T d tag c = match fieldsL T.ps d.params c.fields with | (l, 0) => ({ T with cs := T.cs ++ [⟨c.name, d.name, tag, d.params.length, l⟩] }, 0) | (_, e) => (T, e) := by rw [conM, hf1]; simp
    refine AWP_while [0, 5, 11, 37, 38, 39] (fun y : AV × Nat => c.fields.length - y.2) (fun y => [.ptr tid 0 0 0, .ptr σ.next 0 0 0, .ptr (σ.next + 1 + 1 + 1) 0 0 0, .list (c.fields.map Ty.cells), .int .i64 c.fields.length, .int .i64 y.2])
      (fun y t => y.2 ≤ c.fields.length ∧ (∀ x, x ∈ c.fields.take y.2 → (fieldM T.ps d.params x).2 = 0) ∧ SliceAt t y.1 85 4 ((c.fields.take y.2).map fun x => (fieldM T.ps d.params x).1.cells) ∧ (∀ j, j ∈ slIds y.1 → σ.next + 4 ≤ j) ∧ (σ.next + 4 ≤ t.next ∧ ∀ j, j < σ.next + 3 → t.get j = t0.get j) ∧
        t.get (σ.next + 1 + 1 + 1) = some (.cells 78 0 5 [[.str c.name, .str d.name, .int .i64 tag, .int .i64 d.params.length, y.1]]))
      (.nils, 0) ⟨by simp, by simp, .nil _ _ _, by simp [slIds], ⟨by omega, fun _ _ => rfl⟩, e3⟩ ?_ ?_
    · try simp only [SS, argList, aPut, aFill, ↓reduceIte, Nat.reduceEqDiff, Nat.reduceAdd, Nat.reduceLeDiff, reduceCtorEq, Int.reduceEq, Int.reduceLT, Int.reduceLE, Int.reduceNeg, Int.reduceAdd, Int.reduceSub, Int.reduceToNat]
      repeat ((with_reducible first | refine AWP_seq ?_ | refine AWP_block ?_ | refine AWP_scope ?_ | refine AWP_reg ?_ | refine AWP_draw ?_ | refine AWP_skip ?_ | refine AWP_ret ?_ | refine AWP_exit ?_ | (refine AWP_cond_true ?_ ?_; · simp only [SS, argList, aPut, aFill, ↓reduceIte, Nat.reduceEqDiff, Nat.reduceAdd, Nat.reduceLeDiff, reduceCtorEq, Int.reduceEq, Int.reduceLT, Int.reduceLE, Int.reduceNeg, Int.reduceAdd, Int.reduceSub, Int.reduceToNat]) | (refine AWP_cond_false ?_ ?_; · simp only [SS, argList, aPut, aFill, ↓reduceIte, Nat.reduceEqDiff, Nat.reduceAdd, Nat.reduceLeDiff, reduceCtorEq, Int.reduceEq, Int.reduceLT, Int.reduceLE, Int.reduceNeg, Int.reduceAdd, Int.reduceSub, Int.reduceToNat])); try simp only [SS, argList, aPut, aFill, ↓reduceIte, Nat.reduceEqDiff, Nat.reduceAdd, Nat.reduceLeDiff, reduceCtorEq, Int.reduceEq, Int.reduceLT, Int.reduceLE, Int.reduceNeg, Int.reduceAdd, Int.reduceSub, Int.reduceToNat])
      rfl
    · rintro ⟨v, i⟩ t ⟨hi, hall, hS, hfr, ⟨hn, hk⟩, hb⟩
      simp only at hi hall hS hfr hb
      have f0 : t.get σ.next = some (.cells 65 0 5 [d.cells]) := by rw [hk _ (by omega)]; exact e0
      have kpt : Kp σ t := ⟨by omega, fun j hj => by rw [hk j (by omega), k0.keep j hj]⟩
      by_cases hil : i < c.fields.length
      · have hil' : (i : Int) < (c.fields.length : Int) := by omega
        obtain ⟨x, hx⟩ : ∃ x, c.fields[i]? = some x := ⟨_, List.getElem?_eq_getElem hil⟩
        have hg : (c.fields.map Ty.cells)[i]? = some x.cells := by simp [hx]
        have hxl := x.len
        have htake : List.take 4 x.cells = x.cells := List.take_of_length_le (by omega)
        have h44 : (4 ≤ x.cells.length) = True := by simp [hxl]
        have p0 : (σ.next = t.next) = False := by simp; omega
        have p1 : (σ.next + 1 + 1 + 1 = t.next) = False := by simp; omega
        have p2 : (σ.next + 1 + 1 + 1 = t.next + 1) = False := by simp; omega
        try simp only [SS, argList, aPut, aFill, ↓reduceIte, Nat.reduceEqDiff, Nat.reduceAdd, Nat.reduceLeDiff, reduceCtorEq, Int.reduceEq, Int.reduceLT, Int.reduceLE, Int.reduceNeg, Int.reduceAdd, Int.reduceSub, Int.reduceToNat, hil', hg, hxl, htake, h44, f0, p0, DDM.cells]
        repeat ((with_reducible first | refine AWP_seq ?_ | refine AWP_block ?_ | refine AWP_scope ?_ | refine AWP_reg ?_ | refine AWP_draw ?_ | refine AWP_skip ?_ | refine AWP_ret ?_ | refine AWP_exit ?_ | (refine AWP_cond_true ?_ ?_; · simp only [SS, argList, aPut, aFill, ↓reduceIte, Nat.reduceEqDiff, Nat.reduceAdd, Nat.reduceLeDiff, reduceCtorEq, Int.reduceEq, Int.reduceLT, Int.reduceLE, Int.reduceNeg, Int.reduceAdd, Int.reduceSub, Int.reduceToNat, hil', hg, hxl, htake, h44, f0, p0, DDM.cells]) | (refine AWP_cond_false ?_ ?_; · simp only [SS, argList, aPut, aFill, ↓reduceIte, Nat.reduceEqDiff, Nat.reduceAdd, Nat.reduceLeDiff, reduceCtorEq, Int.reduceEq, Int.reduceLT, Int.reduceLE, Int.reduceNeg, Int.reduceAdd, Int.reduceSub, Int.reduceToNat, hil', hg, hxl, htake, h44, f0, p0, DDM.cells])); try simp only [SS, argList, aPut, aFill, ↓reduceIte, Nat.reduceEqDiff, Nat.reduceAdd, Nat.reduceLeDiff, reduceCtorEq, Int.reduceEq, Int.reduceLT, Int.reduceLE, Int.reduceNeg, Int.reduceAdd, Int.reduceSub, Int.reduceToNat, hil', hg, hxl, htake, h44, f0, p0, DDM.cells])
        refine (field_ok hps hd x _ ((h.tp.kp kpt).kp (.pushed _ _))).mono ?_
        rintro r t2 ⟨rfl, rfl⟩
        have hkt := (Kp.pushed t (.cells 85 0 4 [x.cells])).push (.cells 85 0 4 [(fieldM T.ps d.params x).1.cells])
        have hzl := (fieldM T.ps d.params x).1.len
        have htake2 : List.take 4 (fieldM T.ps d.params x).1.cells = (fieldM T.ps d.params x).1.cells := List.take_of_length_le (by omega)
        have h442 : (4 ≤ (fieldM T.ps d.params x).1.cells.length) = True := by simp [hzl]
        by_cases hee : (fieldM T.ps d.params x).2 = 0
        · try simp only [SS, argList, aPut, aFill, ↓reduceIte, Nat.reduceEqDiff, Nat.reduceAdd, Nat.reduceLeDiff, reduceCtorEq, Int.reduceEq, Int.reduceLT, Int.reduceLE, Int.reduceNeg, Int.reduceAdd, Int.reduceSub, Int.reduceToNat, hzl, htake2, h442, hee, hb, p1, p2]
          repeat ((with_reducible first | refine AWP_seq ?_ | refine AWP_block ?_ | refine AWP_scope ?_ | refine AWP_reg ?_ | refine AWP_draw ?_ | refine AWP_skip ?_ | refine AWP_ret ?_ | refine AWP_exit ?_ | (refine AWP_cond_true ?_ ?_; · simp only [SS, argList, aPut, aFill, ↓reduceIte, Nat.reduceEqDiff, Nat.reduceAdd, Nat.reduceLeDiff, reduceCtorEq, Int.reduceEq, Int.reduceLT, Int.reduceLE, Int.reduceNeg, Int.reduceAdd, Int.reduceSub, Int.reduceToNat, hzl, htake2, h442, hee, hb, p1, p2]) | (refine AWP_cond_false ?_ ?_; · simp only [SS, argList, aPut, aFill, ↓reduceIte, Nat.reduceEqDiff, Nat.reduceAdd, Nat.reduceLeDiff, reduceCtorEq, Int.reduceEq, Int.reduceLT, Int.reduceLE, Int.reduceNeg, Int.reduceAdd, Int.reduceSub, Int.reduceToNat, hzl, htake2, h442, hee, hb, p1, p2])); try simp only [SS, argList, aPut, aFill, ↓reduceIte, Nat.reduceEqDiff, Nat.reduceAdd, Nat.reduceLeDiff, reduceCtorEq, Int.reduceEq, Int.reduceLT, Int.reduceLE, Int.reduceNeg, Int.reduceAdd, Int.reduceSub, Int.reduceToNat, hzl, htake2, h442, hee, hb, p1, p2])
          refine ok_app (hS.keep fun j hj => hkt.keep j (hS.lt hj)) (by simp [hzl]) (by simp; omega) (by simp [maxLen]; omega) ?_
          intro v' t3 hS3 hF3
          have hbt : σ.next + 1 + 1 + 1 < t.next := t.lt hb
          have hnb : ¬ (σ.next + 1 + 1 + 1) ∈ slIds v := fun hm => by have := hfr _ hm; omega
          have hb3 : t3.get (σ.next + 1 + 1 + 1) = some (.cells 78 0 5 [[.str c.name, .str d.name, .int .i64 tag, .int .i64 d.params.length, v]]) := by rw [hF3.keep _ (by simp only [Store.push_next]; omega) hnb]; exact hkt.get hb
          have m3 := t3.lt hb3
          have hfr3 : ∀ j, j ∈ slIds v' → σ.next + 4 ≤ j := fun j hj => by
            rcases hF3.fresh j hj with hh | hh
            · exact hfr j hh
            · simp only [Store.push_next] at hh; omega
          have n3 := hF3.next
          simp only [Store.push_next] at n3
          try simp only [SS, argList, aPut, aFill, ↓reduceIte, Nat.reduceEqDiff, Nat.reduceAdd, Nat.reduceLeDiff, reduceCtorEq, Int.reduceEq, Int.reduceLT, Int.reduceLE, Int.reduceNeg, Int.reduceAdd, Int.reduceSub, Int.reduceToNat, hb3, hS3.co, wrap_succ (i := i) (by omega)]
          repeat ((with_reducible first | refine AWP_seq ?_ | refine AWP_block ?_ | refine AWP_scope ?_ | refine AWP_reg ?_ | refine AWP_draw ?_ | refine AWP_skip ?_ | refine AWP_ret ?_ | refine AWP_exit ?_ | (refine AWP_cond_true ?_ ?_; · simp only [SS, argList, aPut, aFill, ↓reduceIte, Nat.reduceEqDiff, Nat.reduceAdd, Nat.reduceLeDiff, reduceCtorEq, Int.reduceEq, Int.reduceLT, Int.reduceLE, Int.reduceNeg, Int.reduceAdd, Int.reduceSub, Int.reduceToNat, hb3, hS3.co, wrap_succ (i := i) (by omega)]) | (refine AWP_cond_false ?_ ?_; · simp only [SS, argList, aPut, aFill, ↓reduceIte, Nat.reduceEqDiff, Nat.reduceAdd, Nat.reduceLeDiff, reduceCtorEq, Int.reduceEq, Int.reduceLT, Int.reduceLE, Int.reduceNeg, Int.reduceAdd, Int.reduceSub, Int.reduceToNat, hb3, hS3.co, wrap_succ (i := i) (by omega)])); try simp only [SS, argList, aPut, aFill, ↓reduceIte, Nat.reduceEqDiff, Nat.reduceAdd, Nat.reduceLeDiff, reduceCtorEq, Int.reduceEq, Int.reduceLT, Int.reduceLE, Int.reduceNeg, Int.reduceAdd, Int.reduceSub, Int.reduceToNat, hb3, hS3.co, wrap_succ (i := i) (by omega)])
          refine ⟨(v', i + 1), rfl, ⟨by simp only; omega, fun z hz => ?_, ?_, hfr3, ⟨by first | omega | (simp only [Store.upd_next]; omega), fun j hj => ?_⟩, Store.get_upd_self _ _ m3⟩, by simp only; omega⟩
          · simp only [List.take_add_one, hx] at hz
            simp at hz
            rcases hz with hz | rfl
            · exact hall z hz
            · exact hee
          · have : (c.fields.take (i + 1)).map (fun x => (fieldM T.ps d.params x).1.cells) = (c.fields.take i).map (fun x => (fieldM T.ps d.params x).1.cells) ++ [(fieldM T.ps d.params x).1.cells] := by rw [List.take_add_one, hx]; simp
            simp only [this]
            exact hS3.keep fun j hj => Store.get_upd_ne _ _ (by have := hfr3 j hj; omega)
          · rw [Store.get_upd_ne _ _ (by omega), hF3.keep j (by simp only [Store.push_next]; omega) (fun hm => by have := hfr j hm; omega), hkt.keep j (by omega), hk j hj]
        · try simp only [SS, argList, aPut, aFill, ↓reduceIte, Nat.reduceEqDiff, Nat.reduceAdd, Nat.reduceLeDiff, reduceCtorEq, Int.reduceEq, Int.reduceLT, Int.reduceLE, Int.reduceNeg, Int.reduceAdd, Int.reduceSub, Int.reduceToNat, hzl, htake2, h442, hee]
          repeat ((with_reducible first | refine AWP_seq ?_ | refine AWP_block ?_ | refine AWP_scope ?_ | refine AWP_reg ?_ | refine AWP_draw ?_ | refine AWP_skip ?_ | refine AWP_ret ?_ | refine AWP_exit ?_ | (refine AWP_cond_true ?_ ?_; · simp only [SS, argList, aPut, aFill, ↓reduceIte, Nat.reduceEqDiff, Nat.reduceAdd, Nat.reduceLeDiff, reduceCtorEq, Int.reduceEq, Int.reduceLT, Int.reduceLE, Int.reduceNeg, Int.reduceAdd, Int.reduceSub, Int.reduceToNat, hzl, htake2, h442, hee]) | (refine AWP_cond_false ?_ ?_; · simp only [SS, argList, aPut, aFill, ↓reduceIte, Nat.reduceEqDiff, Nat.reduceAdd, Nat.reduceLeDiff, reduceCtorEq, Int.reduceEq, Int.reduceLT, Int.reduceLE, Int.reduceNeg, Int.reduceAdd, Int.reduceSub, Int.reduceToNat, hzl, htake2, h442, hee])); try simp only [SS, argList, aPut, aFill, ↓reduceIte, Nat.reduceEqDiff, Nat.reduceAdd, Nat.reduceLeDiff, reduceCtorEq, Int.reduceEq, Int.reduceLT, Int.reduceLE, Int.reduceNeg, Int.reduceAdd, Int.reduceSub, Int.reduceToNat, hzl, htake2, h442, hee])
          have hsp : c.fields = c.fields.take i ++ x :: c.fields.drop (i + 1) := by
            have := List.take_append_drop i c.fields
            rw [List.drop_eq_getElem_cons hil] at this
            have e : c.fields[i] = x := by rw [List.getElem?_eq_getElem hil] at hx; exact Option.some.inj hx
            rw [e] at this; exact this.symm
          have hM2 : conM T d tag c = (T, (fieldM T.ps d.params x).2) := by
            rw [hM, hsp, fieldsL_stop _ _ _ hall hee]
            split
            · rename_i l h1; simp only [Prod.mk.injEq] at h1; exact absurd h1.2 hee
            · rename_i h1; simp only [Prod.mk.injEq] at h1; rw [← h1.2]
          rw [hM2]
          exact ⟨rfl, TblTo.same h ((kpt.push _).push _)⟩
      · have hil' : ¬ (i : Int) < (c.fields.length : Int) := by omega
        rw [List.take_of_length_le (by omega)] at hS hall
        have hM' : conM T d tag c = ({ T with cs := T.cs ++ [⟨c.name, d.name, tag, d.params.length, c.fields.map fun x => (fieldM T.ps d.params x).1⟩] }, 0) := by rw [hM, fieldsL_split _ hall]; first | rfl | simp
        have hnb : ¬ (σ.next + 1 + 1 + 1) ∈ slIds v := fun hm => by have := hfr _ hm; omega
        try simp only [SS, argList, aPut, aFill, ↓reduceIte, Nat.reduceEqDiff, Nat.reduceAdd, Nat.reduceLeDiff, reduceCtorEq, Int.reduceEq, Int.reduceLT, Int.reduceLE, Int.reduceNeg, Int.reduceAdd, Int.reduceSub, Int.reduceToNat, hil']
        iterate 5 ((with_reducible first | refine AWP_seq ?_ | refine AWP_block ?_ | refine AWP_scope ?_ | refine AWP_reg ?_ | refine AWP_draw ?_ | refine AWP_skip ?_ | refine AWP_ret ?_ | refine AWP_exit ?_ | (refine AWP_cond_true ?_ ?_; · simp only [SS, argList, aPut, aFill, ↓reduceIte, Nat.reduceEqDiff, Nat.reduceAdd, Nat.reduceLeDiff, reduceCtorEq, Int.reduceEq, Int.reduceLT, Int.reduceLE, Int.reduceNeg, Int.reduceAdd, Int.reduceSub, Int.reduceToNat, hil']) | (refine AWP_cond_false ?_ ?_; · simp only [SS, argList, aPut, aFill, ↓reduceIte, Nat.reduceEqDiff, Nat.reduceAdd, Nat.reduceLeDiff, reduceCtorEq, Int.reduceEq, Int.reduceLT, Int.reduceLE, Int.reduceNeg, Int.reduceAdd, Int.reduceSub, Int.reduceToNat, hil'])); try simp only [SS, argList, aPut, aFill, ↓reduceIte, Nat.reduceEqDiff, Nat.reduceAdd, Nat.reduceLeDiff, reduceCtorEq, Int.reduceEq, Int.reduceLT, Int.reduceLE, Int.reduceNeg, Int.reduceAdd, Int.reduceSub, Int.reduceToNat, hil'])
        refine AWP_frozeO hS hb hnb (.cons (.cons (.refl _) (.cons (.refl _) (.cons (.refl _) (.cons (.refl _) (.cons .here .nil))))) .nil) ?_
        intro s2 hn2 hb2 hk2
        have kp2 : Kp σ s2 := ⟨by omega, fun j hj => by rw [hk2 j (fun hm => by have := hfr j hm; omega) (by omega), kpt.keep j hj]⟩
        try simp only [SS, argList, aPut, aFill, ↓reduceIte, Nat.reduceEqDiff, Nat.reduceAdd, Nat.reduceLeDiff, reduceCtorEq, Int.reduceEq, Int.reduceLT, Int.reduceLE, Int.reduceNeg, Int.reduceAdd, Int.reduceSub, Int.reduceToNat, hb2]
        repeat ((with_reducible first | refine AWP_seq ?_ | refine AWP_block ?_ | refine AWP_scope ?_ | refine AWP_reg ?_ | refine AWP_draw ?_ | refine AWP_skip ?_ | refine AWP_ret ?_ | refine AWP_exit ?_ | (refine AWP_cond_true ?_ ?_; · simp only [SS, argList, aPut, aFill, ↓reduceIte, Nat.reduceEqDiff, Nat.reduceAdd, Nat.reduceLeDiff, reduceCtorEq, Int.reduceEq, Int.reduceLT, Int.reduceLE, Int.reduceNeg, Int.reduceAdd, Int.reduceSub, Int.reduceToNat, hb2]) | (refine AWP_cond_false ?_ ?_; · simp only [SS, argList, aPut, aFill, ↓reduceIte, Nat.reduceEqDiff, Nat.reduceAdd, Nat.reduceLeDiff, reduceCtorEq, Int.reduceEq, Int.reduceLT, Int.reduceLE, Int.reduceNeg, Int.reduceAdd, Int.reduceSub, Int.reduceToNat, hb2])); try simp only [SS, argList, aPut, aFill, ↓reduceIte, Nat.reduceEqDiff, Nat.reduceAdd, Nat.reduceLeDiff, reduceCtorEq, Int.reduceEq, Int.reduceLT, Int.reduceLE, Int.reduceNeg, Int.reduceAdd, Int.reduceSub, Int.reduceToNat, hb2])
        refine (put_ok (h.kp kp2) hl ⟨c.name, d.name, tag, d.params.length, c.fields.map fun x => (fieldM T.ps d.params x).1⟩ (fv := .list (c.fields.map fun x => (fieldM T.ps d.params x).1.cells)) (.inl (by rw [List.map_map]; rfl)) hf1).mono ?_
        rintro r s3 ⟨rfl, hT⟩
        try simp only [SS, argList, aPut, aFill, ↓reduceIte, Nat.reduceEqDiff, Nat.reduceAdd, Nat.reduceLeDiff, reduceCtorEq, Int.reduceEq, Int.reduceLT, Int.reduceLE, Int.reduceNeg, Int.reduceAdd, Int.reduceSub, Int.reduceToNat]
        repeat ((with_reducible first | refine AWP_seq ?_ | refine AWP_block ?_ | refine AWP_scope ?_ | refine AWP_reg ?_ | refine AWP_draw ?_ | refine AWP_skip ?_ | refine AWP_ret ?_ | refine AWP_exit ?_ | (refine AWP_cond_true ?_ ?_; · simp only [SS, argList, aPut, aFill, ↓reduceIte, Nat.reduceEqDiff, Nat.reduceAdd, Nat.reduceLeDiff, reduceCtorEq, Int.reduceEq, Int.reduceLT, Int.reduceLE, Int.reduceNeg, Int.reduceAdd, Int.reduceSub, Int.reduceToNat]) | (refine AWP_cond_false ?_ ?_; · simp only [SS, argList, aPut, aFill, ↓reduceIte, Nat.reduceEqDiff, Nat.reduceAdd, Nat.reduceLeDiff, reduceCtorEq, Int.reduceEq, Int.reduceLT, Int.reduceLE, Int.reduceNeg, Int.reduceAdd, Int.reduceSub, Int.reduceToNat])); try simp only [SS, argList, aPut, aFill, ↓reduceIte, Nat.reduceEqDiff, Nat.reduceAdd, Nat.reduceLeDiff, reduceCtorEq, Int.reduceEq, Int.reduceLT, Int.reduceLE, Int.reduceNeg, Int.reduceAdd, Int.reduceSub, Int.reduceToNat])
        rw [hM']
        exact ⟨rfl, hT.base kp2.next kp2.keep⟩
  · have hM : conM T d tag c = (T, 80) := by rw [conM, hf1]; simp
    have hco := hfv'.co
    try simp only [SS, argList, aPut, aFill, ↓reduceIte, Nat.reduceEqDiff, Nat.reduceAdd, Nat.reduceLeDiff, reduceCtorEq, Int.reduceEq, Int.reduceLT, Int.reduceLE, Int.reduceNeg, Int.reduceAdd, Int.reduceSub, Int.reduceToNat, DDM.cells, CDM.cells, h.hd, h.gcm, q1, q2, q3, q4, q5, q6, hf2, findVal, CON.cellsV, hco]
    repeat ((with_reducible first | refine AWP_seq ?_ | refine AWP_block ?_ | refine AWP_scope ?_ | refine AWP_reg ?_ | refine AWP_draw ?_ | refine AWP_skip ?_ | refine AWP_ret ?_ | refine AWP_exit ?_ | (refine AWP_cond_true ?_ ?_; · simp only [SS, argList, aPut, aFill, ↓reduceIte, Nat.reduceEqDiff, Nat.reduceAdd, Nat.reduceLeDiff, reduceCtorEq, Int.reduceEq, Int.reduceLT, Int.reduceLE, Int.reduceNeg, Int.reduceAdd, Int.reduceSub, Int.reduceToNat, DDM.cells, CDM.cells, h.hd, h.gcm, q1, q2, q3, q4, q5, q6, hf2, findVal, CON.cellsV, hco]) | (refine AWP_cond_false ?_ ?_; · simp only [SS, argList, aPut, aFill, ↓reduceIte, Nat.reduceEqDiff, Nat.reduceAdd, Nat.reduceLeDiff, reduceCtorEq, Int.reduceEq, Int.reduceLT, Int.reduceLE, Int.reduceNeg, Int.reduceAdd, Int.reduceSub, Int.reduceToNat, DDM.cells, CDM.cells, h.hd, h.gcm, q1, q2, q3, q4, q5, q6, hf2, findVal, CON.cellsV, hco])); try simp only [SS, argList, aPut, aFill, ↓reduceIte, Nat.reduceEqDiff, Nat.reduceAdd, Nat.reduceLeDiff, reduceCtorEq, Int.reduceEq, Int.reduceLT, Int.reduceLE, Int.reduceNeg, Int.reduceAdd, Int.reduceSub, Int.reduceToNat, DDM.cells, CDM.cells, h.hd, h.gcm, q1, q2, q3, q4, q5, q6, hf2, findVal, CON.cellsV, hco])
    rw [hM]
    exact ⟨rfl, TblTo.same h ((((Kp.refl σ).push _).push _).push _)⟩
end Go.Proofs.Ytoejjhehpbmgbaa
