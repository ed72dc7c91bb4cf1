/- HeapPlays answers true. -/
import Derived.Test.YtoejjhehpbmgbaaAHz
set_option linter.unusedVariables false
set_option linter.unusedSimpArgs false
namespace Go.AL
theorem HR.start (cap : Int) : HR (Hp.mk0 cap) ⟨cap, [], 0⟩ := ⟨rfl, fun a => by rw [mk0_at]; rfl, by simp, rfl⟩
theorem HR.alloc {H : Hp} {h : RH} (k : HR H h) (hG : H.Good) (x : Nd) {h' : RH} {a e : Int} (hr : RAlloc h x h' a e) : (H.alloc x).2 = (a, e) ∧ HR (H.alloc x).1 h' := by
  unfold RAlloc at hr
  rw [k.all] at hr
  by_cases hal : H.all x.l = true
  · rw [if_pos hal] at hr
    have hlv := k.live hG
    by_cases hl : H.live < H.cap
    · rw [if_neg (by rw [k.cap]; omega)] at hr
      obtain ⟨rfl, h0, hi, hs, rfl⟩ := hr
      obtain ⟨a', e1, e2, e3, e4, e5, e6, e7, e8⟩ := alloc_spec hG x hal hl
      have hia : H.has a = false := by rw [← k.has, hi]; rfl
      have haa : a = a' := least_unique h0 e2 hia e3 (fun c h1 h2 => by rw [← k.has]; exact hs c h1 h2) e4
      subst haa
      refine ⟨e1, by rw [e7]; exact k.cap, fun b => ?_, ?_, by rw [e8, k.allocs]⟩
      · rw [e5]
        show ((h.l ++ [(a, x)]).find? fun c => c.1 == b).map (·.2) = _
        rw [find_app]
        · have := k.at_ b
          unfold RH.at at this
          rw [this]
        · intro hh
          have := idx_none hi
          unfold RH.at at this
          simp at this
          simp [List.find?_isSome] at hh
          obtain ⟨b', hb'⟩ := hh
          exact this _ _ hb' rfl
      · simp only [List.map_append, List.map_cons, List.map_nil, List.nodup_append]
        refine ⟨k.nodup, by simp, fun c hc d hd e => ?_⟩
        simp at hd; subst hd; subst e
        rw [RH.mem_addrs, idx_none hi] at hc
        cases hc
    · rw [if_pos (by rw [k.cap]; omega)] at hr
      obtain ⟨rfl, rfl, rfl⟩ := hr
      rw [alloc_full x hal (by omega)]
      exact ⟨rfl, k⟩
  · rw [if_neg hal] at hr
    obtain ⟨rfl, rfl, rfl⟩ := hr
    rw [alloc_bad x (by simpa using hal)]
    exact ⟨rfl, k⟩
theorem HR.set {H : Hp} {h : RH} (k : HR H h) (a : Int) (x : Nd) : (H.set a x).2 = (h.set a x).2 ∧ HR (H.set a x).1 (h.set a x).1 := by
  have hh := k.has a
  unfold RH.set Hp.set
  cases hi : h.idx a with
  | none =>
    rw [hi] at hh
    have : H.has a = false := hh.symm
    simp [this, k]
  | some i =>
    rw [hi] at hh
    have hha : H.has a = true := hh.symm
    rw [k.all]
    by_cases hal : H.all x.l = true
    · simp only [hha, hal, and_self, if_true]
      obtain ⟨h0, y, m, hc⟩ := has_iff.mp hha
      refine ⟨trivial, k.cap, fun b => ?_, ?_, k.allocs⟩
      · rw [at_set (H := H) (List.getElem?_eq_some_iff.mp hc).1 x rfl b]
        show ((h.l.set i (a, x)).find? fun c => c.1 == b).map (·.2) = _
        rw [find_set _ _ _ _ hi]
        have e1 : ((a.toNat : Nat) : Int) = a := by omega
        rw [e1]
        have := k.at_ b
        unfold RH.at at this
        rw [this]
      · have : (h.l.set i (a, x)).map (·.1) = h.l.map (·.1) := by
          obtain ⟨z, hz, _⟩ := idx_some hi
          rw [List.map_set]
          apply List.ext_getElem?
          intro j
          rw [List.getElem?_set]
          by_cases hij : i = j
          · subst hij
            have := (List.getElem?_eq_some_iff.mp hz).1
            simp [this, hz]
            have e := List.getElem?_eq_getElem this
            rw [hz] at e
            have := Option.some.inj e
            rw [← this]
          · simp [hij]
        show ((h.l.set i (a, x)).map (·.1)).Nodup
        rw [this]; exact k.nodup
    · simp [hha, hal, k]
theorem find_filter (l : List (Int × Nd)) (p : Int → Bool) (b : Int) : ((l.filter fun c => p c.1).find? fun c => c.1 == b).map (·.2) = if p b = true then (l.find? fun c => c.1 == b).map (·.2) else none := by
  induction l with
  | nil => simp
  | cons c l ih =>
    rw [List.filter_cons]
    by_cases hc : c.1 = b
    · subst hc
      by_cases hp : p c.1 = true
      · simp [hp]
      · rw [if_neg hp, ih, if_neg hp, if_neg hp]
    · have h1 : (c.1 == b) = false := by simpa using hc
      split
      · rw [List.find?_cons, h1, List.find?_cons, h1]; exact ih
      · rw [ih, List.find?_cons, h1]
theorem HR.sweep {H : Hp} {h : RH} (k : HR H h) (hG : H.Good) {roots : List Int} (hr : H.all roots = true) {C : List Cl} (hM : MI H.cells roots C []) {o : List Int} (ho : ∀ a, a ∈ o ↔ Reach H.cells roots a) :
    HR (H.sweep C) { h with l := h.l.filter fun c => decide (c.1 ∈ o) } := by
  obtain ⟨hG1, hat, hn, hcap, hal⟩ := collect_spec hG hr hM
  refine ⟨by rw [hcap]; exact k.cap, fun b => ?_, ?_, by rw [hal]; exact k.allocs⟩
  · show ((h.l.filter fun c => decide (c.1 ∈ o)).find? fun c => c.1 == b).map (·.2) = _
    rw [find_filter h.l (fun a => decide (a ∈ o)) b]
    have := k.at_ b
    unfold RH.at at this
    by_cases hb : b ∈ o
    · simp only [hb, decide_true, if_true]
      rw [this, ((hat b).1 ((ho b).1 hb)).1]
    · simp only [hb, decide_false, Bool.false_eq_true, if_false]
      rw [(hat b).2 (fun h => hb ((ho b).2 h))]
  · exact k.nodup.sublist (List.Sublist.map _ List.filter_sublist)
theorem Kp.fr {σ s : Store} (h : Kp σ s) (l : List Nat) : Fr σ s l l := ⟨h.next, fun i hi _ => h.keep i hi, fun i hi => .inl hi⟩
theorem Fr.kp {σ s s' : Store} {a b : List Nat} (h : Fr σ s a b) (k : Kp s s') : Fr σ s' a b := ⟨Nat.le_trans h.next k.next, fun i hi hn => by rw [k.keep i (Nat.lt_of_lt_of_le hi h.next), h.keep i hi hn], h.fresh⟩
theorem HeapAt.kp {σ s : Store} {id : Nat} {cs fs : AV} {H : Hp} (h : HeapAt σ id cs fs H) (k : Kp σ s) : HeapAt s id cs fs H := h.grow k.keep
theorem HeapTo.kp {σ s s' : Store} {id : Nat} {old : List Nat} {H : Hp} (h : HeapTo σ id old H s) (k : Kp s s') : HeapTo σ id old H s' := by
  obtain ⟨cs, fs, h1, h2⟩ := h
  exact ⟨cs, fs, h1.kp k, h2.kp k⟩
theorem HeapTo.fin {σ s0 s1 s' : Store} {id : Nat} {old : List Nat} {H : Hp} (k0 : Kp σ s0) (hT : HeapTo s0 id old H s1) (hold : ∀ i, i ∈ old → i < σ.next) (hn : s1.next ≤ s'.next)
    (hs : ∀ i, i < s1.next → (i < σ.next ∨ s0.next ≤ i) → s'.get i = s1.get i) : HeapTo σ id old H s' := by
  obtain ⟨cs, fs, h1, h2⟩ := hT
  have hf : ∀ i, i ∈ foot id cs fs → i < σ.next ∨ s0.next ≤ i := fun i hi => (h2.fresh i hi).elim (fun h => .inl (hold i h)) .inr
  refine ⟨cs, fs, h1.keep fun i hi => hs i (h1.lt hi) (hf i hi), ⟨Nat.le_trans k0.next (Nat.le_trans h2.next hn), fun i hi hno => ?_, fun i hi => ?_⟩⟩
  · rw [hs i (Nat.lt_of_lt_of_le hi (Nat.le_trans k0.next h2.next)) (.inl hi), h2.keep i (Nat.lt_of_lt_of_le hi k0.next) hno, k0.keep i hi]
  · exact (h2.fresh i hi).elim .inl fun h => .inr (Nat.le_trans k0.next h)
/-- What was before all that a step changes is as it was, and new. -/
theorem HeapTo.after {σ0 σ s : Store} {id : Nat} {old : List Nat} {H : Hp} (k : Kp σ0 σ) (h : HeapTo σ id old H s) : HeapTo σ0 id old H s := by
  obtain ⟨cs, fs, h1, h2⟩ := h
  exact ⟨cs, fs, h1, ⟨Nat.le_trans k.next h2.next, fun i hi hn => by rw [h2.keep i (Nat.lt_of_lt_of_le hi k.next) hn, k.keep i hi], fun i hi => (h2.fresh i hi).elim .inl fun h => .inr (Nat.le_trans k.next h)⟩⟩
/-- What the law's variable holds of the document's heap. -/
def RH.In (h : RH) (lv : AV) : Prop := lv = .list (h.l.map RC.cells) ∨ (lv = .nils ∧ h.l = [])
theorem RH.In.len {h : RH} {lv : AV} (k : h.In lv) (s : Store) : eLen .slice lv s = some (.int .i64 h.l.length, s) := by
  rcases k with rfl | ⟨rfl, e⟩
  · simp [eLen_list]
  · rw [e]; rfl
theorem RH.In.co {h : RH} {lv : AV} (k : h.In lv) : lv.cellsOf = some [lv] := by rcases k with rfl | ⟨rfl, e⟩ <;> rfl
theorem RH.In.le {h : RH} {lv : AV} (k : h.In lv) : Le (.agg [.int .i64 h.cap, lv, .int .i64 h.allocs]) h.av := by
  rcases k with rfl | ⟨rfl, e⟩
  · exact .refl _
  · unfold RH.av RH.cs
    rw [e]
    exact Le.aggL (.cons (.refl _) (.cons Le.nil (.cons (.refl _) .nil)))
end Go.AL
namespace Go.Proofs.Ytoejjhehpbmgbaa
open Go.AL
theorem lsame_ok {id : Nat} {σ : Store} {cs fs : AV} {H : Hp} (hH : HeapAt σ id cs fs H) (hc : 0 < H.cap) (h : RH) (hl : h.l.length ≤ 1000000) (a : Int) (hb : ∀ x, H.at a = some x → x.l.length * 8 ≤ 140737488355328) (hat : h.at a = H.at a) :
    ACalls Try.prog 24 [.ptr id 0 0 0, h.av, .int .i64 a] σ fun r σ' => r = .bool true ∧ σ' = σ := by
  refine ACalls_pure (K := fun r => r = .bool true) ?_
  refine in24 (by simp) ?_
  unfold c24
  try simp only [SS, argList, aPut, aFill, ↓reduceIte, Nat.reduceEqDiff, Nat.reduceAdd, Nat.reduceLeDiff, reduceCtorEq, Int.reduceEq, Int.reduceLT, Int.reduceLE, Int.reduceNeg, Int.reduceAdd, Int.reduceSub, Int.reduceToNat, RH.av, RH.cs]
  repeat ((with_reducible first | refine AWP_seq ?_ | refine AWP_block ?_ | refine AWP_scope ?_ | refine AWP_reg ?_ | refine AWP_draw ?_ | refine AWP_skip ?_ | refine AWP_ret ?_ | refine AWP_exit ?_ | (refine AWP_cond_true ?_ ?_; · simp only [SS, argList, aPut, aFill, ↓reduceIte, Nat.reduceEqDiff, Nat.reduceAdd, Nat.reduceLeDiff, reduceCtorEq, Int.reduceEq, Int.reduceLT, Int.reduceLE, Int.reduceNeg, Int.reduceAdd, Int.reduceSub, Int.reduceToNat, RH.av, RH.cs]) | (refine AWP_cond_false ?_ ?_; · simp only [SS, argList, aPut, aFill, ↓reduceIte, Nat.reduceEqDiff, Nat.reduceAdd, Nat.reduceLeDiff, reduceCtorEq, Int.reduceEq, Int.reduceLT, Int.reduceLE, Int.reduceNeg, Int.reduceAdd, Int.reduceSub, Int.reduceToNat, RH.av, RH.cs])); try simp only [SS, argList, aPut, aFill, ↓reduceIte, Nat.reduceEqDiff, Nat.reduceAdd, Nat.reduceLeDiff, reduceCtorEq, Int.reduceEq, Int.reduceLT, Int.reduceLE, Int.reduceNeg, Int.reduceAdd, Int.reduceSub, Int.reduceToNat, RH.av, RH.cs])
  refine (get_ok (hH.push _) hc a hb).mono ?_
  rintro r s ⟨rfl, rfl⟩
  have fin : ∀ o o' o'' : AObj, (σ.next ≤ σ.next + 1 + 1 + 1) := fun _ _ _ => by omega
  cases hx : H.at a with
  | none =>
    simp only [getR]
    try simp only [SS, argList, aPut, aFill, ↓reduceIte, Nat.reduceEqDiff, Nat.reduceAdd, Nat.reduceLeDiff, reduceCtorEq, Int.reduceEq, Int.reduceLT, Int.reduceLE, Int.reduceNeg, Int.reduceAdd, Int.reduceSub, Int.reduceToNat, Nd.cells, Nd.zero]
    repeat ((with_reducible first | refine AWP_seq ?_ | refine AWP_block ?_ | refine AWP_scope ?_ | refine AWP_reg ?_ | refine AWP_draw ?_ | refine AWP_skip ?_ | refine AWP_ret ?_ | refine AWP_exit ?_ | (refine AWP_cond_true ?_ ?_; · simp only [SS, argList, aPut, aFill, ↓reduceIte, Nat.reduceEqDiff, Nat.reduceAdd, Nat.reduceLeDiff, reduceCtorEq, Int.reduceEq, Int.reduceLT, Int.reduceLE, Int.reduceNeg, Int.reduceAdd, Int.reduceSub, Int.reduceToNat, Nd.cells, Nd.zero]) | (refine AWP_cond_false ?_ ?_; · simp only [SS, argList, aPut, aFill, ↓reduceIte, Nat.reduceEqDiff, Nat.reduceAdd, Nat.reduceLeDiff, reduceCtorEq, Int.reduceEq, Int.reduceLT, Int.reduceLE, Int.reduceNeg, Int.reduceAdd, Int.reduceSub, Int.reduceToNat, Nd.cells, Nd.zero])); try simp only [SS, argList, aPut, aFill, ↓reduceIte, Nat.reduceEqDiff, Nat.reduceAdd, Nat.reduceLeDiff, reduceCtorEq, Int.reduceEq, Int.reduceLT, Int.reduceLE, Int.reduceNeg, Int.reduceAdd, Int.reduceSub, Int.reduceToNat, Nd.cells, Nd.zero])
    refine (rget_ok _ h hl a).mono ?_
    rintro r s ⟨rfl, rfl⟩
    rw [hat, hx]
    simp only [getR]
    try simp only [SS, argList, aPut, aFill, ↓reduceIte, Nat.reduceEqDiff, Nat.reduceAdd, Nat.reduceLeDiff, reduceCtorEq, Int.reduceEq, Int.reduceLT, Int.reduceLE, Int.reduceNeg, Int.reduceAdd, Int.reduceSub, Int.reduceToNat, Nd.cells, Nd.zero]
    repeat ((with_reducible first | refine AWP_seq ?_ | refine AWP_block ?_ | refine AWP_scope ?_ | refine AWP_reg ?_ | refine AWP_draw ?_ | refine AWP_skip ?_ | refine AWP_ret ?_ | refine AWP_exit ?_ | (refine AWP_cond_true ?_ ?_; · simp only [SS, argList, aPut, aFill, ↓reduceIte, Nat.reduceEqDiff, Nat.reduceAdd, Nat.reduceLeDiff, reduceCtorEq, Int.reduceEq, Int.reduceLT, Int.reduceLE, Int.reduceNeg, Int.reduceAdd, Int.reduceSub, Int.reduceToNat, Nd.cells, Nd.zero]) | (refine AWP_cond_false ?_ ?_; · simp only [SS, argList, aPut, aFill, ↓reduceIte, Nat.reduceEqDiff, Nat.reduceAdd, Nat.reduceLeDiff, reduceCtorEq, Int.reduceEq, Int.reduceLT, Int.reduceLE, Int.reduceNeg, Int.reduceAdd, Int.reduceSub, Int.reduceToNat, Nd.cells, Nd.zero])); try simp only [SS, argList, aPut, aFill, ↓reduceIte, Nat.reduceEqDiff, Nat.reduceAdd, Nat.reduceLeDiff, reduceCtorEq, Int.reduceEq, Int.reduceLT, Int.reduceLE, Int.reduceNeg, Int.reduceAdd, Int.reduceSub, Int.reduceToNat, Nd.cells, Nd.zero])
    refine (same_ok _ Nd.zero Nd.zero).mono ?_
    rintro r s ⟨rfl, rfl⟩
    try simp only [SS, argList, aPut, aFill, ↓reduceIte, Nat.reduceEqDiff, Nat.reduceAdd, Nat.reduceLeDiff, reduceCtorEq, Int.reduceEq, Int.reduceLT, Int.reduceLE, Int.reduceNeg, Int.reduceAdd, Int.reduceSub, Int.reduceToNat]
    repeat ((with_reducible first | refine AWP_seq ?_ | refine AWP_block ?_ | refine AWP_scope ?_ | refine AWP_reg ?_ | refine AWP_draw ?_ | refine AWP_skip ?_ | refine AWP_ret ?_ | refine AWP_exit ?_ | (refine AWP_cond_true ?_ ?_; · simp only [SS, argList, aPut, aFill, ↓reduceIte, Nat.reduceEqDiff, Nat.reduceAdd, Nat.reduceLeDiff, reduceCtorEq, Int.reduceEq, Int.reduceLT, Int.reduceLE, Int.reduceNeg, Int.reduceAdd, Int.reduceSub, Int.reduceToNat]) | (refine AWP_cond_false ?_ ?_; · simp only [SS, argList, aPut, aFill, ↓reduceIte, Nat.reduceEqDiff, Nat.reduceAdd, Nat.reduceLeDiff, reduceCtorEq, Int.reduceEq, Int.reduceLT, Int.reduceLE, Int.reduceNeg, Int.reduceAdd, Int.reduceSub, Int.reduceToNat])); try simp only [SS, argList, aPut, aFill, ↓reduceIte, Nat.reduceEqDiff, Nat.reduceAdd, Nat.reduceLeDiff, reduceCtorEq, Int.reduceEq, Int.reduceLT, Int.reduceLE, Int.reduceNeg, Int.reduceAdd, Int.reduceSub, Int.reduceToNat])
    exact ⟨.bool _, by omega, fun j hj => by rw [if_neg (by omega), if_neg (by omega), if_neg (by omega)]⟩
  | some x =>
    simp only [getR]
    try simp only [SS, argList, aPut, aFill, ↓reduceIte, Nat.reduceEqDiff, Nat.reduceAdd, Nat.reduceLeDiff, reduceCtorEq, Int.reduceEq, Int.reduceLT, Int.reduceLE, Int.reduceNeg, Int.reduceAdd, Int.reduceSub, Int.reduceToNat, Nd.cells]
    repeat ((with_reducible first | refine AWP_seq ?_ | refine AWP_block ?_ | refine AWP_scope ?_ | refine AWP_reg ?_ | refine AWP_draw ?_ | refine AWP_skip ?_ | refine AWP_ret ?_ | refine AWP_exit ?_ | (refine AWP_cond_true ?_ ?_; · simp only [SS, argList, aPut, aFill, ↓reduceIte, Nat.reduceEqDiff, Nat.reduceAdd, Nat.reduceLeDiff, reduceCtorEq, Int.reduceEq, Int.reduceLT, Int.reduceLE, Int.reduceNeg, Int.reduceAdd, Int.reduceSub, Int.reduceToNat, Nd.cells]) | (refine AWP_cond_false ?_ ?_; · simp only [SS, argList, aPut, aFill, ↓reduceIte, Nat.reduceEqDiff, Nat.reduceAdd, Nat.reduceLeDiff, reduceCtorEq, Int.reduceEq, Int.reduceLT, Int.reduceLE, Int.reduceNeg, Int.reduceAdd, Int.reduceSub, Int.reduceToNat, Nd.cells])); try simp only [SS, argList, aPut, aFill, ↓reduceIte, Nat.reduceEqDiff, Nat.reduceAdd, Nat.reduceLeDiff, reduceCtorEq, Int.reduceEq, Int.reduceLT, Int.reduceLE, Int.reduceNeg, Int.reduceAdd, Int.reduceSub, Int.reduceToNat, Nd.cells])
    refine (rget_ok _ h hl a).mono ?_
    rintro r s ⟨rfl, rfl⟩
    rw [hat, hx]
    simp only [getR]
    try simp only [SS, argList, aPut, aFill, ↓reduceIte, Nat.reduceEqDiff, Nat.reduceAdd, Nat.reduceLeDiff, reduceCtorEq, Int.reduceEq, Int.reduceLT, Int.reduceLE, Int.reduceNeg, Int.reduceAdd, Int.reduceSub, Int.reduceToNat, Nd.cells]
    repeat ((with_reducible first | refine AWP_seq ?_ | refine AWP_block ?_ | refine AWP_scope ?_ | refine AWP_reg ?_ | refine AWP_draw ?_ | refine AWP_skip ?_ | refine AWP_ret ?_ | refine AWP_exit ?_ | (refine AWP_cond_true ?_ ?_; · simp only [SS, argList, aPut, aFill, ↓reduceIte, Nat.reduceEqDiff, Nat.reduceAdd, Nat.reduceLeDiff, reduceCtorEq, Int.reduceEq, Int.reduceLT, Int.reduceLE, Int.reduceNeg, Int.reduceAdd, Int.reduceSub, Int.reduceToNat, Nd.cells]) | (refine AWP_cond_false ?_ ?_; · simp only [SS, argList, aPut, aFill, ↓reduceIte, Nat.reduceEqDiff, Nat.reduceAdd, Nat.reduceLeDiff, reduceCtorEq, Int.reduceEq, Int.reduceLT, Int.reduceLE, Int.reduceNeg, Int.reduceAdd, Int.reduceSub, Int.reduceToNat, Nd.cells])); try simp only [SS, argList, aPut, aFill, ↓reduceIte, Nat.reduceEqDiff, Nat.reduceAdd, Nat.reduceLeDiff, reduceCtorEq, Int.reduceEq, Int.reduceLT, Int.reduceLE, Int.reduceNeg, Int.reduceAdd, Int.reduceSub, Int.reduceToNat, Nd.cells])
    refine (same_ok _ x x).mono ?_
    rintro r s ⟨rfl, rfl⟩
    try simp only [SS, argList, aPut, aFill, ↓reduceIte, Nat.reduceEqDiff, Nat.reduceAdd, Nat.reduceLeDiff, reduceCtorEq, Int.reduceEq, Int.reduceLT, Int.reduceLE, Int.reduceNeg, Int.reduceAdd, Int.reduceSub, Int.reduceToNat]
    repeat ((with_reducible first | refine AWP_seq ?_ | refine AWP_block ?_ | refine AWP_scope ?_ | refine AWP_reg ?_ | refine AWP_draw ?_ | refine AWP_skip ?_ | refine AWP_ret ?_ | refine AWP_exit ?_ | (refine AWP_cond_true ?_ ?_; · simp only [SS, argList, aPut, aFill, ↓reduceIte, Nat.reduceEqDiff, Nat.reduceAdd, Nat.reduceLeDiff, reduceCtorEq, Int.reduceEq, Int.reduceLT, Int.reduceLE, Int.reduceNeg, Int.reduceAdd, Int.reduceSub, Int.reduceToNat]) | (refine AWP_cond_false ?_ ?_; · simp only [SS, argList, aPut, aFill, ↓reduceIte, Nat.reduceEqDiff, Nat.reduceAdd, Nat.reduceLeDiff, reduceCtorEq, Int.reduceEq, Int.reduceLT, Int.reduceLE, Int.reduceNeg, Int.reduceAdd, Int.reduceSub, Int.reduceToNat])); try simp only [SS, argList, aPut, aFill, ↓reduceIte, Nat.reduceEqDiff, Nat.reduceAdd, Nat.reduceLeDiff, reduceCtorEq, Int.reduceEq, Int.reduceLT, Int.reduceLE, Int.reduceNeg, Int.reduceAdd, Int.reduceSub, Int.reduceToNat])
    exact ⟨.bool _, by omega, fun j hj => by rw [if_neg (by omega), if_neg (by omega), if_neg (by omega)]⟩
theorem step_ok {id : Nat} {σ : Store} {cs fs : AV} {H : Hp} {cap : Int} {m : Nat} (hH : HeapAt σ id cs fs H) (hP : Played H cap m) (hm : m ≤ 399) {h : RH} (hR : HR H h) (o : OpM) (hos : o.n.l.length ≤ 20) :
    ACalls Try.prog 20 [.ptr id 0 0 0, h.av, .agg o.cells] σ fun r σ' => ∃ h' H', r = .tuple [h'.av, .bool true] ∧ HeapTo σ id (foot id cs fs) H' σ' ∧ HR H' h' ∧ Played H' cap (m + 1) := by
  have hG := hP.good
  have hcp : 0 < H.cap := by have := hG.cap; omega
  have hb8 : o.n.l.length * 8 ≤ 140737488355328 := by omega
  have hll : h.l.length ≤ 1000 := by
    have := hR.live hG
    have h1 := hG.live
    have h2 := hP.len
    have := List.countP_le_length (p := fun c : Cl => c.1.isSome) (l := H.cells)
    omega
  have e21 : ((2 : Int) = 1) = False := by decide
  have e31 : ((3 : Int) = 1) = False := by decide
  have e32 : ((3 : Int) = 2) = False := by decide
  have e41 : ((4 : Int) = 1) = False := by decide
  have e42 : ((4 : Int) = 2) = False := by decide
  have e43 : ((4 : Int) = 3) = False := by decide
  have k3 : ∀ o o' o'' : AObj, Kp σ (((σ.push o).push o').push o'') := fun o o' o'' => (((Kp.refl σ).push o).push o').push o''
  have hsz8 : ∀ {H : Hp} {m : Nat}, Played H cap m → ∀ a x, H.at a = some x → x.l.length * 8 ≤ 140737488355328 := fun hP a x hx => by have := hP.sizes a x hx; omega
  have cap8 : ∀ {H : Hp} {m : Nat}, Played H cap m → 0 < H.cap := fun hP => by have := hP.good.cap; omega
  have len8 : ∀ {H : Hp} {h : RH} {m : Nat}, Played H cap m → HR H h → m ≤ 400 → h.l.length ≤ 1000 := fun {H h m} hP hR hm => by
    have := hR.live hP.good
    have h1 := hP.good.live
    have h2 := hP.len
    have := List.countP_le_length (p := fun c : Cl => c.1.isSome) (l := H.cells)
    omega
  refine in20 (by simp) ?_
  unfold c20
  obtain ⟨ok, oa, ⟨ot, on, ol⟩⟩ := o
  simp only at hos hb8
  by_cases h1 : ok = 1
  · subst h1
    try simp only [SS, argList, aPut, aFill, ↓reduceIte, Nat.reduceEqDiff, Nat.reduceAdd, Nat.reduceLeDiff, reduceCtorEq, Int.reduceEq, Int.reduceLT, Int.reduceLE, Int.reduceNeg, Int.reduceAdd, Int.reduceSub, Int.reduceToNat, RH.av, RH.cs, OpM.cells]
    repeat ((with_reducible first | refine AWP_seq ?_ | refine AWP_block ?_ | refine AWP_scope ?_ | refine AWP_reg ?_ | refine AWP_draw ?_ | refine AWP_skip ?_ | refine AWP_ret ?_ | refine AWP_exit ?_ | (refine AWP_cond_true ?_ ?_; · simp only [SS, argList, aPut, aFill, ↓reduceIte, Nat.reduceEqDiff, Nat.reduceAdd, Nat.reduceLeDiff, reduceCtorEq, Int.reduceEq, Int.reduceLT, Int.reduceLE, Int.reduceNeg, Int.reduceAdd, Int.reduceSub, Int.reduceToNat, RH.av, RH.cs, OpM.cells]) | (refine AWP_cond_false ?_ ?_; · simp only [SS, argList, aPut, aFill, ↓reduceIte, Nat.reduceEqDiff, Nat.reduceAdd, Nat.reduceLeDiff, reduceCtorEq, Int.reduceEq, Int.reduceLT, Int.reduceLE, Int.reduceNeg, Int.reduceAdd, Int.reduceSub, Int.reduceToNat, RH.av, RH.cs, OpM.cells])); try simp only [SS, argList, aPut, aFill, ↓reduceIte, Nat.reduceEqDiff, Nat.reduceAdd, Nat.reduceLeDiff, reduceCtorEq, Int.reduceEq, Int.reduceLT, Int.reduceLE, Int.reduceNeg, Int.reduceAdd, Int.reduceSub, Int.reduceToNat, RH.av, RH.cs, OpM.cells])
    generalize hs0 : Store.push _ _ = s0
    have e0 : s0.get σ.next = some (.cells 43 0 3 [h.cs]) := by rw [← hs0]; simp [Store.push_get, Store.push_next, RH.cs]; try omega
    have e1 : s0.get (σ.next + 1) = some (.cells 47 0 5 [[.int .i64 1, .int .i64 oa, .int .i64 ot, .int .i64 on, ints ol]]) := by rw [← hs0]; simp [Store.push_get, Store.push_next]; try omega
    have e2 : s0.get (σ.next + 2) = some (.cells 43 0 3 [[.int .i64 0, .nils, .int .i64 0]]) := by rw [← hs0]; simp [Store.push_get, Store.push_next]
    have k0 : Kp σ s0 := by rw [← hs0]; exact k3 _ _ _
    have n0 : s0.next = σ.next + 3 := by rw [← hs0]; simp [Store.push_next]
    clear hs0
    have hft : ∀ i, i ∈ foot id cs fs → i < σ.next := fun i hi => hH.lt hi
    refine (alloc_ok (hH.kp k0) hG ⟨ot, on, ol⟩ hb8).mono ?_
    rintro r s1 ⟨rfl, hT⟩
    have hT' := hT
    obtain ⟨cs1, fs1, hH1, hF1⟩ := hT'
    have f0 : s1.get σ.next = some (.cells 43 0 3 [h.cs]) := by rw [hF1.keep _ (by omega) (fun hm => by have := hft _ hm; omega)]; exact e0
    have f1 : s1.get (σ.next + 1) = _ := (hF1.keep _ (by omega) (fun hm => by have := hft _ hm; omega)).trans e1
    have f2 : s1.get (σ.next + 2) = _ := (hF1.keep _ (by omega) (fun hm => by have := hft _ hm; omega)).trans e2
    try simp only [SS, argList, aPut, aFill, ↓reduceIte, Nat.reduceEqDiff, Nat.reduceAdd, Nat.reduceLeDiff, reduceCtorEq, Int.reduceEq, Int.reduceLT, Int.reduceLE, Int.reduceNeg, Int.reduceAdd, Int.reduceSub, Int.reduceToNat, f0, f1, RH.cs]
    repeat ((with_reducible first | refine AWP_seq ?_ | refine AWP_block ?_ | refine AWP_scope ?_ | refine AWP_reg ?_ | refine AWP_draw ?_ | refine AWP_skip ?_ | refine AWP_ret ?_ | refine AWP_exit ?_ | (refine AWP_cond_true ?_ ?_; · simp only [SS, argList, aPut, aFill, ↓reduceIte, Nat.reduceEqDiff, Nat.reduceAdd, Nat.reduceLeDiff, reduceCtorEq, Int.reduceEq, Int.reduceLT, Int.reduceLE, Int.reduceNeg, Int.reduceAdd, Int.reduceSub, Int.reduceToNat, f0, f1, RH.cs]) | (refine AWP_cond_false ?_ ?_; · simp only [SS, argList, aPut, aFill, ↓reduceIte, Nat.reduceEqDiff, Nat.reduceAdd, Nat.reduceLeDiff, reduceCtorEq, Int.reduceEq, Int.reduceLT, Int.reduceLE, Int.reduceNeg, Int.reduceAdd, Int.reduceSub, Int.reduceToNat, f0, f1, RH.cs])); try simp only [SS, argList, aPut, aFill, ↓reduceIte, Nat.reduceEqDiff, Nat.reduceAdd, Nat.reduceLeDiff, reduceCtorEq, Int.reduceEq, Int.reduceLT, Int.reduceLE, Int.reduceNeg, Int.reduceAdd, Int.reduceSub, Int.reduceToNat, f0, f1, RH.cs])
    refine (ralloc_ok s1 h hll ⟨ot, on, ol⟩).mono ?_
    rintro r s ⟨⟨h', a, e, rfl, hra⟩, rfl⟩
    obtain ⟨ea, hR'⟩ := hR.alloc hG ⟨ot, on, ol⟩ hra
    have hP' := hP.alloc ⟨ot, on, ol⟩ hos
    have ea1 : ((H.alloc ⟨ot, on, ol⟩).2.1 = a) = True := by rw [ea]; simp
    have ea2 : ((H.alloc ⟨ot, on, ol⟩).2.2 = e) = True := by rw [ea]; simp
    have l2 : σ.next + 1 + 1 < s.next := by have := hF1.next; omega
    have x0 : (σ.next = s.next) = False := by have := hF1.next; simp; omega
    have x2 : (σ.next + 1 + 1 = s.next) = False := by have := hF1.next; simp; omega
    try simp only [SS, argList, aPut, aFill, ↓reduceIte, Nat.reduceEqDiff, Nat.reduceAdd, Nat.reduceLeDiff, reduceCtorEq, Int.reduceEq, Int.reduceLT, Int.reduceLE, Int.reduceNeg, Int.reduceAdd, Int.reduceSub, Int.reduceToNat, f0, f1, f2, RH.av, RH.cs, ea1, ea2, x0, x2, decide_true]
    repeat ((with_reducible first | refine AWP_seq ?_ | refine AWP_block ?_ | refine AWP_scope ?_ | refine AWP_reg ?_ | refine AWP_draw ?_ | refine AWP_skip ?_ | refine AWP_ret ?_ | refine AWP_exit ?_ | (refine AWP_cond_true ?_ ?_; · simp only [SS, argList, aPut, aFill, ↓reduceIte, Nat.reduceEqDiff, Nat.reduceAdd, Nat.reduceLeDiff, reduceCtorEq, Int.reduceEq, Int.reduceLT, Int.reduceLE, Int.reduceNeg, Int.reduceAdd, Int.reduceSub, Int.reduceToNat, f0, f1, f2, RH.av, RH.cs, ea1, ea2, x0, x2, decide_true]) | (refine AWP_cond_false ?_ ?_; · simp only [SS, argList, aPut, aFill, ↓reduceIte, Nat.reduceEqDiff, Nat.reduceAdd, Nat.reduceLeDiff, reduceCtorEq, Int.reduceEq, Int.reduceLT, Int.reduceLE, Int.reduceNeg, Int.reduceAdd, Int.reduceSub, Int.reduceToNat, f0, f1, f2, RH.av, RH.cs, ea1, ea2, x0, x2, decide_true])); try simp only [SS, argList, aPut, aFill, ↓reduceIte, Nat.reduceEqDiff, Nat.reduceAdd, Nat.reduceLeDiff, reduceCtorEq, Int.reduceEq, Int.reduceLT, Int.reduceLE, Int.reduceNeg, Int.reduceAdd, Int.reduceSub, Int.reduceToNat, f0, f1, f2, RH.av, RH.cs, ea1, ea2, x0, x2, decide_true])
    refine (lsame_ok (hH1.push _) (cap8 hP') h' (by have := len8 hP' hR' (by omega); omega) _ (hsz8 hP' _) (hR'.at_ _)).mono ?_
    rintro r s' ⟨rfl, rfl⟩
    have hid : id ≠ σ.next + 1 + 1 := fun e => by have := σ.lt hH.hd; omega
    try simp only [SS, argList, aPut, aFill, ↓reduceIte, Nat.reduceEqDiff, Nat.reduceAdd, Nat.reduceLeDiff, reduceCtorEq, Int.reduceEq, Int.reduceLT, Int.reduceLE, Int.reduceNeg, Int.reduceAdd, Int.reduceSub, Int.reduceToNat, f0, f1, f2, RH.av, RH.cs, ea1, ea2, x0, x2, Store.get_upd _ _ l2]
    repeat ((with_reducible first | refine AWP_seq ?_ | refine AWP_block ?_ | refine AWP_scope ?_ | refine AWP_reg ?_ | refine AWP_draw ?_ | refine AWP_skip ?_ | refine AWP_ret ?_ | refine AWP_exit ?_ | (refine AWP_cond_true ?_ ?_; · simp only [SS, argList, aPut, aFill, ↓reduceIte, Nat.reduceEqDiff, Nat.reduceAdd, Nat.reduceLeDiff, reduceCtorEq, Int.reduceEq, Int.reduceLT, Int.reduceLE, Int.reduceNeg, Int.reduceAdd, Int.reduceSub, Int.reduceToNat, f0, f1, f2, RH.av, RH.cs, ea1, ea2, x0, x2, Store.get_upd _ _ l2]) | (refine AWP_cond_false ?_ ?_; · simp only [SS, argList, aPut, aFill, ↓reduceIte, Nat.reduceEqDiff, Nat.reduceAdd, Nat.reduceLeDiff, reduceCtorEq, Int.reduceEq, Int.reduceLT, Int.reduceLE, Int.reduceNeg, Int.reduceAdd, Int.reduceSub, Int.reduceToNat, f0, f1, f2, RH.av, RH.cs, ea1, ea2, x0, x2, Store.get_upd _ _ l2])); try simp only [SS, argList, aPut, aFill, ↓reduceIte, Nat.reduceEqDiff, Nat.reduceAdd, Nat.reduceLeDiff, reduceCtorEq, Int.reduceEq, Int.reduceLT, Int.reduceLE, Int.reduceNeg, Int.reduceAdd, Int.reduceSub, Int.reduceToNat, f0, f1, f2, RH.av, RH.cs, ea1, ea2, x0, x2, Store.get_upd _ _ l2])
    refine ⟨h', _, rfl, hT.fin k0 hft (by simp only [Store.upd_next, Store.push_next]; omega) fun i hi hi2 => ?_, hR', hP'⟩
    rw [Store.push_get, if_neg (by simp only [Store.upd_next]; omega), Store.get_upd_ne _ _ (by omega)]
  · by_cases h2 : ok = 2
    · subst h2
      try simp only [SS, argList, aPut, aFill, ↓reduceIte, Nat.reduceEqDiff, Nat.reduceAdd, Nat.reduceLeDiff, reduceCtorEq, Int.reduceEq, Int.reduceLT, Int.reduceLE, Int.reduceNeg, Int.reduceAdd, Int.reduceSub, Int.reduceToNat, RH.av, RH.cs, OpM.cells, e21]
      repeat ((with_reducible first | refine AWP_seq ?_ | refine AWP_block ?_ | refine AWP_scope ?_ | refine AWP_reg ?_ | refine AWP_draw ?_ | refine AWP_skip ?_ | refine AWP_ret ?_ | refine AWP_exit ?_ | (refine AWP_cond_true ?_ ?_; · simp only [SS, argList, aPut, aFill, ↓reduceIte, Nat.reduceEqDiff, Nat.reduceAdd, Nat.reduceLeDiff, reduceCtorEq, Int.reduceEq, Int.reduceLT, Int.reduceLE, Int.reduceNeg, Int.reduceAdd, Int.reduceSub, Int.reduceToNat, RH.av, RH.cs, OpM.cells, e21]) | (refine AWP_cond_false ?_ ?_; · simp only [SS, argList, aPut, aFill, ↓reduceIte, Nat.reduceEqDiff, Nat.reduceAdd, Nat.reduceLeDiff, reduceCtorEq, Int.reduceEq, Int.reduceLT, Int.reduceLE, Int.reduceNeg, Int.reduceAdd, Int.reduceSub, Int.reduceToNat, RH.av, RH.cs, OpM.cells, e21])); try simp only [SS, argList, aPut, aFill, ↓reduceIte, Nat.reduceEqDiff, Nat.reduceAdd, Nat.reduceLeDiff, reduceCtorEq, Int.reduceEq, Int.reduceLT, Int.reduceLE, Int.reduceNeg, Int.reduceAdd, Int.reduceSub, Int.reduceToNat, RH.av, RH.cs, OpM.cells, e21])
      generalize hs0 : Store.push _ _ = s0
      have e0 : s0.get σ.next = some (.cells 43 0 3 [h.cs]) := by rw [← hs0]; simp [Store.push_get, Store.push_next, RH.cs]; try omega
      have e1 : s0.get (σ.next + 1) = some (.cells 47 0 5 [[.int .i64 2, .int .i64 oa, .int .i64 ot, .int .i64 on, ints ol]]) := by rw [← hs0]; simp [Store.push_get, Store.push_next]; try omega
      have e2 : s0.get (σ.next + 2) = some (.cells 43 0 3 [[.int .i64 0, .nils, .int .i64 0]]) := by rw [← hs0]; simp [Store.push_get, Store.push_next]
      have k0 : Kp σ s0 := by rw [← hs0]; exact k3 _ _ _
      have n0 : s0.next = σ.next + 3 := by rw [← hs0]; simp [Store.push_next]
      clear hs0
      have hft : ∀ i, i ∈ foot id cs fs → i < σ.next := fun i hi => hH.lt hi
      refine (set_ok (hH.kp k0) hcp hG.clean oa ⟨ot, on, ol⟩ hb8).mono ?_
      rintro r s1 ⟨rfl, hT⟩
      have hT' := hT
      obtain ⟨cs1, fs1, hH1, hF1⟩ := hT'
      have f0 : s1.get σ.next = some (.cells 43 0 3 [h.cs]) := by rw [hF1.keep _ (by omega) (fun hm => by have := hft _ hm; omega)]; exact e0
      have f1 : s1.get (σ.next + 1) = _ := (hF1.keep _ (by omega) (fun hm => by have := hft _ hm; omega)).trans e1
      have f2 : s1.get (σ.next + 2) = _ := (hF1.keep _ (by omega) (fun hm => by have := hft _ hm; omega)).trans e2
      try simp only [SS, argList, aPut, aFill, ↓reduceIte, Nat.reduceEqDiff, Nat.reduceAdd, Nat.reduceLeDiff, reduceCtorEq, Int.reduceEq, Int.reduceLT, Int.reduceLE, Int.reduceNeg, Int.reduceAdd, Int.reduceSub, Int.reduceToNat, f0, f1, RH.cs]
      repeat ((with_reducible first | refine AWP_seq ?_ | refine AWP_block ?_ | refine AWP_scope ?_ | refine AWP_reg ?_ | refine AWP_draw ?_ | refine AWP_skip ?_ | refine AWP_ret ?_ | refine AWP_exit ?_ | (refine AWP_cond_true ?_ ?_; · simp only [SS, argList, aPut, aFill, ↓reduceIte, Nat.reduceEqDiff, Nat.reduceAdd, Nat.reduceLeDiff, reduceCtorEq, Int.reduceEq, Int.reduceLT, Int.reduceLE, Int.reduceNeg, Int.reduceAdd, Int.reduceSub, Int.reduceToNat, f0, f1, RH.cs]) | (refine AWP_cond_false ?_ ?_; · simp only [SS, argList, aPut, aFill, ↓reduceIte, Nat.reduceEqDiff, Nat.reduceAdd, Nat.reduceLeDiff, reduceCtorEq, Int.reduceEq, Int.reduceLT, Int.reduceLE, Int.reduceNeg, Int.reduceAdd, Int.reduceSub, Int.reduceToNat, f0, f1, RH.cs])); try simp only [SS, argList, aPut, aFill, ↓reduceIte, Nat.reduceEqDiff, Nat.reduceAdd, Nat.reduceLeDiff, reduceCtorEq, Int.reduceEq, Int.reduceLT, Int.reduceLE, Int.reduceNeg, Int.reduceAdd, Int.reduceSub, Int.reduceToNat, f0, f1, RH.cs])
      refine (rset_ok s1 h hll oa ⟨ot, on, ol⟩).mono ?_
      rintro r s ⟨rfl, rfl⟩
      obtain ⟨ea, hR'⟩ := hR.set oa ⟨ot, on, ol⟩
      have hP' := (hP.set oa ⟨ot, on, ol⟩ hos).mono (Nat.le_succ m)
      have ea1 : ((H.set oa ⟨ot, on, ol⟩).2 = (h.set oa ⟨ot, on, ol⟩).2) = True := by rw [ea]; simp
      have l2 : σ.next + 1 + 1 < s.next := by have := hF1.next; omega
      have x0 : (σ.next = s.next) = False := by have := hF1.next; simp; omega
      have x1 : (σ.next + 1 = s.next) = False := by have := hF1.next; simp; omega
      have x2 : (σ.next + 1 + 1 = s.next) = False := by have := hF1.next; simp; omega
      try simp only [SS, argList, aPut, aFill, ↓reduceIte, Nat.reduceEqDiff, Nat.reduceAdd, Nat.reduceLeDiff, reduceCtorEq, Int.reduceEq, Int.reduceLT, Int.reduceLE, Int.reduceNeg, Int.reduceAdd, Int.reduceSub, Int.reduceToNat, f0, f1, f2, RH.av, RH.cs, ea1, x0, x1, x2, decide_true]
      repeat ((with_reducible first | refine AWP_seq ?_ | refine AWP_block ?_ | refine AWP_scope ?_ | refine AWP_reg ?_ | refine AWP_draw ?_ | refine AWP_skip ?_ | refine AWP_ret ?_ | refine AWP_exit ?_ | (refine AWP_cond_true ?_ ?_; · simp only [SS, argList, aPut, aFill, ↓reduceIte, Nat.reduceEqDiff, Nat.reduceAdd, Nat.reduceLeDiff, reduceCtorEq, Int.reduceEq, Int.reduceLT, Int.reduceLE, Int.reduceNeg, Int.reduceAdd, Int.reduceSub, Int.reduceToNat, f0, f1, f2, RH.av, RH.cs, ea1, x0, x1, x2, decide_true]) | (refine AWP_cond_false ?_ ?_; · simp only [SS, argList, aPut, aFill, ↓reduceIte, Nat.reduceEqDiff, Nat.reduceAdd, Nat.reduceLeDiff, reduceCtorEq, Int.reduceEq, Int.reduceLT, Int.reduceLE, Int.reduceNeg, Int.reduceAdd, Int.reduceSub, Int.reduceToNat, f0, f1, f2, RH.av, RH.cs, ea1, x0, x1, x2, decide_true])); try simp only [SS, argList, aPut, aFill, ↓reduceIte, Nat.reduceEqDiff, Nat.reduceAdd, Nat.reduceLeDiff, reduceCtorEq, Int.reduceEq, Int.reduceLT, Int.reduceLE, Int.reduceNeg, Int.reduceAdd, Int.reduceSub, Int.reduceToNat, f0, f1, f2, RH.av, RH.cs, ea1, x0, x1, x2, decide_true])
      refine (lsame_ok (hH1.push _) (cap8 hP') _ (by have := len8 hP' hR' (by omega); omega) _ (hsz8 hP' _) (hR'.at_ _)).mono ?_
      rintro r s' ⟨rfl, rfl⟩
      try simp only [SS, argList, aPut, aFill, ↓reduceIte, Nat.reduceEqDiff, Nat.reduceAdd, Nat.reduceLeDiff, reduceCtorEq, Int.reduceEq, Int.reduceLT, Int.reduceLE, Int.reduceNeg, Int.reduceAdd, Int.reduceSub, Int.reduceToNat, f0, f1, f2, RH.av, RH.cs, ea1, x0, x1, x2, Store.get_upd _ _ l2]
      repeat ((with_reducible first | refine AWP_seq ?_ | refine AWP_block ?_ | refine AWP_scope ?_ | refine AWP_reg ?_ | refine AWP_draw ?_ | refine AWP_skip ?_ | refine AWP_ret ?_ | refine AWP_exit ?_ | (refine AWP_cond_true ?_ ?_; · simp only [SS, argList, aPut, aFill, ↓reduceIte, Nat.reduceEqDiff, Nat.reduceAdd, Nat.reduceLeDiff, reduceCtorEq, Int.reduceEq, Int.reduceLT, Int.reduceLE, Int.reduceNeg, Int.reduceAdd, Int.reduceSub, Int.reduceToNat, f0, f1, f2, RH.av, RH.cs, ea1, x0, x1, x2, Store.get_upd _ _ l2]) | (refine AWP_cond_false ?_ ?_; · simp only [SS, argList, aPut, aFill, ↓reduceIte, Nat.reduceEqDiff, Nat.reduceAdd, Nat.reduceLeDiff, reduceCtorEq, Int.reduceEq, Int.reduceLT, Int.reduceLE, Int.reduceNeg, Int.reduceAdd, Int.reduceSub, Int.reduceToNat, f0, f1, f2, RH.av, RH.cs, ea1, x0, x1, x2, Store.get_upd _ _ l2])); try simp only [SS, argList, aPut, aFill, ↓reduceIte, Nat.reduceEqDiff, Nat.reduceAdd, Nat.reduceLeDiff, reduceCtorEq, Int.reduceEq, Int.reduceLT, Int.reduceLE, Int.reduceNeg, Int.reduceAdd, Int.reduceSub, Int.reduceToNat, f0, f1, f2, RH.av, RH.cs, ea1, x0, x1, x2, Store.get_upd _ _ l2])
      refine ⟨_, _, rfl, hT.fin k0 hft (by simp only [Store.upd_next, Store.push_next]; omega) fun i hi hi2 => ?_, hR', hP'⟩
      rw [Store.push_get, if_neg (by simp only [Store.upd_next]; omega), Store.get_upd_ne _ _ (by omega)]
    · by_cases h3 : ok = 3
      · subst h3
        try simp only [SS, argList, aPut, aFill, ↓reduceIte, Nat.reduceEqDiff, Nat.reduceAdd, Nat.reduceLeDiff, reduceCtorEq, Int.reduceEq, Int.reduceLT, Int.reduceLE, Int.reduceNeg, Int.reduceAdd, Int.reduceSub, Int.reduceToNat, RH.av, RH.cs, OpM.cells, e31, e32]
        repeat ((with_reducible first | refine AWP_seq ?_ | refine AWP_block ?_ | refine AWP_scope ?_ | refine AWP_reg ?_ | refine AWP_draw ?_ | refine AWP_skip ?_ | refine AWP_ret ?_ | refine AWP_exit ?_ | (refine AWP_cond_true ?_ ?_; · simp only [SS, argList, aPut, aFill, ↓reduceIte, Nat.reduceEqDiff, Nat.reduceAdd, Nat.reduceLeDiff, reduceCtorEq, Int.reduceEq, Int.reduceLT, Int.reduceLE, Int.reduceNeg, Int.reduceAdd, Int.reduceSub, Int.reduceToNat, RH.av, RH.cs, OpM.cells, e31, e32]) | (refine AWP_cond_false ?_ ?_; · simp only [SS, argList, aPut, aFill, ↓reduceIte, Nat.reduceEqDiff, Nat.reduceAdd, Nat.reduceLeDiff, reduceCtorEq, Int.reduceEq, Int.reduceLT, Int.reduceLE, Int.reduceNeg, Int.reduceAdd, Int.reduceSub, Int.reduceToNat, RH.av, RH.cs, OpM.cells, e31, e32])); try simp only [SS, argList, aPut, aFill, ↓reduceIte, Nat.reduceEqDiff, Nat.reduceAdd, Nat.reduceLeDiff, reduceCtorEq, Int.reduceEq, Int.reduceLT, Int.reduceLE, Int.reduceNeg, Int.reduceAdd, Int.reduceSub, Int.reduceToNat, RH.av, RH.cs, OpM.cells, e31, e32])
        have hHp : HeapAt (((σ.push (.cells 43 0 3 [h.cs])).push (.cells 47 0 5 [[.int .i64 3, .int .i64 oa, .int .i64 ot, .int .i64 on, ints ol]])).push (.cells 43 0 3 [[.int .i64 0, .nils, .int .i64 0]])) id cs fs H := hH.kp (k3 _ _ _)
        refine (lsame_ok hHp (cap8 hP) h (by omega) _ (hsz8 hP _) (hR.at_ _)).mono ?_
        rintro r s' ⟨rfl, rfl⟩
        try simp only [SS, argList, aPut, aFill, ↓reduceIte, Nat.reduceEqDiff, Nat.reduceAdd, Nat.reduceLeDiff, reduceCtorEq, Int.reduceEq, Int.reduceLT, Int.reduceLE, Int.reduceNeg, Int.reduceAdd, Int.reduceSub, Int.reduceToNat, RH.cs]
        repeat ((with_reducible first | refine AWP_seq ?_ | refine AWP_block ?_ | refine AWP_scope ?_ | refine AWP_reg ?_ | refine AWP_draw ?_ | refine AWP_skip ?_ | refine AWP_ret ?_ | refine AWP_exit ?_ | (refine AWP_cond_true ?_ ?_; · simp only [SS, argList, aPut, aFill, ↓reduceIte, Nat.reduceEqDiff, Nat.reduceAdd, Nat.reduceLeDiff, reduceCtorEq, Int.reduceEq, Int.reduceLT, Int.reduceLE, Int.reduceNeg, Int.reduceAdd, Int.reduceSub, Int.reduceToNat, RH.cs]) | (refine AWP_cond_false ?_ ?_; · simp only [SS, argList, aPut, aFill, ↓reduceIte, Nat.reduceEqDiff, Nat.reduceAdd, Nat.reduceLeDiff, reduceCtorEq, Int.reduceEq, Int.reduceLT, Int.reduceLE, Int.reduceNeg, Int.reduceAdd, Int.reduceSub, Int.reduceToNat, RH.cs])); try simp only [SS, argList, aPut, aFill, ↓reduceIte, Nat.reduceEqDiff, Nat.reduceAdd, Nat.reduceLeDiff, reduceCtorEq, Int.reduceEq, Int.reduceLT, Int.reduceLE, Int.reduceNeg, Int.reduceAdd, Int.reduceSub, Int.reduceToNat, RH.cs])
        refine ⟨h, H, rfl, ⟨cs, fs, hH.kp (k3 _ _ _), (k3 _ _ _).fr _⟩, hR, hP.mono (Nat.le_succ m)⟩
      · by_cases h4 : ok = 4
        · subst h4
          try simp only [SS, argList, aPut, aFill, ↓reduceIte, Nat.reduceEqDiff, Nat.reduceAdd, Nat.reduceLeDiff, reduceCtorEq, Int.reduceEq, Int.reduceLT, Int.reduceLE, Int.reduceNeg, Int.reduceAdd, Int.reduceSub, Int.reduceToNat, RH.av, RH.cs, OpM.cells, e41, e42, e43]
          repeat ((with_reducible first | refine AWP_seq ?_ | refine AWP_block ?_ | refine AWP_scope ?_ | refine AWP_reg ?_ | refine AWP_draw ?_ | refine AWP_skip ?_ | refine AWP_ret ?_ | refine AWP_exit ?_ | (refine AWP_cond_true ?_ ?_; · simp only [SS, argList, aPut, aFill, ↓reduceIte, Nat.reduceEqDiff, Nat.reduceAdd, Nat.reduceLeDiff, reduceCtorEq, Int.reduceEq, Int.reduceLT, Int.reduceLE, Int.reduceNeg, Int.reduceAdd, Int.reduceSub, Int.reduceToNat, RH.av, RH.cs, OpM.cells, e41, e42, e43]) | (refine AWP_cond_false ?_ ?_; · simp only [SS, argList, aPut, aFill, ↓reduceIte, Nat.reduceEqDiff, Nat.reduceAdd, Nat.reduceLeDiff, reduceCtorEq, Int.reduceEq, Int.reduceLT, Int.reduceLE, Int.reduceNeg, Int.reduceAdd, Int.reduceSub, Int.reduceToNat, RH.av, RH.cs, OpM.cells, e41, e42, e43])); try simp only [SS, argList, aPut, aFill, ↓reduceIte, Nat.reduceEqDiff, Nat.reduceAdd, Nat.reduceLeDiff, reduceCtorEq, Int.reduceEq, Int.reduceLT, Int.reduceLE, Int.reduceNeg, Int.reduceAdd, Int.reduceSub, Int.reduceToNat, RH.av, RH.cs, OpM.cells, e41, e42, e43])
          generalize hs0 : Store.push _ _ = s0
          have e0 : s0.get σ.next = some (.cells 43 0 3 [h.cs]) := by rw [← hs0]; simp [Store.push_get, Store.push_next, RH.cs]; try omega
          have e1 : s0.get (σ.next + 1) = some (.cells 47 0 5 [[.int .i64 4, .int .i64 oa, .int .i64 ot, .int .i64 on, ints ol]]) := by rw [← hs0]; simp [Store.push_get, Store.push_next]; try omega
          have e2 : s0.get (σ.next + 2) = some (.cells 43 0 3 [[.int .i64 0, .nils, .int .i64 0]]) := by rw [← hs0]; simp [Store.push_get, Store.push_next]
          have k0 : Kp σ s0 := by rw [← hs0]; exact k3 _ _ _
          have n0 : s0.next = σ.next + 3 := by rw [← hs0]; simp [Store.push_next]
          clear hs0
          have hft : ∀ i, i ∈ foot id cs fs → i < σ.next := fun i hi => hH.lt hi
          have hat : ∀ a, h.at a = nodeAt H.cells a := fun a => by rw [hR.at_, Hp.at_node]
          have hcl : ∀ a x, nodeAt H.cells a = some x → ∀ b, b ∈ x.l → (nodeAt H.cells b).isSome = true := fun a x hx b hb => by
            rw [← Hp.at_node]
            exact Good.ptrs hG _ _ (by rw [← hx]) b hb
          have hs20 : ∀ a x, nodeAt H.cells a = some x → x.l.length ≤ 1000 := fun a x hx => by
            have := hP.sizes a x (by rw [Hp.at_node]; exact hx)
            omega
          have hwt := hP.weight
          refine (collect_ok (hH.kp k0) hG ol (by omega)).mono ?_
          intro r s1 hcol
          by_cases hr : H.all ol = true
          · rw [if_pos hr] at hcol
            obtain ⟨C, hM, rfl, hT⟩ := hcol
            have hT' := hT
            obtain ⟨cs1, fs1, hH1, hF1⟩ := hT'
            have f0 : s1.get σ.next = some (.cells 43 0 3 [h.cs]) := by rw [hF1.keep _ (by omega) (fun hm => by have := hft _ hm; omega)]; exact e0
            have f1 : s1.get (σ.next + 1) = _ := (hF1.keep _ (by omega) (fun hm => by have := hft _ hm; omega)).trans e1
            have f2 : s1.get (σ.next + 2) = _ := (hF1.keep _ (by omega) (fun hm => by have := hft _ hm; omega)).trans e2
            have l2 : σ.next + 1 + 1 < s1.next := by have := hF1.next; omega
            have x0 : (σ.next = s1.next) = False := by have := hF1.next; simp; omega
            have x1 : (σ.next + 1 = s1.next) = False := by have := hF1.next; simp; omega
            have x2 : (σ.next + 1 + 1 = s1.next) = False := by have := hF1.next; simp; omega
            try simp only [SS, argList, aPut, aFill, ↓reduceIte, Nat.reduceEqDiff, Nat.reduceAdd, Nat.reduceLeDiff, reduceCtorEq, Int.reduceEq, Int.reduceLT, Int.reduceLE, Int.reduceNeg, Int.reduceAdd, Int.reduceSub, Int.reduceToNat, f0, f1, RH.cs]
            repeat ((with_reducible first | refine AWP_seq ?_ | refine AWP_block ?_ | refine AWP_scope ?_ | refine AWP_reg ?_ | refine AWP_draw ?_ | refine AWP_skip ?_ | refine AWP_ret ?_ | refine AWP_exit ?_ | (refine AWP_cond_true ?_ ?_; · simp only [SS, argList, aPut, aFill, ↓reduceIte, Nat.reduceEqDiff, Nat.reduceAdd, Nat.reduceLeDiff, reduceCtorEq, Int.reduceEq, Int.reduceLT, Int.reduceLE, Int.reduceNeg, Int.reduceAdd, Int.reduceSub, Int.reduceToNat, f0, f1, RH.cs]) | (refine AWP_cond_false ?_ ?_; · simp only [SS, argList, aPut, aFill, ↓reduceIte, Nat.reduceEqDiff, Nat.reduceAdd, Nat.reduceLeDiff, reduceCtorEq, Int.reduceEq, Int.reduceLT, Int.reduceLE, Int.reduceNeg, Int.reduceAdd, Int.reduceSub, Int.reduceToNat, f0, f1, RH.cs])); try simp only [SS, argList, aPut, aFill, ↓reduceIte, Nat.reduceEqDiff, Nat.reduceAdd, Nat.reduceLeDiff, reduceCtorEq, Int.reduceEq, Int.reduceLT, Int.reduceLE, Int.reduceNeg, Int.reduceAdd, Int.reduceSub, Int.reduceToNat, f0, f1, RH.cs])
            refine (rcollect_ok s1 h hll H.cells hat hcl hs20 ol (by omega)).mono ?_
            rintro r s ⟨⟨h', n, e, rfl, hc⟩, rfl⟩
            rw [hR.all, if_pos hr] at hc
            obtain ⟨o, ho, rfl, rfl, rfl⟩ := hc
            have hR' := hR.sweep hG hr hM ho
            have hP' := (hP.sweep hr hM).mono (Nat.le_succ m)
            have ea : ((sweepN C : Int) = (h.l.length : Int) - ((h.l.filter fun c => decide (c.1 ∈ o)).length : Int)) = True := by
              have h1 := (collect_spec hG hr hM).2.2.1
              have h2 := hR.live hG
              have h3 := hR'.live hP'.good
              simp only at h3
              rw [h1, h2, ← h3]; simp
            try simp only [SS, argList, aPut, aFill, ↓reduceIte, Nat.reduceEqDiff, Nat.reduceAdd, Nat.reduceLeDiff, reduceCtorEq, Int.reduceEq, Int.reduceLT, Int.reduceLE, Int.reduceNeg, Int.reduceAdd, Int.reduceSub, Int.reduceToNat, f0, f1, f2, RH.av, RH.cs, ea, x0, x1, x2, Store.get_upd _ _ l2]
            repeat ((with_reducible first | refine AWP_seq ?_ | refine AWP_block ?_ | refine AWP_scope ?_ | refine AWP_reg ?_ | refine AWP_draw ?_ | refine AWP_skip ?_ | refine AWP_ret ?_ | refine AWP_exit ?_ | (refine AWP_cond_true ?_ ?_; · simp only [SS, argList, aPut, aFill, ↓reduceIte, Nat.reduceEqDiff, Nat.reduceAdd, Nat.reduceLeDiff, reduceCtorEq, Int.reduceEq, Int.reduceLT, Int.reduceLE, Int.reduceNeg, Int.reduceAdd, Int.reduceSub, Int.reduceToNat, f0, f1, f2, RH.av, RH.cs, ea, x0, x1, x2, Store.get_upd _ _ l2]) | (refine AWP_cond_false ?_ ?_; · simp only [SS, argList, aPut, aFill, ↓reduceIte, Nat.reduceEqDiff, Nat.reduceAdd, Nat.reduceLeDiff, reduceCtorEq, Int.reduceEq, Int.reduceLT, Int.reduceLE, Int.reduceNeg, Int.reduceAdd, Int.reduceSub, Int.reduceToNat, f0, f1, f2, RH.av, RH.cs, ea, x0, x1, x2, Store.get_upd _ _ l2])); try simp only [SS, argList, aPut, aFill, ↓reduceIte, Nat.reduceEqDiff, Nat.reduceAdd, Nat.reduceLeDiff, reduceCtorEq, Int.reduceEq, Int.reduceLT, Int.reduceLE, Int.reduceNeg, Int.reduceAdd, Int.reduceSub, Int.reduceToNat, f0, f1, f2, RH.av, RH.cs, ea, x0, x1, x2, Store.get_upd _ _ l2])
            refine ⟨_, _, rfl, hT.fin k0 hft (by simp only [Store.upd_next, Store.push_next]; omega) fun i hi hi2 => ?_, hR', hP'⟩
            rw [Store.push_get, if_neg (by simp only [Store.upd_next]; omega), Store.get_upd_ne _ _ (by omega)]
          · rw [if_neg hr] at hcol
            obtain ⟨rfl, rfl⟩ := hcol
            have l2 : σ.next + 1 + 1 < s1.next := by omega
            have x0 : (σ.next = s1.next) = False := by simp; omega
            have x1 : (σ.next + 1 = s1.next) = False := by simp; omega
            have x2 : (σ.next + 1 + 1 = s1.next) = False := by simp; omega
            try simp only [SS, argList, aPut, aFill, ↓reduceIte, Nat.reduceEqDiff, Nat.reduceAdd, Nat.reduceLeDiff, reduceCtorEq, Int.reduceEq, Int.reduceLT, Int.reduceLE, Int.reduceNeg, Int.reduceAdd, Int.reduceSub, Int.reduceToNat, e0, e1, RH.cs]
            repeat ((with_reducible first | refine AWP_seq ?_ | refine AWP_block ?_ | refine AWP_scope ?_ | refine AWP_reg ?_ | refine AWP_draw ?_ | refine AWP_skip ?_ | refine AWP_ret ?_ | refine AWP_exit ?_ | (refine AWP_cond_true ?_ ?_; · simp only [SS, argList, aPut, aFill, ↓reduceIte, Nat.reduceEqDiff, Nat.reduceAdd, Nat.reduceLeDiff, reduceCtorEq, Int.reduceEq, Int.reduceLT, Int.reduceLE, Int.reduceNeg, Int.reduceAdd, Int.reduceSub, Int.reduceToNat, e0, e1, RH.cs]) | (refine AWP_cond_false ?_ ?_; · simp only [SS, argList, aPut, aFill, ↓reduceIte, Nat.reduceEqDiff, Nat.reduceAdd, Nat.reduceLeDiff, reduceCtorEq, Int.reduceEq, Int.reduceLT, Int.reduceLE, Int.reduceNeg, Int.reduceAdd, Int.reduceSub, Int.reduceToNat, e0, e1, RH.cs])); try simp only [SS, argList, aPut, aFill, ↓reduceIte, Nat.reduceEqDiff, Nat.reduceAdd, Nat.reduceLeDiff, reduceCtorEq, Int.reduceEq, Int.reduceLT, Int.reduceLE, Int.reduceNeg, Int.reduceAdd, Int.reduceSub, Int.reduceToNat, e0, e1, RH.cs])
            refine (rcollect_ok s1 h hll H.cells hat hcl hs20 ol (by omega)).mono ?_
            rintro r s ⟨⟨h', n, e, rfl, hc⟩, rfl⟩
            rw [hR.all, if_neg hr] at hc
            obtain ⟨rfl, rfl, rfl⟩ := hc
            try simp only [SS, argList, aPut, aFill, ↓reduceIte, Nat.reduceEqDiff, Nat.reduceAdd, Nat.reduceLeDiff, reduceCtorEq, Int.reduceEq, Int.reduceLT, Int.reduceLE, Int.reduceNeg, Int.reduceAdd, Int.reduceSub, Int.reduceToNat, e0, e1, e2, RH.av, RH.cs, x0, x1, x2, Store.get_upd _ _ l2]
            repeat ((with_reducible first | refine AWP_seq ?_ | refine AWP_block ?_ | refine AWP_scope ?_ | refine AWP_reg ?_ | refine AWP_draw ?_ | refine AWP_skip ?_ | refine AWP_ret ?_ | refine AWP_exit ?_ | (refine AWP_cond_true ?_ ?_; · simp only [SS, argList, aPut, aFill, ↓reduceIte, Nat.reduceEqDiff, Nat.reduceAdd, Nat.reduceLeDiff, reduceCtorEq, Int.reduceEq, Int.reduceLT, Int.reduceLE, Int.reduceNeg, Int.reduceAdd, Int.reduceSub, Int.reduceToNat, e0, e1, e2, RH.av, RH.cs, x0, x1, x2, Store.get_upd _ _ l2]) | (refine AWP_cond_false ?_ ?_; · simp only [SS, argList, aPut, aFill, ↓reduceIte, Nat.reduceEqDiff, Nat.reduceAdd, Nat.reduceLeDiff, reduceCtorEq, Int.reduceEq, Int.reduceLT, Int.reduceLE, Int.reduceNeg, Int.reduceAdd, Int.reduceSub, Int.reduceToNat, e0, e1, e2, RH.av, RH.cs, x0, x1, x2, Store.get_upd _ _ l2])); try simp only [SS, argList, aPut, aFill, ↓reduceIte, Nat.reduceEqDiff, Nat.reduceAdd, Nat.reduceLeDiff, reduceCtorEq, Int.reduceEq, Int.reduceLT, Int.reduceLE, Int.reduceNeg, Int.reduceAdd, Int.reduceSub, Int.reduceToNat, e0, e1, e2, RH.av, RH.cs, x0, x1, x2, Store.get_upd _ _ l2])
            refine ⟨_, H, rfl, HeapTo.fin k0 ⟨cs, fs, hH.kp k0, Fr.refl _ _⟩ hft (by simp only [Store.upd_next, Store.push_next]; omega) fun i hi hi2 => ?_, hR, hP.mono (Nat.le_succ m)⟩
            rw [Store.push_get, if_neg (by simp only [Store.upd_next]; omega), Store.get_upd_ne _ _ (by omega)]
        · try simp only [SS, argList, aPut, aFill, ↓reduceIte, Nat.reduceEqDiff, Nat.reduceAdd, Nat.reduceLeDiff, reduceCtorEq, Int.reduceEq, Int.reduceLT, Int.reduceLE, Int.reduceNeg, Int.reduceAdd, Int.reduceSub, Int.reduceToNat, RH.av, RH.cs, OpM.cells, h1, h2, h3, h4]
          repeat ((with_reducible first | refine AWP_seq ?_ | refine AWP_block ?_ | refine AWP_scope ?_ | refine AWP_reg ?_ | refine AWP_draw ?_ | refine AWP_skip ?_ | refine AWP_ret ?_ | refine AWP_exit ?_ | (refine AWP_cond_true ?_ ?_; · simp only [SS, argList, aPut, aFill, ↓reduceIte, Nat.reduceEqDiff, Nat.reduceAdd, Nat.reduceLeDiff, reduceCtorEq, Int.reduceEq, Int.reduceLT, Int.reduceLE, Int.reduceNeg, Int.reduceAdd, Int.reduceSub, Int.reduceToNat, RH.av, RH.cs, OpM.cells, h1, h2, h3, h4]) | (refine AWP_cond_false ?_ ?_; · simp only [SS, argList, aPut, aFill, ↓reduceIte, Nat.reduceEqDiff, Nat.reduceAdd, Nat.reduceLeDiff, reduceCtorEq, Int.reduceEq, Int.reduceLT, Int.reduceLE, Int.reduceNeg, Int.reduceAdd, Int.reduceSub, Int.reduceToNat, RH.av, RH.cs, OpM.cells, h1, h2, h3, h4])); try simp only [SS, argList, aPut, aFill, ↓reduceIte, Nat.reduceEqDiff, Nat.reduceAdd, Nat.reduceLeDiff, reduceCtorEq, Int.reduceEq, Int.reduceLT, Int.reduceLE, Int.reduceNeg, Int.reduceAdd, Int.reduceSub, Int.reduceToNat, RH.av, RH.cs, OpM.cells, h1, h2, h3, h4])
          refine ⟨h, H, rfl, ⟨cs, fs, hH.kp (k3 _ _ _), (k3 _ _ _).fr _⟩, hR, hP.mono (Nat.le_succ m)⟩
theorem law5 (σ : Store) (cap : Int) (l : List OpM) : ACalls Try.prog 5 [.int .i64 cap, opsV l] σ fun r σ' => r = .bool true := by
  refine in5 (by simp) ?_
  unfold c5
  try simp only [SS, argList, aPut, aFill, ↓reduceIte, Nat.reduceEqDiff, Nat.reduceAdd, Nat.reduceLeDiff, reduceCtorEq, Int.reduceEq, Int.reduceLT, Int.reduceLE, Int.reduceNeg, Int.reduceAdd, Int.reduceSub, Int.reduceToNat]
  repeat ((with_reducible first | refine AWP_seq ?_ | refine AWP_block ?_ | refine AWP_scope ?_ | refine AWP_reg ?_ | refine AWP_draw ?_ | refine AWP_skip ?_ | refine AWP_ret ?_ | refine AWP_exit ?_ | (refine AWP_cond_true ?_ ?_; · simp only [SS, argList, aPut, aFill, ↓reduceIte, Nat.reduceEqDiff, Nat.reduceAdd, Nat.reduceLeDiff, reduceCtorEq, Int.reduceEq, Int.reduceLT, Int.reduceLE, Int.reduceNeg, Int.reduceAdd, Int.reduceSub, Int.reduceToNat]) | (refine AWP_cond_false ?_ ?_; · simp only [SS, argList, aPut, aFill, ↓reduceIte, Nat.reduceEqDiff, Nat.reduceAdd, Nat.reduceLeDiff, reduceCtorEq, Int.reduceEq, Int.reduceLT, Int.reduceLE, Int.reduceNeg, Int.reduceAdd, Int.reduceSub, Int.reduceToNat])); try simp only [SS, argList, aPut, aFill, ↓reduceIte, Nat.reduceEqDiff, Nat.reduceAdd, Nat.reduceLeDiff, reduceCtorEq, Int.reduceEq, Int.reduceLT, Int.reduceLE, Int.reduceNeg, Int.reduceAdd, Int.reduceSub, Int.reduceToNat])
  by_cases hc : 1 ≤ cap ∧ cap ≤ 16777216
  · refine (new_ok σ cap hc).mono ?_
    rintro r s0 ⟨rfl, hT0⟩
    try simp only [SS, argList, aPut, aFill, ↓reduceIte, Nat.reduceEqDiff, Nat.reduceAdd, Nat.reduceLeDiff, reduceCtorEq, Int.reduceEq, Int.reduceLT, Int.reduceLE, Int.reduceNeg, Int.reduceAdd, Int.reduceSub, Int.reduceToNat]
    repeat ((with_reducible first | refine AWP_seq ?_ | refine AWP_block ?_ | refine AWP_scope ?_ | refine AWP_reg ?_ | refine AWP_draw ?_ | refine AWP_skip ?_ | refine AWP_ret ?_ | refine AWP_exit ?_ | (refine AWP_cond_true ?_ ?_; · simp only [SS, argList, aPut, aFill, ↓reduceIte, Nat.reduceEqDiff, Nat.reduceAdd, Nat.reduceLeDiff, reduceCtorEq, Int.reduceEq, Int.reduceLT, Int.reduceLE, Int.reduceNeg, Int.reduceAdd, Int.reduceSub, Int.reduceToNat]) | (refine AWP_cond_false ?_ ?_; · simp only [SS, argList, aPut, aFill, ↓reduceIte, Nat.reduceEqDiff, Nat.reduceAdd, Nat.reduceLeDiff, reduceCtorEq, Int.reduceEq, Int.reduceLT, Int.reduceLE, Int.reduceNeg, Int.reduceAdd, Int.reduceSub, Int.reduceToNat])); try simp only [SS, argList, aPut, aFill, ↓reduceIte, Nat.reduceEqDiff, Nat.reduceAdd, Nat.reduceLeDiff, reduceCtorEq, Int.reduceEq, Int.reduceLT, Int.reduceLE, Int.reduceNeg, Int.reduceAdd, Int.reduceSub, Int.reduceToNat])
    refine (right_ok s0 cap).mono ?_
    rintro r s ⟨rfl, rfl⟩
    simp only [SS, argList, aPut, aFill, ↓reduceIte, Nat.reduceEqDiff, Nat.reduceAdd, Nat.reduceLeDiff, reduceCtorEq, Int.reduceEq, Int.reduceLT, Int.reduceLE, Int.reduceNeg, Int.reduceAdd, Int.reduceSub, Int.reduceToNat]
    try simp only [SS, argList, aPut, aFill, ↓reduceIte, Nat.reduceEqDiff, Nat.reduceAdd, Nat.reduceLeDiff, reduceCtorEq, Int.reduceEq, Int.reduceLT, Int.reduceLE, Int.reduceNeg, Int.reduceAdd, Int.reduceSub, Int.reduceToNat, hc]
    repeat ((with_reducible first | refine AWP_seq ?_ | refine AWP_block ?_ | refine AWP_scope ?_ | refine AWP_reg ?_ | refine AWP_draw ?_ | refine AWP_skip ?_ | refine AWP_ret ?_ | refine AWP_exit ?_ | (refine AWP_cond_true ?_ ?_; · simp only [SS, argList, aPut, aFill, ↓reduceIte, Nat.reduceEqDiff, Nat.reduceAdd, Nat.reduceLeDiff, reduceCtorEq, Int.reduceEq, Int.reduceLT, Int.reduceLE, Int.reduceNeg, Int.reduceAdd, Int.reduceSub, Int.reduceToNat, hc]) | (refine AWP_cond_false ?_ ?_; · simp only [SS, argList, aPut, aFill, ↓reduceIte, Nat.reduceEqDiff, Nat.reduceAdd, Nat.reduceLeDiff, reduceCtorEq, Int.reduceEq, Int.reduceLT, Int.reduceLE, Int.reduceNeg, Int.reduceAdd, Int.reduceSub, Int.reduceToNat, hc])); try simp only [SS, argList, aPut, aFill, ↓reduceIte, Nat.reduceEqDiff, Nat.reduceAdd, Nat.reduceLeDiff, reduceCtorEq, Int.reduceEq, Int.reduceLT, Int.reduceLE, Int.reduceNeg, Int.reduceAdd, Int.reduceSub, Int.reduceToNat, hc])
    refine (few_ok s l).mono ?_
    rintro r s ⟨rfl, rfl⟩
    simp only [SS, argList, aPut, aFill, ↓reduceIte, Nat.reduceEqDiff, Nat.reduceAdd, Nat.reduceLeDiff, reduceCtorEq, Int.reduceEq, Int.reduceLT, Int.reduceLE, Int.reduceNeg, Int.reduceAdd, Int.reduceSub, Int.reduceToNat]
    cases hf : few l with
    | false =>
      try simp only [SS, argList, aPut, aFill, ↓reduceIte, Nat.reduceEqDiff, Nat.reduceAdd, Nat.reduceLeDiff, reduceCtorEq, Int.reduceEq, Int.reduceLT, Int.reduceLE, Int.reduceNeg, Int.reduceAdd, Int.reduceSub, Int.reduceToNat]
      repeat ((with_reducible first | refine AWP_seq ?_ | refine AWP_block ?_ | refine AWP_scope ?_ | refine AWP_reg ?_ | refine AWP_draw ?_ | refine AWP_skip ?_ | refine AWP_ret ?_ | refine AWP_exit ?_ | (refine AWP_cond_true ?_ ?_; · simp only [SS, argList, aPut, aFill, ↓reduceIte, Nat.reduceEqDiff, Nat.reduceAdd, Nat.reduceLeDiff, reduceCtorEq, Int.reduceEq, Int.reduceLT, Int.reduceLE, Int.reduceNeg, Int.reduceAdd, Int.reduceSub, Int.reduceToNat]) | (refine AWP_cond_false ?_ ?_; · simp only [SS, argList, aPut, aFill, ↓reduceIte, Nat.reduceEqDiff, Nat.reduceAdd, Nat.reduceLeDiff, reduceCtorEq, Int.reduceEq, Int.reduceLT, Int.reduceLE, Int.reduceNeg, Int.reduceAdd, Int.reduceSub, Int.reduceToNat])); try simp only [SS, argList, aPut, aFill, ↓reduceIte, Nat.reduceEqDiff, Nat.reduceAdd, Nat.reduceLeDiff, reduceCtorEq, Int.reduceEq, Int.reduceLT, Int.reduceLE, Int.reduceNeg, Int.reduceAdd, Int.reduceSub, Int.reduceToNat])
      refine (right_ok s cap).mono ?_
      rintro r s ⟨rfl, rfl⟩
      simp only [SS, argList, aPut, aFill, ↓reduceIte, Nat.reduceEqDiff, Nat.reduceAdd, Nat.reduceLeDiff, reduceCtorEq, Int.reduceEq, Int.reduceLT, Int.reduceLE, Int.reduceNeg, Int.reduceAdd, Int.reduceSub, Int.reduceToNat]
      try simp only [SS, argList, aPut, aFill, ↓reduceIte, Nat.reduceEqDiff, Nat.reduceAdd, Nat.reduceLeDiff, reduceCtorEq, Int.reduceEq, Int.reduceLT, Int.reduceLE, Int.reduceNeg, Int.reduceAdd, Int.reduceSub, Int.reduceToNat, hc]
      repeat ((with_reducible first | refine AWP_seq ?_ | refine AWP_block ?_ | refine AWP_scope ?_ | refine AWP_reg ?_ | refine AWP_draw ?_ | refine AWP_skip ?_ | refine AWP_ret ?_ | refine AWP_exit ?_ | (refine AWP_cond_true ?_ ?_; · simp only [SS, argList, aPut, aFill, ↓reduceIte, Nat.reduceEqDiff, Nat.reduceAdd, Nat.reduceLeDiff, reduceCtorEq, Int.reduceEq, Int.reduceLT, Int.reduceLE, Int.reduceNeg, Int.reduceAdd, Int.reduceSub, Int.reduceToNat, hc]) | (refine AWP_cond_false ?_ ?_; · simp only [SS, argList, aPut, aFill, ↓reduceIte, Nat.reduceEqDiff, Nat.reduceAdd, Nat.reduceLeDiff, reduceCtorEq, Int.reduceEq, Int.reduceLT, Int.reduceLE, Int.reduceNeg, Int.reduceAdd, Int.reduceSub, Int.reduceToNat, hc])); try simp only [SS, argList, aPut, aFill, ↓reduceIte, Nat.reduceEqDiff, Nat.reduceAdd, Nat.reduceLeDiff, reduceCtorEq, Int.reduceEq, Int.reduceLT, Int.reduceLE, Int.reduceNeg, Int.reduceAdd, Int.reduceSub, Int.reduceToNat, hc])
      refine (right_ok s cap).mono ?_
      rintro r s ⟨rfl, rfl⟩
      simp only [SS, argList, aPut, aFill, ↓reduceIte, Nat.reduceEqDiff, Nat.reduceAdd, Nat.reduceLeDiff, reduceCtorEq, Int.reduceEq, Int.reduceLT, Int.reduceLE, Int.reduceNeg, Int.reduceAdd, Int.reduceSub, Int.reduceToNat]
      try simp only [SS, argList, aPut, aFill, ↓reduceIte, Nat.reduceEqDiff, Nat.reduceAdd, Nat.reduceLeDiff, reduceCtorEq, Int.reduceEq, Int.reduceLT, Int.reduceLE, Int.reduceNeg, Int.reduceAdd, Int.reduceSub, Int.reduceToNat, hc]
      repeat ((with_reducible first | refine AWP_seq ?_ | refine AWP_block ?_ | refine AWP_scope ?_ | refine AWP_reg ?_ | refine AWP_draw ?_ | refine AWP_skip ?_ | refine AWP_ret ?_ | refine AWP_exit ?_ | (refine AWP_cond_true ?_ ?_; · simp only [SS, argList, aPut, aFill, ↓reduceIte, Nat.reduceEqDiff, Nat.reduceAdd, Nat.reduceLeDiff, reduceCtorEq, Int.reduceEq, Int.reduceLT, Int.reduceLE, Int.reduceNeg, Int.reduceAdd, Int.reduceSub, Int.reduceToNat, hc]) | (refine AWP_cond_false ?_ ?_; · simp only [SS, argList, aPut, aFill, ↓reduceIte, Nat.reduceEqDiff, Nat.reduceAdd, Nat.reduceLeDiff, reduceCtorEq, Int.reduceEq, Int.reduceLT, Int.reduceLE, Int.reduceNeg, Int.reduceAdd, Int.reduceSub, Int.reduceToNat, hc])); try simp only [SS, argList, aPut, aFill, ↓reduceIte, Nat.reduceEqDiff, Nat.reduceAdd, Nat.reduceLeDiff, reduceCtorEq, Int.reduceEq, Int.reduceLT, Int.reduceLE, Int.reduceNeg, Int.reduceAdd, Int.reduceSub, Int.reduceToNat, hc])
      refine (known_ok s).mono ?_
      rintro r s ⟨rfl, rfl⟩
      simp only [SS, argList, aPut, aFill, ↓reduceIte, Nat.reduceEqDiff, Nat.reduceAdd, Nat.reduceLeDiff, reduceCtorEq, Int.reduceEq, Int.reduceLT, Int.reduceLE, Int.reduceNeg, Int.reduceAdd, Int.reduceSub, Int.reduceToNat]
      try simp only [SS, argList, aPut, aFill, ↓reduceIte, Nat.reduceEqDiff, Nat.reduceAdd, Nat.reduceLeDiff, reduceCtorEq, Int.reduceEq, Int.reduceLT, Int.reduceLE, Int.reduceNeg, Int.reduceAdd, Int.reduceSub, Int.reduceToNat]
      repeat ((with_reducible first | refine AWP_seq ?_ | refine AWP_block ?_ | refine AWP_scope ?_ | refine AWP_reg ?_ | refine AWP_draw ?_ | refine AWP_skip ?_ | refine AWP_ret ?_ | refine AWP_exit ?_ | (refine AWP_cond_true ?_ ?_; · simp only [SS, argList, aPut, aFill, ↓reduceIte, Nat.reduceEqDiff, Nat.reduceAdd, Nat.reduceLeDiff, reduceCtorEq, Int.reduceEq, Int.reduceLT, Int.reduceLE, Int.reduceNeg, Int.reduceAdd, Int.reduceSub, Int.reduceToNat]) | (refine AWP_cond_false ?_ ?_; · simp only [SS, argList, aPut, aFill, ↓reduceIte, Nat.reduceEqDiff, Nat.reduceAdd, Nat.reduceLeDiff, reduceCtorEq, Int.reduceEq, Int.reduceLT, Int.reduceLE, Int.reduceNeg, Int.reduceAdd, Int.reduceSub, Int.reduceToNat])); try simp only [SS, argList, aPut, aFill, ↓reduceIte, Nat.reduceEqDiff, Nat.reduceAdd, Nat.reduceLeDiff, reduceCtorEq, Int.reduceEq, Int.reduceLT, Int.reduceLE, Int.reduceNeg, Int.reduceAdd, Int.reduceSub, Int.reduceToNat])
    | true =>
      have hl' : l.length ≤ 400 ∧ ∀ o, o ∈ l → o.n.l.length ≤ 20 := by
        simp only [few, Bool.and_eq_true, decide_eq_true_eq, List.all_eq_true] at hf
        exact hf
      obtain ⟨h400, hsz⟩ := hl'
      obtain ⟨cs0, fs0, hH0, hF0⟩ := hT0
      try simp only [SS, argList, aPut, aFill, ↓reduceIte, Nat.reduceEqDiff, Nat.reduceAdd, Nat.reduceLeDiff, reduceCtorEq, Int.reduceEq, Int.reduceLT, Int.reduceLE, Int.reduceNeg, Int.reduceAdd, Int.reduceSub, Int.reduceToNat, hc]
      repeat ((with_reducible first | refine AWP_seq ?_ | refine AWP_block ?_ | refine AWP_scope ?_ | refine AWP_reg ?_ | refine AWP_draw ?_ | refine AWP_skip ?_ | refine AWP_ret ?_ | refine AWP_exit ?_ | (refine AWP_cond_true ?_ ?_; · simp only [SS, argList, aPut, aFill, ↓reduceIte, Nat.reduceEqDiff, Nat.reduceAdd, Nat.reduceLeDiff, reduceCtorEq, Int.reduceEq, Int.reduceLT, Int.reduceLE, Int.reduceNeg, Int.reduceAdd, Int.reduceSub, Int.reduceToNat, hc]) | (refine AWP_cond_false ?_ ?_; · simp only [SS, argList, aPut, aFill, ↓reduceIte, Nat.reduceEqDiff, Nat.reduceAdd, Nat.reduceLeDiff, reduceCtorEq, Int.reduceEq, Int.reduceLT, Int.reduceLE, Int.reduceNeg, Int.reduceAdd, Int.reduceSub, Int.reduceToNat, hc])); try simp only [SS, argList, aPut, aFill, ↓reduceIte, Nat.reduceEqDiff, Nat.reduceAdd, Nat.reduceLeDiff, reduceCtorEq, Int.reduceEq, Int.reduceLT, Int.reduceLE, Int.reduceNeg, Int.reduceAdd, Int.reduceSub, Int.reduceToNat, hc])
      have hb : ∀ o, HeapAt (s.push o) σ.next cs0 fs0 (Hp.mk0 cap) ∧ (s.push o).get s.next = some o ∧ s.next < (s.push o).next := fun o => ⟨hH0.push o, by simp [Store.push_get], by simp [Store.push_next]⟩
      refine AWP_while [0, 1, 5, 7, 8] (fun y : Nat × Hp × RH × AV × AV × AV => l.length - y.1) (fun y => [.int .i64 cap, opsV l, .ptr σ.next 0 0 0, .ptr s.next 0 0 0, .int .i64 y.1])
        (fun y s' => y.1 ≤ l.length ∧ Played y.2.1 cap y.1 ∧ HR y.2.1 y.2.2.1 ∧ HeapAt s' σ.next y.2.2.2.1 y.2.2.2.2.1 y.2.1 ∧ RH.In y.2.2.1 y.2.2.2.2.2 ∧ s'.get s.next = some (.cells 43 0 3 [[.int .i64 y.2.2.1.cap, y.2.2.2.2.2, .int .i64 y.2.2.1.allocs]]) ∧ (∀ i, i ∈ foot σ.next y.2.2.2.1 y.2.2.2.2.1 → i ≠ s.next) ∧ s.next < s'.next)
        (0, Hp.mk0 cap, ⟨cap, [], 0⟩, cs0, fs0, .nils) ⟨by simp, Played.start hc, HR.start cap, (hb _).1, .inr ⟨rfl, rfl⟩, (hb _).2.1, fun i hi => by have := hH0.lt hi; omega, (hb _).2.2⟩ ?_ ?_
      · try simp only [SS, argList, aPut, aFill, ↓reduceIte, Nat.reduceEqDiff, Nat.reduceAdd, Nat.reduceLeDiff, reduceCtorEq, Int.reduceEq, Int.reduceLT, Int.reduceLE, Int.reduceNeg, Int.reduceAdd, Int.reduceSub, Int.reduceToNat]
        repeat ((with_reducible first | refine AWP_seq ?_ | refine AWP_block ?_ | refine AWP_scope ?_ | refine AWP_reg ?_ | refine AWP_draw ?_ | refine AWP_skip ?_ | refine AWP_ret ?_ | refine AWP_exit ?_ | (refine AWP_cond_true ?_ ?_; · simp only [SS, argList, aPut, aFill, ↓reduceIte, Nat.reduceEqDiff, Nat.reduceAdd, Nat.reduceLeDiff, reduceCtorEq, Int.reduceEq, Int.reduceLT, Int.reduceLE, Int.reduceNeg, Int.reduceAdd, Int.reduceSub, Int.reduceToNat]) | (refine AWP_cond_false ?_ ?_; · simp only [SS, argList, aPut, aFill, ↓reduceIte, Nat.reduceEqDiff, Nat.reduceAdd, Nat.reduceLeDiff, reduceCtorEq, Int.reduceEq, Int.reduceLT, Int.reduceLE, Int.reduceNeg, Int.reduceAdd, Int.reduceSub, Int.reduceToNat])); try simp only [SS, argList, aPut, aFill, ↓reduceIte, Nat.reduceEqDiff, Nat.reduceAdd, Nat.reduceLeDiff, reduceCtorEq, Int.reduceEq, Int.reduceLT, Int.reduceLE, Int.reduceNeg, Int.reduceAdd, Int.reduceSub, Int.reduceToNat])
        rfl
      · rintro ⟨i, H, h, cs, fs, lv⟩ s' ⟨hi, hP, hR, hH, hIn, hbox, hfo, hlt⟩
        simp only at hi hP hR hH hIn hbox hfo
        have hlen := hIn.len s'
        by_cases hil : i < l.length
        · have hil' : (i : Int) < (l.length : Int) := by omega
          obtain ⟨o, ho⟩ : ∃ o, l[i]? = some o := ⟨_, List.getElem?_eq_getElem hil⟩
          have hos := hsz o (List.mem_of_getElem? ho)
          have hg : (l.map OpM.cells)[i]? = some o.cells := by simp [ho]
          try simp only [SS, argList, aPut, aFill, ↓reduceIte, Nat.reduceEqDiff, Nat.reduceAdd, Nat.reduceLeDiff, reduceCtorEq, Int.reduceEq, Int.reduceLT, Int.reduceLE, Int.reduceNeg, Int.reduceAdd, Int.reduceSub, Int.reduceToNat, opsV, hil', hg, OpM.cells, hbox]
          repeat ((with_reducible first | refine AWP_seq ?_ | refine AWP_block ?_ | refine AWP_scope ?_ | refine AWP_reg ?_ | refine AWP_draw ?_ | refine AWP_skip ?_ | refine AWP_ret ?_ | refine AWP_exit ?_ | (refine AWP_cond_true ?_ ?_; · simp only [SS, argList, aPut, aFill, ↓reduceIte, Nat.reduceEqDiff, Nat.reduceAdd, Nat.reduceLeDiff, reduceCtorEq, Int.reduceEq, Int.reduceLT, Int.reduceLE, Int.reduceNeg, Int.reduceAdd, Int.reduceSub, Int.reduceToNat, opsV, hil', hg, OpM.cells, hbox]) | (refine AWP_cond_false ?_ ?_; · simp only [SS, argList, aPut, aFill, ↓reduceIte, Nat.reduceEqDiff, Nat.reduceAdd, Nat.reduceLeDiff, reduceCtorEq, Int.reduceEq, Int.reduceLT, Int.reduceLE, Int.reduceNeg, Int.reduceAdd, Int.reduceSub, Int.reduceToNat, opsV, hil', hg, OpM.cells, hbox])); try simp only [SS, argList, aPut, aFill, ↓reduceIte, Nat.reduceEqDiff, Nat.reduceAdd, Nat.reduceLeDiff, reduceCtorEq, Int.reduceEq, Int.reduceLT, Int.reduceLE, Int.reduceNeg, Int.reduceAdd, Int.reduceSub, Int.reduceToNat, opsV, hil', hg, OpM.cells, hbox])
          refine ACalls_args (args' := [.ptr σ.next 0 0 0, h.av, .agg o.cells]) (.cons (.refl _) (.cons hIn.le (.cons (.refl _) .nil))) ?_
          refine (step_ok hH hP (by omega) hR o hos).mono ?_
          rintro r s2 ⟨h', H', rfl, ⟨cs2, fs2, hH2, hF2⟩, hR', hP'⟩
          have hbox2 : s2.get s.next = some (.cells 43 0 3 [[.int .i64 h.cap, lv, .int .i64 h.allocs]]) := by rw [hF2.keep _ hlt (fun hm => hfo _ hm rfl)]; exact hbox
          have hcp : 0 < H'.cap := by have := hP'.good.cap; omega
          have hfo2 : ∀ i, i ∈ foot σ.next cs2 fs2 → i ≠ s.next := fun i hi e => by
            rcases hF2.fresh i hi with hh | hh
            · exact hfo i hh e
            · omega
          have x0 : (s.next = s2.next) = False := by have := hF2.next; simp; omega
          have l2 : s.next < s2.next := by have := hF2.next; omega
          try simp only [SS, argList, aPut, aFill, ↓reduceIte, Nat.reduceEqDiff, Nat.reduceAdd, Nat.reduceLeDiff, reduceCtorEq, Int.reduceEq, Int.reduceLT, Int.reduceLE, Int.reduceNeg, Int.reduceAdd, Int.reduceSub, Int.reduceToNat, RH.av, RH.cs, hbox2, x0, Store.get_upd _ _ l2]
          repeat ((with_reducible first | refine AWP_seq ?_ | refine AWP_block ?_ | refine AWP_scope ?_ | refine AWP_reg ?_ | refine AWP_draw ?_ | refine AWP_skip ?_ | refine AWP_ret ?_ | refine AWP_exit ?_ | (refine AWP_cond_true ?_ ?_; · simp only [SS, argList, aPut, aFill, ↓reduceIte, Nat.reduceEqDiff, Nat.reduceAdd, Nat.reduceLeDiff, reduceCtorEq, Int.reduceEq, Int.reduceLT, Int.reduceLE, Int.reduceNeg, Int.reduceAdd, Int.reduceSub, Int.reduceToNat, RH.av, RH.cs, hbox2, x0, Store.get_upd _ _ l2]) | (refine AWP_cond_false ?_ ?_; · simp only [SS, argList, aPut, aFill, ↓reduceIte, Nat.reduceEqDiff, Nat.reduceAdd, Nat.reduceLeDiff, reduceCtorEq, Int.reduceEq, Int.reduceLT, Int.reduceLE, Int.reduceNeg, Int.reduceAdd, Int.reduceSub, Int.reduceToNat, RH.av, RH.cs, hbox2, x0, Store.get_upd _ _ l2])); try simp only [SS, argList, aPut, aFill, ↓reduceIte, Nat.reduceEqDiff, Nat.reduceAdd, Nat.reduceLeDiff, reduceCtorEq, Int.reduceEq, Int.reduceLT, Int.reduceLE, Int.reduceNeg, Int.reduceAdd, Int.reduceSub, Int.reduceToNat, RH.av, RH.cs, hbox2, x0, Store.get_upd _ _ l2])
          generalize hs3 : Store.push _ _ = s3
          have hs3g : ∀ j, j < s2.next → j ≠ s.next → s3.get j = s2.get j := fun j h1 h2 => by rw [← hs3, Store.push_get, if_neg (by simp only [Store.upd_next]; omega), Store.get_upd_ne _ _ h2]
          have hH3 : HeapAt s3 σ.next cs2 fs2 H' := hH2.keep fun j hj => hs3g j (hH2.lt hj) (hfo2 j hj)
          have hbox3 : s3.get s.next = some (.cells 43 0 3 [h'.cs]) := by rw [← hs3, Store.push_get, if_neg (by simp only [Store.upd_next]; omega), Store.get_upd _ _ l2, if_pos rfl]; rfl
          have l3 : s.next < s3.next := by rw [← hs3]; simp only [Store.push_next, Store.upd_next]; omega
          clear hs3
          have hlv := hR'.live hP'.good
          refine (live_ok hH3 hcp).mono ?_
          rintro r s4 ⟨rfl, rfl⟩
          try simp only [SS, argList, aPut, aFill, ↓reduceIte, Nat.reduceEqDiff, Nat.reduceAdd, Nat.reduceLeDiff, reduceCtorEq, Int.reduceEq, Int.reduceLT, Int.reduceLE, Int.reduceNeg, Int.reduceAdd, Int.reduceSub, Int.reduceToNat, hbox3, RH.cs, ← hlv]
          repeat ((with_reducible first | refine AWP_seq ?_ | refine AWP_block ?_ | refine AWP_scope ?_ | refine AWP_reg ?_ | refine AWP_draw ?_ | refine AWP_skip ?_ | refine AWP_ret ?_ | refine AWP_exit ?_ | (refine AWP_cond_true ?_ ?_; · simp only [SS, argList, aPut, aFill, ↓reduceIte, Nat.reduceEqDiff, Nat.reduceAdd, Nat.reduceLeDiff, reduceCtorEq, Int.reduceEq, Int.reduceLT, Int.reduceLE, Int.reduceNeg, Int.reduceAdd, Int.reduceSub, Int.reduceToNat, hbox3, RH.cs, ← hlv]) | (refine AWP_cond_false ?_ ?_; · simp only [SS, argList, aPut, aFill, ↓reduceIte, Nat.reduceEqDiff, Nat.reduceAdd, Nat.reduceLeDiff, reduceCtorEq, Int.reduceEq, Int.reduceLT, Int.reduceLE, Int.reduceNeg, Int.reduceAdd, Int.reduceSub, Int.reduceToNat, hbox3, RH.cs, ← hlv])); try simp only [SS, argList, aPut, aFill, ↓reduceIte, Nat.reduceEqDiff, Nat.reduceAdd, Nat.reduceLeDiff, reduceCtorEq, Int.reduceEq, Int.reduceLT, Int.reduceLE, Int.reduceNeg, Int.reduceAdd, Int.reduceSub, Int.reduceToNat, hbox3, RH.cs, ← hlv])
          refine (cap_ok hH3 hcp).mono ?_
          rintro r s4 ⟨rfl, rfl⟩
          try simp only [SS, argList, aPut, aFill, ↓reduceIte, Nat.reduceEqDiff, Nat.reduceAdd, Nat.reduceLeDiff, reduceCtorEq, Int.reduceEq, Int.reduceLT, Int.reduceLE, Int.reduceNeg, Int.reduceAdd, Int.reduceSub, Int.reduceToNat, hbox3, RH.cs, hP'.cap]
          repeat ((with_reducible first | refine AWP_seq ?_ | refine AWP_block ?_ | refine AWP_scope ?_ | refine AWP_reg ?_ | refine AWP_draw ?_ | refine AWP_skip ?_ | refine AWP_ret ?_ | refine AWP_exit ?_ | (refine AWP_cond_true ?_ ?_; · simp only [SS, argList, aPut, aFill, ↓reduceIte, Nat.reduceEqDiff, Nat.reduceAdd, Nat.reduceLeDiff, reduceCtorEq, Int.reduceEq, Int.reduceLT, Int.reduceLE, Int.reduceNeg, Int.reduceAdd, Int.reduceSub, Int.reduceToNat, hbox3, RH.cs, hP'.cap]) | (refine AWP_cond_false ?_ ?_; · simp only [SS, argList, aPut, aFill, ↓reduceIte, Nat.reduceEqDiff, Nat.reduceAdd, Nat.reduceLeDiff, reduceCtorEq, Int.reduceEq, Int.reduceLT, Int.reduceLE, Int.reduceNeg, Int.reduceAdd, Int.reduceSub, Int.reduceToNat, hbox3, RH.cs, hP'.cap])); try simp only [SS, argList, aPut, aFill, ↓reduceIte, Nat.reduceEqDiff, Nat.reduceAdd, Nat.reduceLeDiff, reduceCtorEq, Int.reduceEq, Int.reduceLT, Int.reduceLE, Int.reduceNeg, Int.reduceAdd, Int.reduceSub, Int.reduceToNat, hbox3, RH.cs, hP'.cap])
          refine (allocs_ok hH3 hcp).mono ?_
          rintro r s4 ⟨rfl, rfl⟩
          try simp only [SS, argList, aPut, aFill, ↓reduceIte, Nat.reduceEqDiff, Nat.reduceAdd, Nat.reduceLeDiff, reduceCtorEq, Int.reduceEq, Int.reduceLT, Int.reduceLE, Int.reduceNeg, Int.reduceAdd, Int.reduceSub, Int.reduceToNat, hbox3, RH.cs, hR'.allocs, wrap_succ (i := i) (by omega)]
          repeat ((with_reducible first | refine AWP_seq ?_ | refine AWP_block ?_ | refine AWP_scope ?_ | refine AWP_reg ?_ | refine AWP_draw ?_ | refine AWP_skip ?_ | refine AWP_ret ?_ | refine AWP_exit ?_ | (refine AWP_cond_true ?_ ?_; · simp only [SS, argList, aPut, aFill, ↓reduceIte, Nat.reduceEqDiff, Nat.reduceAdd, Nat.reduceLeDiff, reduceCtorEq, Int.reduceEq, Int.reduceLT, Int.reduceLE, Int.reduceNeg, Int.reduceAdd, Int.reduceSub, Int.reduceToNat, hbox3, RH.cs, hR'.allocs, wrap_succ (i := i) (by omega)]) | (refine AWP_cond_false ?_ ?_; · simp only [SS, argList, aPut, aFill, ↓reduceIte, Nat.reduceEqDiff, Nat.reduceAdd, Nat.reduceLeDiff, reduceCtorEq, Int.reduceEq, Int.reduceLT, Int.reduceLE, Int.reduceNeg, Int.reduceAdd, Int.reduceSub, Int.reduceToNat, hbox3, RH.cs, hR'.allocs, wrap_succ (i := i) (by omega)])); try simp only [SS, argList, aPut, aFill, ↓reduceIte, Nat.reduceEqDiff, Nat.reduceAdd, Nat.reduceLeDiff, reduceCtorEq, Int.reduceEq, Int.reduceLT, Int.reduceLE, Int.reduceNeg, Int.reduceAdd, Int.reduceSub, Int.reduceToNat, hbox3, RH.cs, hR'.allocs, wrap_succ (i := i) (by omega)])
          exact ⟨(i + 1, H', h', cs2, fs2, .list (h'.l.map RC.cells)), rfl, ⟨by simp only; omega, hP', hR', hH3, .inl rfl, by simp only [hR'.allocs], hfo2, l3⟩, by simp only; omega⟩
        · have hil' : ¬ (i : Int) < (l.length : Int) := by omega
          have hcp : 0 < H.cap := by have := hP.good.cap; omega
          have hll : h.l.length ≤ 1000 := by
            have := hR.live hP.good
            have h1 := hP.good.live
            have h2 := hP.len
            have := List.countP_le_length (p := fun c : Cl => c.1.isSome) (l := H.cells)
            omega
          have hsz8 : ∀ a x, H.at a = some x → x.l.length * 8 ≤ 140737488355328 := fun a x hx => by have := hP.sizes a x hx; omega
          try simp only [SS, argList, aPut, aFill, ↓reduceIte, Nat.reduceEqDiff, Nat.reduceAdd, Nat.reduceLeDiff, reduceCtorEq, Int.reduceEq, Int.reduceLT, Int.reduceLE, Int.reduceNeg, Int.reduceAdd, Int.reduceSub, Int.reduceToNat, opsV, hil']
          repeat ((with_reducible first | refine AWP_seq ?_ | refine AWP_block ?_ | refine AWP_scope ?_ | refine AWP_reg ?_ | refine AWP_draw ?_ | refine AWP_skip ?_ | refine AWP_ret ?_ | refine AWP_exit ?_ | (refine AWP_cond_true ?_ ?_; · simp only [SS, argList, aPut, aFill, ↓reduceIte, Nat.reduceEqDiff, Nat.reduceAdd, Nat.reduceLeDiff, reduceCtorEq, Int.reduceEq, Int.reduceLT, Int.reduceLE, Int.reduceNeg, Int.reduceAdd, Int.reduceSub, Int.reduceToNat, opsV, hil']) | (refine AWP_cond_false ?_ ?_; · simp only [SS, argList, aPut, aFill, ↓reduceIte, Nat.reduceEqDiff, Nat.reduceAdd, Nat.reduceLeDiff, reduceCtorEq, Int.reduceEq, Int.reduceLT, Int.reduceLE, Int.reduceNeg, Int.reduceAdd, Int.reduceSub, Int.reduceToNat, opsV, hil'])); try simp only [SS, argList, aPut, aFill, ↓reduceIte, Nat.reduceEqDiff, Nat.reduceAdd, Nat.reduceLeDiff, reduceCtorEq, Int.reduceEq, Int.reduceLT, Int.reduceLE, Int.reduceNeg, Int.reduceAdd, Int.reduceSub, Int.reduceToNat, opsV, hil'])
          refine AWP_while [5, 7, 11] (fun y : Nat => h.l.length - y) (fun y => [.ptr σ.next 0 0 0, .ptr s.next 0 0 0, .int .i64 y]) (fun y s2 => s2 = s' ∧ y ≤ h.l.length) 0 ⟨rfl, by omega⟩ ?_ ?_
          · try simp only [SS, argList, aPut, aFill, ↓reduceIte, Nat.reduceEqDiff, Nat.reduceAdd, Nat.reduceLeDiff, reduceCtorEq, Int.reduceEq, Int.reduceLT, Int.reduceLE, Int.reduceNeg, Int.reduceAdd, Int.reduceSub, Int.reduceToNat]
            repeat ((with_reducible first | refine AWP_seq ?_ | refine AWP_block ?_ | refine AWP_scope ?_ | refine AWP_reg ?_ | refine AWP_draw ?_ | refine AWP_skip ?_ | refine AWP_ret ?_ | refine AWP_exit ?_ | (refine AWP_cond_true ?_ ?_; · simp only [SS, argList, aPut, aFill, ↓reduceIte, Nat.reduceEqDiff, Nat.reduceAdd, Nat.reduceLeDiff, reduceCtorEq, Int.reduceEq, Int.reduceLT, Int.reduceLE, Int.reduceNeg, Int.reduceAdd, Int.reduceSub, Int.reduceToNat]) | (refine AWP_cond_false ?_ ?_; · simp only [SS, argList, aPut, aFill, ↓reduceIte, Nat.reduceEqDiff, Nat.reduceAdd, Nat.reduceLeDiff, reduceCtorEq, Int.reduceEq, Int.reduceLT, Int.reduceLE, Int.reduceNeg, Int.reduceAdd, Int.reduceSub, Int.reduceToNat])); try simp only [SS, argList, aPut, aFill, ↓reduceIte, Nat.reduceEqDiff, Nat.reduceAdd, Nat.reduceLeDiff, reduceCtorEq, Int.reduceEq, Int.reduceLT, Int.reduceLE, Int.reduceNeg, Int.reduceAdd, Int.reduceSub, Int.reduceToNat])
            rfl
          · rintro k s2 ⟨rfl, hk⟩
            by_cases hkl : k < h.l.length
            · have hkl' : (k : Int) < (h.l.length : Int) := by omega
              obtain ⟨c, hck⟩ : ∃ c, h.l[k]? = some c := ⟨_, List.getElem?_eq_getElem hkl⟩
              have hgk : (h.l.map RC.cells)[k]? = some (RC.cells c) := by simp [hck]
              rcases hIn with rfl | ⟨_, e⟩
              · try simp only [SS, argList, aPut, aFill, ↓reduceIte, Nat.reduceEqDiff, Nat.reduceAdd, Nat.reduceLeDiff, reduceCtorEq, Int.reduceEq, Int.reduceLT, Int.reduceLE, Int.reduceNeg, Int.reduceAdd, Int.reduceSub, Int.reduceToNat, hbox, hlen, hkl', hgk, RC.cells]
                repeat ((with_reducible first | refine AWP_seq ?_ | refine AWP_block ?_ | refine AWP_scope ?_ | refine AWP_reg ?_ | refine AWP_draw ?_ | refine AWP_skip ?_ | refine AWP_ret ?_ | refine AWP_exit ?_ | (refine AWP_cond_true ?_ ?_; · simp only [SS, argList, aPut, aFill, ↓reduceIte, Nat.reduceEqDiff, Nat.reduceAdd, Nat.reduceLeDiff, reduceCtorEq, Int.reduceEq, Int.reduceLT, Int.reduceLE, Int.reduceNeg, Int.reduceAdd, Int.reduceSub, Int.reduceToNat, hbox, hlen, hkl', hgk, RC.cells]) | (refine AWP_cond_false ?_ ?_; · simp only [SS, argList, aPut, aFill, ↓reduceIte, Nat.reduceEqDiff, Nat.reduceAdd, Nat.reduceLeDiff, reduceCtorEq, Int.reduceEq, Int.reduceLT, Int.reduceLE, Int.reduceNeg, Int.reduceAdd, Int.reduceSub, Int.reduceToNat, hbox, hlen, hkl', hgk, RC.cells])); try simp only [SS, argList, aPut, aFill, ↓reduceIte, Nat.reduceEqDiff, Nat.reduceAdd, Nat.reduceLeDiff, reduceCtorEq, Int.reduceEq, Int.reduceLT, Int.reduceLE, Int.reduceNeg, Int.reduceAdd, Int.reduceSub, Int.reduceToNat, hbox, hlen, hkl', hgk, RC.cells])
                refine (lsame_ok hH hcp h (by omega) c.1 (hsz8 c.1) (hR.at_ _)).mono ?_
                rintro r s4 ⟨rfl, rfl⟩
                try simp only [SS, argList, aPut, aFill, ↓reduceIte, Nat.reduceEqDiff, Nat.reduceAdd, Nat.reduceLeDiff, reduceCtorEq, Int.reduceEq, Int.reduceLT, Int.reduceLE, Int.reduceNeg, Int.reduceAdd, Int.reduceSub, Int.reduceToNat, wrap_succ (i := k) (by omega)]
                repeat ((with_reducible first | refine AWP_seq ?_ | refine AWP_block ?_ | refine AWP_scope ?_ | refine AWP_reg ?_ | refine AWP_draw ?_ | refine AWP_skip ?_ | refine AWP_ret ?_ | refine AWP_exit ?_ | (refine AWP_cond_true ?_ ?_; · simp only [SS, argList, aPut, aFill, ↓reduceIte, Nat.reduceEqDiff, Nat.reduceAdd, Nat.reduceLeDiff, reduceCtorEq, Int.reduceEq, Int.reduceLT, Int.reduceLE, Int.reduceNeg, Int.reduceAdd, Int.reduceSub, Int.reduceToNat, wrap_succ (i := k) (by omega)]) | (refine AWP_cond_false ?_ ?_; · simp only [SS, argList, aPut, aFill, ↓reduceIte, Nat.reduceEqDiff, Nat.reduceAdd, Nat.reduceLeDiff, reduceCtorEq, Int.reduceEq, Int.reduceLT, Int.reduceLE, Int.reduceNeg, Int.reduceAdd, Int.reduceSub, Int.reduceToNat, wrap_succ (i := k) (by omega)])); try simp only [SS, argList, aPut, aFill, ↓reduceIte, Nat.reduceEqDiff, Nat.reduceAdd, Nat.reduceLeDiff, reduceCtorEq, Int.reduceEq, Int.reduceLT, Int.reduceLE, Int.reduceNeg, Int.reduceAdd, Int.reduceSub, Int.reduceToNat, wrap_succ (i := k) (by omega)])
                exact ⟨k + 1, rfl, by omega, by omega⟩
              · rw [e] at hkl; simp at hkl
            · have hkl' : ¬ (k : Int) < (h.l.length : Int) := by omega
              try simp only [SS, argList, aPut, aFill, ↓reduceIte, Nat.reduceEqDiff, Nat.reduceAdd, Nat.reduceLeDiff, reduceCtorEq, Int.reduceEq, Int.reduceLT, Int.reduceLE, Int.reduceNeg, Int.reduceAdd, Int.reduceSub, Int.reduceToNat, hbox, hlen, hkl']
              repeat ((with_reducible first | refine AWP_seq ?_ | refine AWP_block ?_ | refine AWP_scope ?_ | refine AWP_reg ?_ | refine AWP_draw ?_ | refine AWP_skip ?_ | refine AWP_ret ?_ | refine AWP_exit ?_ | (refine AWP_cond_true ?_ ?_; · simp only [SS, argList, aPut, aFill, ↓reduceIte, Nat.reduceEqDiff, Nat.reduceAdd, Nat.reduceLeDiff, reduceCtorEq, Int.reduceEq, Int.reduceLT, Int.reduceLE, Int.reduceNeg, Int.reduceAdd, Int.reduceSub, Int.reduceToNat, hbox, hlen, hkl']) | (refine AWP_cond_false ?_ ?_; · simp only [SS, argList, aPut, aFill, ↓reduceIte, Nat.reduceEqDiff, Nat.reduceAdd, Nat.reduceLeDiff, reduceCtorEq, Int.reduceEq, Int.reduceLT, Int.reduceLE, Int.reduceNeg, Int.reduceAdd, Int.reduceSub, Int.reduceToNat, hbox, hlen, hkl'])); try simp only [SS, argList, aPut, aFill, ↓reduceIte, Nat.reduceEqDiff, Nat.reduceAdd, Nat.reduceLeDiff, reduceCtorEq, Int.reduceEq, Int.reduceLT, Int.reduceLE, Int.reduceNeg, Int.reduceAdd, Int.reduceSub, Int.reduceToNat, hbox, hlen, hkl'])
              refine (known_ok s2).mono ?_
              rintro r s ⟨rfl, rfl⟩
              simp only [SS, argList, aPut, aFill, ↓reduceIte, Nat.reduceEqDiff, Nat.reduceAdd, Nat.reduceLeDiff, reduceCtorEq, Int.reduceEq, Int.reduceLT, Int.reduceLE, Int.reduceNeg, Int.reduceAdd, Int.reduceSub, Int.reduceToNat]
              try simp only [SS, argList, aPut, aFill, ↓reduceIte, Nat.reduceEqDiff, Nat.reduceAdd, Nat.reduceLeDiff, reduceCtorEq, Int.reduceEq, Int.reduceLT, Int.reduceLE, Int.reduceNeg, Int.reduceAdd, Int.reduceSub, Int.reduceToNat]
              repeat ((with_reducible first | refine AWP_seq ?_ | refine AWP_block ?_ | refine AWP_scope ?_ | refine AWP_reg ?_ | refine AWP_draw ?_ | refine AWP_skip ?_ | refine AWP_ret ?_ | refine AWP_exit ?_ | (refine AWP_cond_true ?_ ?_; · simp only [SS, argList, aPut, aFill, ↓reduceIte, Nat.reduceEqDiff, Nat.reduceAdd, Nat.reduceLeDiff, reduceCtorEq, Int.reduceEq, Int.reduceLT, Int.reduceLE, Int.reduceNeg, Int.reduceAdd, Int.reduceSub, Int.reduceToNat]) | (refine AWP_cond_false ?_ ?_; · simp only [SS, argList, aPut, aFill, ↓reduceIte, Nat.reduceEqDiff, Nat.reduceAdd, Nat.reduceLeDiff, reduceCtorEq, Int.reduceEq, Int.reduceLT, Int.reduceLE, Int.reduceNeg, Int.reduceAdd, Int.reduceSub, Int.reduceToNat])); try simp only [SS, argList, aPut, aFill, ↓reduceIte, Nat.reduceEqDiff, Nat.reduceAdd, Nat.reduceLeDiff, reduceCtorEq, Int.reduceEq, Int.reduceLT, Int.reduceLE, Int.reduceNeg, Int.reduceAdd, Int.reduceSub, Int.reduceToNat])
  · refine (new_bad σ cap hc).mono ?_
    rintro r s0 ⟨rfl, rfl⟩
    try simp only [SS, argList, aPut, aFill, ↓reduceIte, Nat.reduceEqDiff, Nat.reduceAdd, Nat.reduceLeDiff, reduceCtorEq, Int.reduceEq, Int.reduceLT, Int.reduceLE, Int.reduceNeg, Int.reduceAdd, Int.reduceSub, Int.reduceToNat]
    repeat ((with_reducible first | refine AWP_seq ?_ | refine AWP_block ?_ | refine AWP_scope ?_ | refine AWP_reg ?_ | refine AWP_draw ?_ | refine AWP_skip ?_ | refine AWP_ret ?_ | refine AWP_exit ?_ | (refine AWP_cond_true ?_ ?_; · simp only [SS, argList, aPut, aFill, ↓reduceIte, Nat.reduceEqDiff, Nat.reduceAdd, Nat.reduceLeDiff, reduceCtorEq, Int.reduceEq, Int.reduceLT, Int.reduceLE, Int.reduceNeg, Int.reduceAdd, Int.reduceSub, Int.reduceToNat]) | (refine AWP_cond_false ?_ ?_; · simp only [SS, argList, aPut, aFill, ↓reduceIte, Nat.reduceEqDiff, Nat.reduceAdd, Nat.reduceLeDiff, reduceCtorEq, Int.reduceEq, Int.reduceLT, Int.reduceLE, Int.reduceNeg, Int.reduceAdd, Int.reduceSub, Int.reduceToNat])); try simp only [SS, argList, aPut, aFill, ↓reduceIte, Nat.reduceEqDiff, Nat.reduceAdd, Nat.reduceLeDiff, reduceCtorEq, Int.reduceEq, Int.reduceLT, Int.reduceLE, Int.reduceNeg, Int.reduceAdd, Int.reduceSub, Int.reduceToNat])
    refine (right_ok s0 cap).mono ?_
    rintro r s ⟨rfl, rfl⟩
    simp only [SS, argList, aPut, aFill, ↓reduceIte, Nat.reduceEqDiff, Nat.reduceAdd, Nat.reduceLeDiff, reduceCtorEq, Int.reduceEq, Int.reduceLT, Int.reduceLE, Int.reduceNeg, Int.reduceAdd, Int.reduceSub, Int.reduceToNat]
    try simp only [SS, argList, aPut, aFill, ↓reduceIte, Nat.reduceEqDiff, Nat.reduceAdd, Nat.reduceLeDiff, reduceCtorEq, Int.reduceEq, Int.reduceLT, Int.reduceLE, Int.reduceNeg, Int.reduceAdd, Int.reduceSub, Int.reduceToNat, hc]
    repeat ((with_reducible first | refine AWP_seq ?_ | refine AWP_block ?_ | refine AWP_scope ?_ | refine AWP_reg ?_ | refine AWP_draw ?_ | refine AWP_skip ?_ | refine AWP_ret ?_ | refine AWP_exit ?_ | (refine AWP_cond_true ?_ ?_; · simp only [SS, argList, aPut, aFill, ↓reduceIte, Nat.reduceEqDiff, Nat.reduceAdd, Nat.reduceLeDiff, reduceCtorEq, Int.reduceEq, Int.reduceLT, Int.reduceLE, Int.reduceNeg, Int.reduceAdd, Int.reduceSub, Int.reduceToNat, hc]) | (refine AWP_cond_false ?_ ?_; · simp only [SS, argList, aPut, aFill, ↓reduceIte, Nat.reduceEqDiff, Nat.reduceAdd, Nat.reduceLeDiff, reduceCtorEq, Int.reduceEq, Int.reduceLT, Int.reduceLE, Int.reduceNeg, Int.reduceAdd, Int.reduceSub, Int.reduceToNat, hc])); try simp only [SS, argList, aPut, aFill, ↓reduceIte, Nat.reduceEqDiff, Nat.reduceAdd, Nat.reduceLeDiff, reduceCtorEq, Int.reduceEq, Int.reduceLT, Int.reduceLE, Int.reduceNeg, Int.reduceAdd, Int.reduceSub, Int.reduceToNat, hc])
    refine (right_ok s cap).mono ?_
    rintro r s ⟨rfl, rfl⟩
    simp only [SS, argList, aPut, aFill, ↓reduceIte, Nat.reduceEqDiff, Nat.reduceAdd, Nat.reduceLeDiff, reduceCtorEq, Int.reduceEq, Int.reduceLT, Int.reduceLE, Int.reduceNeg, Int.reduceAdd, Int.reduceSub, Int.reduceToNat]
    try simp only [SS, argList, aPut, aFill, ↓reduceIte, Nat.reduceEqDiff, Nat.reduceAdd, Nat.reduceLeDiff, reduceCtorEq, Int.reduceEq, Int.reduceLT, Int.reduceLE, Int.reduceNeg, Int.reduceAdd, Int.reduceSub, Int.reduceToNat, hc]
    repeat ((with_reducible first | refine AWP_seq ?_ | refine AWP_block ?_ | refine AWP_scope ?_ | refine AWP_reg ?_ | refine AWP_draw ?_ | refine AWP_skip ?_ | refine AWP_ret ?_ | refine AWP_exit ?_ | (refine AWP_cond_true ?_ ?_; · simp only [SS, argList, aPut, aFill, ↓reduceIte, Nat.reduceEqDiff, Nat.reduceAdd, Nat.reduceLeDiff, reduceCtorEq, Int.reduceEq, Int.reduceLT, Int.reduceLE, Int.reduceNeg, Int.reduceAdd, Int.reduceSub, Int.reduceToNat, hc]) | (refine AWP_cond_false ?_ ?_; · simp only [SS, argList, aPut, aFill, ↓reduceIte, Nat.reduceEqDiff, Nat.reduceAdd, Nat.reduceLeDiff, reduceCtorEq, Int.reduceEq, Int.reduceLT, Int.reduceLE, Int.reduceNeg, Int.reduceAdd, Int.reduceSub, Int.reduceToNat, hc])); try simp only [SS, argList, aPut, aFill, ↓reduceIte, Nat.reduceEqDiff, Nat.reduceAdd, Nat.reduceLeDiff, reduceCtorEq, Int.reduceEq, Int.reduceLT, Int.reduceLE, Int.reduceNeg, Int.reduceAdd, Int.reduceSub, Int.reduceToNat, hc])
    refine (right_ok s cap).mono ?_
    rintro r s ⟨rfl, rfl⟩
    simp only [SS, argList, aPut, aFill, ↓reduceIte, Nat.reduceEqDiff, Nat.reduceAdd, Nat.reduceLeDiff, reduceCtorEq, Int.reduceEq, Int.reduceLT, Int.reduceLE, Int.reduceNeg, Int.reduceAdd, Int.reduceSub, Int.reduceToNat]
    try simp only [SS, argList, aPut, aFill, ↓reduceIte, Nat.reduceEqDiff, Nat.reduceAdd, Nat.reduceLeDiff, reduceCtorEq, Int.reduceEq, Int.reduceLT, Int.reduceLE, Int.reduceNeg, Int.reduceAdd, Int.reduceSub, Int.reduceToNat, hc]
    repeat ((with_reducible first | refine AWP_seq ?_ | refine AWP_block ?_ | refine AWP_scope ?_ | refine AWP_reg ?_ | refine AWP_draw ?_ | refine AWP_skip ?_ | refine AWP_ret ?_ | refine AWP_exit ?_ | (refine AWP_cond_true ?_ ?_; · simp only [SS, argList, aPut, aFill, ↓reduceIte, Nat.reduceEqDiff, Nat.reduceAdd, Nat.reduceLeDiff, reduceCtorEq, Int.reduceEq, Int.reduceLT, Int.reduceLE, Int.reduceNeg, Int.reduceAdd, Int.reduceSub, Int.reduceToNat, hc]) | (refine AWP_cond_false ?_ ?_; · simp only [SS, argList, aPut, aFill, ↓reduceIte, Nat.reduceEqDiff, Nat.reduceAdd, Nat.reduceLeDiff, reduceCtorEq, Int.reduceEq, Int.reduceLT, Int.reduceLE, Int.reduceNeg, Int.reduceAdd, Int.reduceSub, Int.reduceToNat, hc])); try simp only [SS, argList, aPut, aFill, ↓reduceIte, Nat.reduceEqDiff, Nat.reduceAdd, Nat.reduceLeDiff, reduceCtorEq, Int.reduceEq, Int.reduceLT, Int.reduceLE, Int.reduceNeg, Int.reduceAdd, Int.reduceSub, Int.reduceToNat, hc])
    refine (known_ok s).mono ?_
    rintro r s ⟨rfl, rfl⟩
    simp only [SS, argList, aPut, aFill, ↓reduceIte, Nat.reduceEqDiff, Nat.reduceAdd, Nat.reduceLeDiff, reduceCtorEq, Int.reduceEq, Int.reduceLT, Int.reduceLE, Int.reduceNeg, Int.reduceAdd, Int.reduceSub, Int.reduceToNat]
    try simp only [SS, argList, aPut, aFill, ↓reduceIte, Nat.reduceEqDiff, Nat.reduceAdd, Nat.reduceLeDiff, reduceCtorEq, Int.reduceEq, Int.reduceLT, Int.reduceLE, Int.reduceNeg, Int.reduceAdd, Int.reduceSub, Int.reduceToNat]
    repeat ((with_reducible first | refine AWP_seq ?_ | refine AWP_block ?_ | refine AWP_scope ?_ | refine AWP_reg ?_ | refine AWP_draw ?_ | refine AWP_skip ?_ | refine AWP_ret ?_ | refine AWP_exit ?_ | (refine AWP_cond_true ?_ ?_; · simp only [SS, argList, aPut, aFill, ↓reduceIte, Nat.reduceEqDiff, Nat.reduceAdd, Nat.reduceLeDiff, reduceCtorEq, Int.reduceEq, Int.reduceLT, Int.reduceLE, Int.reduceNeg, Int.reduceAdd, Int.reduceSub, Int.reduceToNat]) | (refine AWP_cond_false ?_ ?_; · simp only [SS, argList, aPut, aFill, ↓reduceIte, Nat.reduceEqDiff, Nat.reduceAdd, Nat.reduceLeDiff, reduceCtorEq, Int.reduceEq, Int.reduceLT, Int.reduceLE, Int.reduceNeg, Int.reduceAdd, Int.reduceSub, Int.reduceToNat])); try simp only [SS, argList, aPut, aFill, ↓reduceIte, Nat.reduceEqDiff, Nat.reduceAdd, Nat.reduceLeDiff, reduceCtorEq, Int.reduceEq, Int.reduceLT, Int.reduceLE, Int.reduceNeg, Int.reduceAdd, Int.reduceSub, Int.reduceToNat])
end Go.Proofs.Ytoejjhehpbmgbaa
