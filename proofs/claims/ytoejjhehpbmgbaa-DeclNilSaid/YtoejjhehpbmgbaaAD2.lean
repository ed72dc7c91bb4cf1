/- What field answers. -/
import Derived.Test.YtoejjhehpbmgbaaAD1
set_option linter.unusedVariables false
set_option linter.unusedSimpArgs false
namespace Go.AL
/-- The params of a table's data types, in a store. -/
def TP (σ : Store) (tid : Nat) (ps : List (ByteArray × Int)) : Prop := ∃ pm mc ov ty, σ.get tid = some (.cells ty 0 3 [[.map pm, mc, ov]]) ∧ σ.get pm = some (.map (ps.map fun p => (.str p.1, .int .i64 p.2)))
theorem TP.kp {σ s : Store} {tid : Nat} {ps : List (ByteArray × Int)} (h : TP σ tid ps) (k : Kp σ s) : TP s tid ps := by
  obtain ⟨pm, mc, ov, ty, h1, h2⟩ := h
  exact ⟨pm, mc, ov, ty, k.get h1, k.get h2⟩
theorem aFind_ps (ps : List (ByteArray × Int)) (k : ByteArray) : ∃ r, aFind .str (.str k) (ps.map fun p => (AV.str p.1, AV.int .i64 p.2)) 0 = some r ∧ r.isSome = (mget ps k).isSome ∧ findVal (.int .i64 0) r = .int .i64 ((mget ps k).getD 0) := by
  rcases aFind_str k (fun x v => v = AV.int .i64 x) ps (ps.map fun p => (AV.str p.1, AV.int .i64 p.2)) 0 (by simp) (fun j p e a b => by
    rw [List.getElem?_map, a] at b
    simp at b; subst b; exact ⟨rfl, rfl⟩) with ⟨h1, h2⟩ | ⟨x, v, j, h1, h2, h3⟩
  · exact ⟨none, h2, by rw [h1]; rfl, by rw [h1]; rfl⟩
  · exact ⟨some (j, v), h3, by rw [h1]; rfl, by subst h2; rw [h1]; rfl⟩
abbrev s0 : ByteArray := ⟨#[]⟩
mutual
/-- A field's type with its params by their places, and what is wrong with it. -/
def fieldM (ps : List (ByteArray × Int)) (params : List ByteArray) : Ty → Ty × Int
  | .mk k n s ts =>
    if k = 1 then (if placeM params s < 0 then (.mk k n s ts, 81) else (.mk 1 (placeM params s) s0 [], 0))
    else if k = 2 then
      match mget ps s with
      | none => (.mk k n s ts, 81)
      | some m => if m = ts.length then (match fieldsL ps params ts with | (l, 0) => (.mk 2 0 s l, 0) | (_, e) => (.mk k n s ts, e)) else (.mk k n s ts, 82)
    else if k = 3 then (if ts.length = 2 then (match fieldsL ps params ts with | (l, 0) => (.mk 3 0 s0 l, 0) | (_, e) => (.mk k n s ts, e)) else (.mk k n s ts, 82))
    else (.mk k n s ts, 82)
def fieldsL (ps : List (ByteArray × Int)) (params : List ByteArray) : List Ty → List Ty × Int
  | [] => ([], 0)
  | x :: r =>
    match fieldM ps params x with
    | (y, 0) => (match fieldsL ps params r with | (l, 0) => (y :: l, 0) | (_, e) => ([], e))
    | (_, e) => ([], e)
end
theorem fieldsL_cons {ps : List (ByteArray × Int)} {params : List ByteArray} {x : Ty} {r : List Ty} (h : (fieldM ps params x).2 = 0) : fieldsL ps params (x :: r) = if (fieldsL ps params r).2 = 0 then ((fieldM ps params x).1 :: (fieldsL ps params r).1, 0) else ([], (fieldsL ps params r).2) := by
  rw [fieldsL]
  generalize fieldM ps params x = p at h ⊢
  generalize fieldsL ps params r = q
  obtain ⟨y, e⟩ := p
  obtain ⟨l, e2⟩ := q
  simp only at h
  subst h
  by_cases h2 : e2 = 0
  · subst h2; simp
  · simp only [h2, if_false]
theorem fieldsL_bad {ps : List (ByteArray × Int)} {params : List ByteArray} {x : Ty} {r : List Ty} (h : (fieldM ps params x).2 ≠ 0) : fieldsL ps params (x :: r) = ([], (fieldM ps params x).2) := by
  rw [fieldsL]
  generalize fieldM ps params x = p at h ⊢
  obtain ⟨y, e⟩ := p
  simp only at h
  split <;> simp_all
/-- What the first ones come to. -/
theorem fieldsL_split {ps : List (ByteArray × Int)} {params : List ByteArray} : ∀ (l : List Ty), (∀ x, x ∈ l → (fieldM ps params x).2 = 0) → fieldsL ps params l = (l.map fun x => (fieldM ps params x).1, 0)
  | [], _ => by rw [fieldsL]; rfl
  | x :: l, h => by rw [fieldsL_cons (h x (by simp)), fieldsL_split l fun y hy => h y (by simp [hy])]; simp
theorem fieldsL_stop {ps : List (ByteArray × Int)} {params : List ByteArray} : ∀ (l : List Ty) (x : Ty) (r : List Ty), (∀ x, x ∈ l → (fieldM ps params x).2 = 0) → (fieldM ps params x).2 ≠ 0 → fieldsL ps params (l ++ x :: r) = ([], (fieldM ps params x).2)
  | [], x, r, _, h => fieldsL_bad h
  | y :: l, x, r, h, hx => by rw [List.cons_append, fieldsL_cons (h y (by simp)), fieldsL_stop l x r (fun z hz => h z (by simp [hz])) hx]; simp [hx]
end Go.AL
namespace Go.Proofs.Ytoejjhehpbmgbaa
open Go.AL
theorem field_ok {tid : Nat} {ps : List (ByteArray × Int)} (hps : ∀ p, p ∈ ps → 0 ≤ p.2 ∧ p.2 ≤ 1000000) {params : List ByteArray} (hpl : params.length ≤ 1000000) (x : Ty) : ∀ σ : Store, TP σ tid ps →
    ACalls Try.prog 59 [.ptr tid 0 0 0, strs params, .agg x.cells] σ fun r σ' => r = .tuple [.agg (fieldM ps params x).1.cells, .int .i64 (fieldM ps params x).2] ∧ σ' = σ := by
  induction x using Ty.ind with
  | _ k n s ts ih =>
    intro σ hTP
    have hcl : ∀ (y : Ty) (e : Int), Cln σ.next (.tuple [.agg y.cells, .int .i64 e]) := fun y e => .tuple' fun c hc => by
      simp at hc
      rcases hc with rfl | rfl
      · exact .agg' y.cln
      · exact .int _ _
    refine ACalls_fp (p := fun r => r = .tuple [.agg (fieldM ps params (.mk k n s ts)).1.cells, .int .i64 (fieldM ps params (.mk k n s ts)).2]) ?_
    have same : ∀ (t : Store) (e : Int), Kp σ t → fieldM ps params (.mk k n s ts) = (.mk k n s ts, e) → FP σ (fun r => r = .tuple [.agg (fieldM ps params (.mk k n s ts)).1.cells, .int .i64 (fieldM ps params (.mk k n s ts)).2]) (.tuple [.agg [.int .i64 k, .int .i64 n, .str s, .list (ts.map Ty.cells)], .int .i64 e]) t := by
      intro t e hk hR
      rw [hR]
      refine FP.same hk (by rw [Ty.cells_eq]) ?_
      have := hcl (.mk k n s ts) e
      rw [Ty.cells_eq] at this; exact this
    rw [Ty.cells_eq]
    refine in59 (by simp) ?_
    unfold c59
    try simp only [SS, argList, aPut, aFill, ↓reduceIte, Nat.reduceEqDiff, Nat.reduceAdd, Nat.reduceLeDiff, reduceCtorEq, Int.reduceEq, Int.reduceLT, Int.reduceLE, Int.reduceNeg, Int.reduceAdd, Int.reduceSub, Int.reduceToNat]
    repeat ((with_reducible first | refine AWP_seq ?_ | refine AWP_block ?_ | refine AWP_scope ?_ | refine AWP_reg ?_ | refine AWP_draw ?_ | refine AWP_skip ?_ | refine AWP_ret ?_ | refine AWP_exit ?_ | (refine AWP_cond_true ?_ ?_; · simp only [SS, argList, aPut, aFill, ↓reduceIte, Nat.reduceEqDiff, Nat.reduceAdd, Nat.reduceLeDiff, reduceCtorEq, Int.reduceEq, Int.reduceLT, Int.reduceLE, Int.reduceNeg, Int.reduceAdd, Int.reduceSub, Int.reduceToNat]) | (refine AWP_cond_false ?_ ?_; · simp only [SS, argList, aPut, aFill, ↓reduceIte, Nat.reduceEqDiff, Nat.reduceAdd, Nat.reduceLeDiff, reduceCtorEq, Int.reduceEq, Int.reduceLT, Int.reduceLE, Int.reduceNeg, Int.reduceAdd, Int.reduceSub, Int.reduceToNat])); try simp only [SS, argList, aPut, aFill, ↓reduceIte, Nat.reduceEqDiff, Nat.reduceAdd, Nat.reduceLeDiff, reduceCtorEq, Int.reduceEq, Int.reduceLT, Int.reduceLE, Int.reduceNeg, Int.reduceAdd, Int.reduceSub, Int.reduceToNat])
    generalize ht0 : Store.push _ _ = t0
    have e0 : t0.get σ.next = some (.cells 85 0 4 [[.int .i64 k, .int .i64 n, .str s, .list (ts.map Ty.cells)]]) := by rw [← ht0]; simp [Store.push_get, Store.push_next]
    have e1 : t0.get (σ.next + 1) = some (.cells 85 0 4 [[.int .i64 0, .int .i64 0, .str ⟨#[]⟩, .nils]]) := by rw [← ht0]; simp [Store.push_get, Store.push_next]
    have k0 : Kp σ t0 := by rw [← ht0]; exact ((Kp.refl σ).push _).push _
    have n0 : t0.next = σ.next + 2 := by rw [← ht0]; simp [Store.push_next]
    clear ht0
    have l0 : σ.next < t0.next := by omega
    have l1 : σ.next + 1 < t0.next := by omega
    have ku : ∀ o, Kp σ (t0.upd (σ.next + 1) o) := fun o => k0.upd (by omega) o
    by_cases hk1 : k = 1
    · subst hk1
      try simp only [SS, argList, aPut, aFill, ↓reduceIte, Nat.reduceEqDiff, Nat.reduceAdd, Nat.reduceLeDiff, reduceCtorEq, Int.reduceEq, Int.reduceLT, Int.reduceLE, Int.reduceNeg, Int.reduceAdd, Int.reduceSub, Int.reduceToNat, e0]
      repeat ((with_reducible first | refine AWP_seq ?_ | refine AWP_block ?_ | refine AWP_scope ?_ | refine AWP_reg ?_ | refine AWP_draw ?_ | refine AWP_skip ?_ | refine AWP_ret ?_ | refine AWP_exit ?_ | (refine AWP_cond_true ?_ ?_; · simp only [SS, argList, aPut, aFill, ↓reduceIte, Nat.reduceEqDiff, Nat.reduceAdd, Nat.reduceLeDiff, reduceCtorEq, Int.reduceEq, Int.reduceLT, Int.reduceLE, Int.reduceNeg, Int.reduceAdd, Int.reduceSub, Int.reduceToNat, e0]) | (refine AWP_cond_false ?_ ?_; · simp only [SS, argList, aPut, aFill, ↓reduceIte, Nat.reduceEqDiff, Nat.reduceAdd, Nat.reduceLeDiff, reduceCtorEq, Int.reduceEq, Int.reduceLT, Int.reduceLE, Int.reduceNeg, Int.reduceAdd, Int.reduceSub, Int.reduceToNat, e0])); try simp only [SS, argList, aPut, aFill, ↓reduceIte, Nat.reduceEqDiff, Nat.reduceAdd, Nat.reduceLeDiff, reduceCtorEq, Int.reduceEq, Int.reduceLT, Int.reduceLE, Int.reduceNeg, Int.reduceAdd, Int.reduceSub, Int.reduceToNat, e0])
      refine (place_ok t0 (Rds.list t0 (by simp)) (by omega) s).mono ?_
      rintro r t ⟨rfl, rfl⟩
      by_cases hp : placeM params s < 0
      · try simp only [SS, argList, aPut, aFill, ↓reduceIte, Nat.reduceEqDiff, Nat.reduceAdd, Nat.reduceLeDiff, reduceCtorEq, Int.reduceEq, Int.reduceLT, Int.reduceLE, Int.reduceNeg, Int.reduceAdd, Int.reduceSub, Int.reduceToNat, hp, e0, e1, Store.get_upd _ _ l1]
        repeat ((with_reducible first | refine AWP_seq ?_ | refine AWP_block ?_ | refine AWP_scope ?_ | refine AWP_reg ?_ | refine AWP_draw ?_ | refine AWP_skip ?_ | refine AWP_ret ?_ | refine AWP_exit ?_ | (refine AWP_cond_true ?_ ?_; · simp only [SS, argList, aPut, aFill, ↓reduceIte, Nat.reduceEqDiff, Nat.reduceAdd, Nat.reduceLeDiff, reduceCtorEq, Int.reduceEq, Int.reduceLT, Int.reduceLE, Int.reduceNeg, Int.reduceAdd, Int.reduceSub, Int.reduceToNat, hp, e0, e1, Store.get_upd _ _ l1]) | (refine AWP_cond_false ?_ ?_; · simp only [SS, argList, aPut, aFill, ↓reduceIte, Nat.reduceEqDiff, Nat.reduceAdd, Nat.reduceLeDiff, reduceCtorEq, Int.reduceEq, Int.reduceLT, Int.reduceLE, Int.reduceNeg, Int.reduceAdd, Int.reduceSub, Int.reduceToNat, hp, e0, e1, Store.get_upd _ _ l1])); try simp only [SS, argList, aPut, aFill, ↓reduceIte, Nat.reduceEqDiff, Nat.reduceAdd, Nat.reduceLeDiff, reduceCtorEq, Int.reduceEq, Int.reduceLT, Int.reduceLE, Int.reduceNeg, Int.reduceAdd, Int.reduceSub, Int.reduceToNat, hp, e0, e1, Store.get_upd _ _ l1])
        exact same _ 81 (ku _) (by rw [fieldM]; simp [hp])
      · try simp only [SS, argList, aPut, aFill, ↓reduceIte, Nat.reduceEqDiff, Nat.reduceAdd, Nat.reduceLeDiff, reduceCtorEq, Int.reduceEq, Int.reduceLT, Int.reduceLE, Int.reduceNeg, Int.reduceAdd, Int.reduceSub, Int.reduceToNat, hp, e0, e1, Store.get_upd _ _ l1]
        repeat ((with_reducible first | refine AWP_seq ?_ | refine AWP_block ?_ | refine AWP_scope ?_ | refine AWP_reg ?_ | refine AWP_draw ?_ | refine AWP_skip ?_ | refine AWP_ret ?_ | refine AWP_exit ?_ | (refine AWP_cond_true ?_ ?_; · simp only [SS, argList, aPut, aFill, ↓reduceIte, Nat.reduceEqDiff, Nat.reduceAdd, Nat.reduceLeDiff, reduceCtorEq, Int.reduceEq, Int.reduceLT, Int.reduceLE, Int.reduceNeg, Int.reduceAdd, Int.reduceSub, Int.reduceToNat, hp, e0, e1, Store.get_upd _ _ l1]) | (refine AWP_cond_false ?_ ?_; · simp only [SS, argList, aPut, aFill, ↓reduceIte, Nat.reduceEqDiff, Nat.reduceAdd, Nat.reduceLeDiff, reduceCtorEq, Int.reduceEq, Int.reduceLT, Int.reduceLE, Int.reduceNeg, Int.reduceAdd, Int.reduceSub, Int.reduceToNat, hp, e0, e1, Store.get_upd _ _ l1])); try simp only [SS, argList, aPut, aFill, ↓reduceIte, Nat.reduceEqDiff, Nat.reduceAdd, Nat.reduceLeDiff, reduceCtorEq, Int.reduceEq, Int.reduceLT, Int.reduceLE, Int.reduceNeg, Int.reduceAdd, Int.reduceSub, Int.reduceToNat, hp, e0, e1, Store.get_upd _ _ l1])
        refine FP.mk (.tuple [.agg (Ty.mk 1 (placeM params s) s0 []).cells, .int .i64 0]) (.nil _ 0 0) ?_ (by rw [fieldM]; simp [hp]) (hcl _ _) (ku _) (by simp [slIds])
        rw [Ty.cells_eq]
        exact .tuple (.cons (.agg (.cons (.refl _) (.cons (.refl _) (.cons (.refl _) (.cons .here .nil))))) (.cons (.refl _) .nil))
    · by_cases hk2 : k = 2
      · subst hk2
        obtain ⟨pm, mc, ov, ty, hT1, hT2⟩ := hTP.kp k0
        obtain ⟨fr, hf1, hf2, hf3⟩ := aFind_ps ps s
        cases hm : mget ps s with
        | none =>
          rw [hm] at hf2 hf3
          try simp only [SS, argList, aPut, aFill, ↓reduceIte, Nat.reduceEqDiff, Nat.reduceAdd, Nat.reduceLeDiff, reduceCtorEq, Int.reduceEq, Int.reduceLT, Int.reduceLE, Int.reduceNeg, Int.reduceAdd, Int.reduceSub, Int.reduceToNat, e0, hT1, hT2, hf1, hf2, hf3, e1, Store.get_upd _ _ l1]
          repeat ((with_reducible first | refine AWP_seq ?_ | refine AWP_block ?_ | refine AWP_scope ?_ | refine AWP_reg ?_ | refine AWP_draw ?_ | refine AWP_skip ?_ | refine AWP_ret ?_ | refine AWP_exit ?_ | (refine AWP_cond_true ?_ ?_; · simp only [SS, argList, aPut, aFill, ↓reduceIte, Nat.reduceEqDiff, Nat.reduceAdd, Nat.reduceLeDiff, reduceCtorEq, Int.reduceEq, Int.reduceLT, Int.reduceLE, Int.reduceNeg, Int.reduceAdd, Int.reduceSub, Int.reduceToNat, e0, hT1, hT2, hf1, hf2, hf3, e1, Store.get_upd _ _ l1]) | (refine AWP_cond_false ?_ ?_; · simp only [SS, argList, aPut, aFill, ↓reduceIte, Nat.reduceEqDiff, Nat.reduceAdd, Nat.reduceLeDiff, reduceCtorEq, Int.reduceEq, Int.reduceLT, Int.reduceLE, Int.reduceNeg, Int.reduceAdd, Int.reduceSub, Int.reduceToNat, e0, hT1, hT2, hf1, hf2, hf3, e1, Store.get_upd _ _ l1])); try simp only [SS, argList, aPut, aFill, ↓reduceIte, Nat.reduceEqDiff, Nat.reduceAdd, Nat.reduceLeDiff, reduceCtorEq, Int.reduceEq, Int.reduceLT, Int.reduceLE, Int.reduceNeg, Int.reduceAdd, Int.reduceSub, Int.reduceToNat, e0, hT1, hT2, hf1, hf2, hf3, e1, Store.get_upd _ _ l1])
          exact same _ 81 (ku _) (by rw [fieldM]; simp [hm])
        | some m =>
          rw [hm] at hf2 hf3
          by_cases hml : m = (ts.length : Int)
          · have hmb := hps _ (mget_mem hm)
            simp only at hmb
            have hkl : ts.length ≤ 1000000 := by omega
            have hM : fieldM ps params (.mk 2 n s ts) = match fieldsL ps params ts with | (l, 0) => (.mk 2 0 s l, 0) | (_, e) => (.mk 2 n s ts, e) := by rw [fieldM]; simp [hm, hml]
            have hf3' : findVal (.int .i64 0) fr = .int .i64 (ts.length : Int) := by rw [hf3, ← hml]; rfl
            have hx2 : (σ.next + 1 + 1 = t0.next) = True := by simp; omega
            try simp only [SS, argList, aPut, aFill, ↓reduceIte, Nat.reduceEqDiff, Nat.reduceAdd, Nat.reduceLeDiff, reduceCtorEq, Int.reduceEq, Int.reduceLT, Int.reduceLE, Int.reduceNeg, Int.reduceAdd, Int.reduceSub, Int.reduceToNat, e0, hT1, hT2, hf1, hf2, hf3', e1, Store.get_upd _ _ l1, lt_ne l0, lt_ne l1]
            repeat ((with_reducible first | refine AWP_seq ?_ | refine AWP_block ?_ | refine AWP_scope ?_ | refine AWP_reg ?_ | refine AWP_draw ?_ | refine AWP_skip ?_ | refine AWP_ret ?_ | refine AWP_exit ?_ | (refine AWP_cond_true ?_ ?_; · simp only [SS, argList, aPut, aFill, ↓reduceIte, Nat.reduceEqDiff, Nat.reduceAdd, Nat.reduceLeDiff, reduceCtorEq, Int.reduceEq, Int.reduceLT, Int.reduceLE, Int.reduceNeg, Int.reduceAdd, Int.reduceSub, Int.reduceToNat, e0, hT1, hT2, hf1, hf2, hf3', e1, Store.get_upd _ _ l1, lt_ne l0, lt_ne l1]) | (refine AWP_cond_false ?_ ?_; · simp only [SS, argList, aPut, aFill, ↓reduceIte, Nat.reduceEqDiff, Nat.reduceAdd, Nat.reduceLeDiff, reduceCtorEq, Int.reduceEq, Int.reduceLT, Int.reduceLE, Int.reduceNeg, Int.reduceAdd, Int.reduceSub, Int.reduceToNat, e0, hT1, hT2, hf1, hf2, hf3', e1, Store.get_upd _ _ l1, lt_ne l0, lt_ne l1])); try simp only [SS, argList, aPut, aFill, ↓reduceIte, Nat.reduceEqDiff, Nat.reduceAdd, Nat.reduceLeDiff, reduceCtorEq, Int.reduceEq, Int.reduceLT, Int.reduceLE, Int.reduceNeg, Int.reduceAdd, Int.reduceSub, Int.reduceToNat, e0, hT1, hT2, hf1, hf2, hf3', e1, Store.get_upd _ _ l1, lt_ne l0, lt_ne l1])
            have nn : ¬ t0.next = σ.next ∧ ¬ t0.next = σ.next + 1 := by omega
            refine AWP_while [0, 1, 5, 6, 11, 68, 69, 70] (fun y : AV × Nat => ts.length - y.2) (fun y => [.ptr tid 0 0 0, strs params, .ptr σ.next 0 0 0, .ptr (σ.next + 1) 0 0 0, .ptr t0.next 0 0 0, .list (ts.map Ty.cells), .int .i64 ts.length, .int .i64 y.2])
              (fun y t => y.2 ≤ ts.length ∧ (∀ x, x ∈ ts.take y.2 → (fieldM ps params x).2 = 0) ∧ Grow t0 t y.1 85 4 ((ts.take y.2).map fun x => (fieldM ps params x).1.cells) ∧ t.get t0.next = some (.cells 85 0 4 [[.int .i64 2, .int .i64 0, .str s, y.1]]) ∧ ¬ t0.next ∈ slIds y.1 ∧ t0.next < t.next)
              (.nils, 0) ⟨by simp, by simp, (Grow.start _ _ _).push _, by simp [Store.push_get], by simp [slIds], by simp [Store.push_next]⟩ ?_ ?_
            · try simp only [SS, argList, aPut, aFill, ↓reduceIte, Nat.reduceEqDiff, Nat.reduceAdd, Nat.reduceLeDiff, reduceCtorEq, Int.reduceEq, Int.reduceLT, Int.reduceLE, Int.reduceNeg, Int.reduceAdd, Int.reduceSub, Int.reduceToNat]
              repeat ((with_reducible first | refine AWP_seq ?_ | refine AWP_block ?_ | refine AWP_scope ?_ | refine AWP_reg ?_ | refine AWP_draw ?_ | refine AWP_skip ?_ | refine AWP_ret ?_ | refine AWP_exit ?_ | (refine AWP_cond_true ?_ ?_; · simp only [SS, argList, aPut, aFill, ↓reduceIte, Nat.reduceEqDiff, Nat.reduceAdd, Nat.reduceLeDiff, reduceCtorEq, Int.reduceEq, Int.reduceLT, Int.reduceLE, Int.reduceNeg, Int.reduceAdd, Int.reduceSub, Int.reduceToNat]) | (refine AWP_cond_false ?_ ?_; · simp only [SS, argList, aPut, aFill, ↓reduceIte, Nat.reduceEqDiff, Nat.reduceAdd, Nat.reduceLeDiff, reduceCtorEq, Int.reduceEq, Int.reduceLT, Int.reduceLE, Int.reduceNeg, Int.reduceAdd, Int.reduceSub, Int.reduceToNat])); try simp only [SS, argList, aPut, aFill, ↓reduceIte, Nat.reduceEqDiff, Nat.reduceAdd, Nat.reduceLeDiff, reduceCtorEq, Int.reduceEq, Int.reduceLT, Int.reduceLE, Int.reduceNeg, Int.reduceAdd, Int.reduceSub, Int.reduceToNat])
              first | rfl | simp [hl2]
            · rintro ⟨v, i⟩ t ⟨hi, hall, hG, hb, hv, hn⟩
              simp only at hi hall hG hb hv
              have f0 := hG.kp.get e0
              have f1 := hG.kp.get e1
              have m0 : σ.next < t.next := t.lt f0
              have m1 : σ.next + 1 < t.next := t.lt f1
              by_cases hil : i < ts.length
              · have hil' : (i : Int) < (ts.length : Int) := by omega
                obtain ⟨x, hx⟩ : ∃ x, ts[i]? = some x := ⟨_, List.getElem?_eq_getElem hil⟩
                have hg : (ts.map Ty.cells)[i]? = some x.cells := by simp [hx]
                have hxl := x.len
                have hxm := List.mem_of_getElem? hx
                have htake : List.take 4 x.cells = x.cells := List.take_of_length_le (by omega)
                have h44 : (4 ≤ x.cells.length) = True := by simp [hxl]
                try simp only [SS, argList, aPut, aFill, ↓reduceIte, Nat.reduceEqDiff, Nat.reduceAdd, Nat.reduceLeDiff, reduceCtorEq, Int.reduceEq, Int.reduceLT, Int.reduceLE, Int.reduceNeg, Int.reduceAdd, Int.reduceSub, Int.reduceToNat, hil', hg, hxl, htake, h44]
                repeat ((with_reducible first | refine AWP_seq ?_ | refine AWP_block ?_ | refine AWP_scope ?_ | refine AWP_reg ?_ | refine AWP_draw ?_ | refine AWP_skip ?_ | refine AWP_ret ?_ | refine AWP_exit ?_ | (refine AWP_cond_true ?_ ?_; · simp only [SS, argList, aPut, aFill, ↓reduceIte, Nat.reduceEqDiff, Nat.reduceAdd, Nat.reduceLeDiff, reduceCtorEq, Int.reduceEq, Int.reduceLT, Int.reduceLE, Int.reduceNeg, Int.reduceAdd, Int.reduceSub, Int.reduceToNat, hil', hg, hxl, htake, h44]) | (refine AWP_cond_false ?_ ?_; · simp only [SS, argList, aPut, aFill, ↓reduceIte, Nat.reduceEqDiff, Nat.reduceAdd, Nat.reduceLeDiff, reduceCtorEq, Int.reduceEq, Int.reduceLT, Int.reduceLE, Int.reduceNeg, Int.reduceAdd, Int.reduceSub, Int.reduceToNat, hil', hg, hxl, htake, h44])); try simp only [SS, argList, aPut, aFill, ↓reduceIte, Nat.reduceEqDiff, Nat.reduceAdd, Nat.reduceLeDiff, reduceCtorEq, Int.reduceEq, Int.reduceLT, Int.reduceLE, Int.reduceNeg, Int.reduceAdd, Int.reduceSub, Int.reduceToNat, hil', hg, hxl, htake, h44])
                refine (ih x hxm _ (((hTP.kp k0).kp hG.kp).kp (.pushed _ _))).mono ?_
                rintro r t2 ⟨rfl, rfl⟩
                have hkt := (Kp.pushed t (.cells 85 0 4 [x.cells])).push (.cells 85 0 4 [(fieldM ps params x).1.cells])
                have hzl := (fieldM ps params x).1.len
                have htake2 : List.take 4 (fieldM ps params x).1.cells = (fieldM ps params x).1.cells := List.take_of_length_le (by omega)
                have h442 : (4 ≤ (fieldM ps params x).1.cells.length) = True := by simp [hzl]
                by_cases hee : (fieldM ps params x).2 = 0
                · have q1 := lt_ne hn
                  have q2 : (t0.next = t.next + 1) = False := by simp; omega
                  try simp only [SS, argList, aPut, aFill, ↓reduceIte, Nat.reduceEqDiff, Nat.reduceAdd, Nat.reduceLeDiff, reduceCtorEq, Int.reduceEq, Int.reduceLT, Int.reduceLE, Int.reduceNeg, Int.reduceAdd, Int.reduceSub, Int.reduceToNat, hzl, htake2, h442, hee, hb, q1, q2]
                  repeat ((with_reducible first | refine AWP_seq ?_ | refine AWP_block ?_ | refine AWP_scope ?_ | refine AWP_reg ?_ | refine AWP_draw ?_ | refine AWP_skip ?_ | refine AWP_ret ?_ | refine AWP_exit ?_ | (refine AWP_cond_true ?_ ?_; · simp only [SS, argList, aPut, aFill, ↓reduceIte, Nat.reduceEqDiff, Nat.reduceAdd, Nat.reduceLeDiff, reduceCtorEq, Int.reduceEq, Int.reduceLT, Int.reduceLE, Int.reduceNeg, Int.reduceAdd, Int.reduceSub, Int.reduceToNat, hzl, htake2, h442, hee, hb, q1, q2]) | (refine AWP_cond_false ?_ ?_; · simp only [SS, argList, aPut, aFill, ↓reduceIte, Nat.reduceEqDiff, Nat.reduceAdd, Nat.reduceLeDiff, reduceCtorEq, Int.reduceEq, Int.reduceLT, Int.reduceLE, Int.reduceNeg, Int.reduceAdd, Int.reduceSub, Int.reduceToNat, hzl, htake2, h442, hee, hb, q1, q2])); try simp only [SS, argList, aPut, aFill, ↓reduceIte, Nat.reduceEqDiff, Nat.reduceAdd, Nat.reduceLeDiff, reduceCtorEq, Int.reduceEq, Int.reduceLT, Int.reduceLE, Int.reduceNeg, Int.reduceAdd, Int.reduceSub, Int.reduceToNat, hzl, htake2, h442, hee, hb, q1, q2])
                  refine ok_grow2 (hG.keep hkt) (by simp [hzl]) (by simp; omega) (by simp [maxLen]; omega) ?_
                  intro v' t3 hG3 hkeep hnx hsl
                  have hb3 : t3.get t0.next = some (.cells 85 0 4 [[.int .i64 2, .int .i64 0, .str s, v]]) := by rw [hkeep _ (by simp only [Store.push_next]; omega) hv]; exact hkt.get hb
                  have m3 : t0.next < t3.next := t3.lt hb3
                  try simp only [SS, argList, aPut, aFill, ↓reduceIte, Nat.reduceEqDiff, Nat.reduceAdd, Nat.reduceLeDiff, reduceCtorEq, Int.reduceEq, Int.reduceLT, Int.reduceLE, Int.reduceNeg, Int.reduceAdd, Int.reduceSub, Int.reduceToNat, hb3, hG3.sl.co, wrap_succ (i := i) (by omega)]
                  repeat ((with_reducible first | refine AWP_seq ?_ | refine AWP_block ?_ | refine AWP_scope ?_ | refine AWP_reg ?_ | refine AWP_draw ?_ | refine AWP_skip ?_ | refine AWP_ret ?_ | refine AWP_exit ?_ | (refine AWP_cond_true ?_ ?_; · simp only [SS, argList, aPut, aFill, ↓reduceIte, Nat.reduceEqDiff, Nat.reduceAdd, Nat.reduceLeDiff, reduceCtorEq, Int.reduceEq, Int.reduceLT, Int.reduceLE, Int.reduceNeg, Int.reduceAdd, Int.reduceSub, Int.reduceToNat, hb3, hG3.sl.co, wrap_succ (i := i) (by omega)]) | (refine AWP_cond_false ?_ ?_; · simp only [SS, argList, aPut, aFill, ↓reduceIte, Nat.reduceEqDiff, Nat.reduceAdd, Nat.reduceLeDiff, reduceCtorEq, Int.reduceEq, Int.reduceLT, Int.reduceLE, Int.reduceNeg, Int.reduceAdd, Int.reduceSub, Int.reduceToNat, hb3, hG3.sl.co, wrap_succ (i := i) (by omega)])); try simp only [SS, argList, aPut, aFill, ↓reduceIte, Nat.reduceEqDiff, Nat.reduceAdd, Nat.reduceLeDiff, reduceCtorEq, Int.reduceEq, Int.reduceLT, Int.reduceLE, Int.reduceNeg, Int.reduceAdd, Int.reduceSub, Int.reduceToNat, hb3, hG3.sl.co, wrap_succ (i := i) (by omega)])
                  refine ⟨(v', i + 1), rfl, ⟨by simp only; omega, fun z hz => ?_, ?_, Store.get_upd_self _ _ m3, ?_, by simpa using m3⟩, by simp only; omega⟩
                  · simp only [List.take_add_one, hx] at hz
                    simp at hz
                    rcases hz with hz | rfl
                    · exact hall z hz
                    · exact hee
                  · have : (ts.take (i + 1)).map (fun x => (fieldM ps params x).1.cells) = (ts.take i).map (fun x => (fieldM ps params x).1.cells) ++ [(fieldM ps params x).1.cells] := by rw [List.take_add_one, hx]; simp
                    simp only [this]
                    refine ⟨hG3.kp.upd (Nat.le_refl _) _, hG3.sl.keep fun j hj => Store.get_upd_ne _ _ fun e => ?_, hG3.fresh⟩
                    subst e
                    rcases hsl _ hj with h | h
                    · exact hv h
                    · simp only [Store.push_next] at h; omega
                  · intro hm
                    rcases hsl _ hm with h | h
                    · exact hv h
                    · simp only [Store.push_next] at h; omega
                · have q3 := lt_ne m0
                  have q4 : (σ.next = t.next + 1) = False := by simp; omega
                  have q5 := lt_ne m1
                  have q6 : (σ.next + 1 = t.next + 1) = False := by simp; omega
                  have u1 : σ.next + 1 < (t.push (.cells 85 0 4 [x.cells])).next := by simp only [Store.push_next]; omega
                  try simp only [SS, argList, aPut, aFill, ↓reduceIte, Nat.reduceEqDiff, Nat.reduceAdd, Nat.reduceLeDiff, reduceCtorEq, Int.reduceEq, Int.reduceLT, Int.reduceLE, Int.reduceNeg, Int.reduceAdd, Int.reduceSub, Int.reduceToNat, hzl, htake2, h442, hee, f0, f1, q3, q4, q5, q6, Store.get_upd _ _ m1]
                  repeat ((with_reducible first | refine AWP_seq ?_ | refine AWP_block ?_ | refine AWP_scope ?_ | refine AWP_reg ?_ | refine AWP_draw ?_ | refine AWP_skip ?_ | refine AWP_ret ?_ | refine AWP_exit ?_ | (refine AWP_cond_true ?_ ?_; · simp only [SS, argList, aPut, aFill, ↓reduceIte, Nat.reduceEqDiff, Nat.reduceAdd, Nat.reduceLeDiff, reduceCtorEq, Int.reduceEq, Int.reduceLT, Int.reduceLE, Int.reduceNeg, Int.reduceAdd, Int.reduceSub, Int.reduceToNat, hzl, htake2, h442, hee, f0, f1, q3, q4, q5, q6, Store.get_upd _ _ m1]) | (refine AWP_cond_false ?_ ?_; · simp only [SS, argList, aPut, aFill, ↓reduceIte, Nat.reduceEqDiff, Nat.reduceAdd, Nat.reduceLeDiff, reduceCtorEq, Int.reduceEq, Int.reduceLT, Int.reduceLE, Int.reduceNeg, Int.reduceAdd, Int.reduceSub, Int.reduceToNat, hzl, htake2, h442, hee, f0, f1, q3, q4, q5, q6, Store.get_upd _ _ m1])); try simp only [SS, argList, aPut, aFill, ↓reduceIte, Nat.reduceEqDiff, Nat.reduceAdd, Nat.reduceLeDiff, reduceCtorEq, Int.reduceEq, Int.reduceLT, Int.reduceLE, Int.reduceNeg, Int.reduceAdd, Int.reduceSub, Int.reduceToNat, hzl, htake2, h442, hee, f0, f1, q3, q4, q5, q6, Store.get_upd _ _ m1])
                  refine same _ _ (((k0.trans hG.kp).upd (by omega) _ |>.push _).push _) ?_
                  have hsp : ts = ts.take i ++ x :: ts.drop (i + 1) := by
                    have := List.take_append_drop i ts
                    rw [List.drop_eq_getElem_cons hil] at this
                    have e : ts[i] = x := by rw [List.getElem?_eq_getElem hil] at hx; exact Option.some.inj hx
                    rw [e] at this; exact this.symm
                  rw [hM, hsp, fieldsL_stop _ _ _ hall hee]
                  split
                  · rename_i l h1; simp only [Prod.mk.injEq] at h1; exact absurd h1.2 hee
                  · rename_i h1; simp only [Prod.mk.injEq] at h1; rw [← h1.2]
              · have hil' : ¬ (i : Int) < (ts.length : Int) := by omega
                rw [List.take_of_length_le (by omega)] at hG hall
                try simp only [SS, argList, aPut, aFill, ↓reduceIte, Nat.reduceEqDiff, Nat.reduceAdd, Nat.reduceLeDiff, reduceCtorEq, Int.reduceEq, Int.reduceLT, Int.reduceLE, Int.reduceNeg, Int.reduceAdd, Int.reduceSub, Int.reduceToNat, hil', hb, f1, Store.get_upd _ _ m1]
                repeat ((with_reducible first | refine AWP_seq ?_ | refine AWP_block ?_ | refine AWP_scope ?_ | refine AWP_reg ?_ | refine AWP_draw ?_ | refine AWP_skip ?_ | refine AWP_ret ?_ | refine AWP_exit ?_ | (refine AWP_cond_true ?_ ?_; · simp only [SS, argList, aPut, aFill, ↓reduceIte, Nat.reduceEqDiff, Nat.reduceAdd, Nat.reduceLeDiff, reduceCtorEq, Int.reduceEq, Int.reduceLT, Int.reduceLE, Int.reduceNeg, Int.reduceAdd, Int.reduceSub, Int.reduceToNat, hil', hb, f1, Store.get_upd _ _ m1]) | (refine AWP_cond_false ?_ ?_; · simp only [SS, argList, aPut, aFill, ↓reduceIte, Nat.reduceEqDiff, Nat.reduceAdd, Nat.reduceLeDiff, reduceCtorEq, Int.reduceEq, Int.reduceLT, Int.reduceLE, Int.reduceNeg, Int.reduceAdd, Int.reduceSub, Int.reduceToNat, hil', hb, f1, Store.get_upd _ _ m1])); try simp only [SS, argList, aPut, aFill, ↓reduceIte, Nat.reduceEqDiff, Nat.reduceAdd, Nat.reduceLeDiff, reduceCtorEq, Int.reduceEq, Int.reduceLT, Int.reduceLE, Int.reduceNeg, Int.reduceAdd, Int.reduceSub, Int.reduceToNat, hil', hb, f1, Store.get_upd _ _ m1])
                have hM' : fieldM ps params (.mk 2 n s ts) = (.mk 2 0 s (ts.map fun x => (fieldM ps params x).1), 0) := by rw [hM, fieldsL_split _ hall]; first | rfl | simp
                refine FP.mk (.tuple [.agg (Ty.mk 2 0 s (ts.map fun x => (fieldM ps params x).1)).cells, .int .i64 0]) (hG.sl.keep fun j hj => Store.get_upd_ne _ _ ?_) ?_ (by rw [hM']) (hcl _ _) ((k0.trans hG.kp).upd (by omega) _) (fun j hj => by have := hG.fresh j hj; omega)
                · have := hG.fresh j hj; omega
                · rw [Ty.cells_eq, List.map_map]
                  exact .tuple (.cons (.agg (.cons (.refl _) (.cons (.refl _) (.cons (.refl _) (.cons .here .nil))))) (.cons (.refl _) .nil))
          · have hml' : ¬ (Option.getD (some m) 0 = (ts.length : Int)) := hml
            try simp only [SS, argList, aPut, aFill, ↓reduceIte, Nat.reduceEqDiff, Nat.reduceAdd, Nat.reduceLeDiff, reduceCtorEq, Int.reduceEq, Int.reduceLT, Int.reduceLE, Int.reduceNeg, Int.reduceAdd, Int.reduceSub, Int.reduceToNat, e0, hT1, hT2, hf1, hf2, hf3, hml', e1, Store.get_upd _ _ l1]
            repeat ((with_reducible first | refine AWP_seq ?_ | refine AWP_block ?_ | refine AWP_scope ?_ | refine AWP_reg ?_ | refine AWP_draw ?_ | refine AWP_skip ?_ | refine AWP_ret ?_ | refine AWP_exit ?_ | (refine AWP_cond_true ?_ ?_; · simp only [SS, argList, aPut, aFill, ↓reduceIte, Nat.reduceEqDiff, Nat.reduceAdd, Nat.reduceLeDiff, reduceCtorEq, Int.reduceEq, Int.reduceLT, Int.reduceLE, Int.reduceNeg, Int.reduceAdd, Int.reduceSub, Int.reduceToNat, e0, hT1, hT2, hf1, hf2, hf3, hml', e1, Store.get_upd _ _ l1]) | (refine AWP_cond_false ?_ ?_; · simp only [SS, argList, aPut, aFill, ↓reduceIte, Nat.reduceEqDiff, Nat.reduceAdd, Nat.reduceLeDiff, reduceCtorEq, Int.reduceEq, Int.reduceLT, Int.reduceLE, Int.reduceNeg, Int.reduceAdd, Int.reduceSub, Int.reduceToNat, e0, hT1, hT2, hf1, hf2, hf3, hml', e1, Store.get_upd _ _ l1])); try simp only [SS, argList, aPut, aFill, ↓reduceIte, Nat.reduceEqDiff, Nat.reduceAdd, Nat.reduceLeDiff, reduceCtorEq, Int.reduceEq, Int.reduceLT, Int.reduceLE, Int.reduceNeg, Int.reduceAdd, Int.reduceSub, Int.reduceToNat, e0, hT1, hT2, hf1, hf2, hf3, hml', e1, Store.get_upd _ _ l1])
            exact same _ 82 (ku _) (by rw [fieldM]; simp [hm, hml])
      · by_cases hk3 : k = 3
        · subst hk3
          by_cases hl2 : ts.length = 2
          · have hl2' : (ts.length : Int) = 2 := by omega
            have hkl : ts.length ≤ 1000000 := by omega
            have hM : fieldM ps params (.mk 3 n s ts) = match fieldsL ps params ts with | (l, 0) => (.mk 3 0 s0 l, 0) | (_, e) => (.mk 3 n s ts, e) := by rw [fieldM]; simp [hl2]
            try simp only [SS, argList, aPut, aFill, ↓reduceIte, Nat.reduceEqDiff, Nat.reduceAdd, Nat.reduceLeDiff, reduceCtorEq, Int.reduceEq, Int.reduceLT, Int.reduceLE, Int.reduceNeg, Int.reduceAdd, Int.reduceSub, Int.reduceToNat, e0, hl2', lt_ne l0, lt_ne l1]
            repeat ((with_reducible first | refine AWP_seq ?_ | refine AWP_block ?_ | refine AWP_scope ?_ | refine AWP_reg ?_ | refine AWP_draw ?_ | refine AWP_skip ?_ | refine AWP_ret ?_ | refine AWP_exit ?_ | (refine AWP_cond_true ?_ ?_; · simp only [SS, argList, aPut, aFill, ↓reduceIte, Nat.reduceEqDiff, Nat.reduceAdd, Nat.reduceLeDiff, reduceCtorEq, Int.reduceEq, Int.reduceLT, Int.reduceLE, Int.reduceNeg, Int.reduceAdd, Int.reduceSub, Int.reduceToNat, e0, hl2', lt_ne l0, lt_ne l1]) | (refine AWP_cond_false ?_ ?_; · simp only [SS, argList, aPut, aFill, ↓reduceIte, Nat.reduceEqDiff, Nat.reduceAdd, Nat.reduceLeDiff, reduceCtorEq, Int.reduceEq, Int.reduceLT, Int.reduceLE, Int.reduceNeg, Int.reduceAdd, Int.reduceSub, Int.reduceToNat, e0, hl2', lt_ne l0, lt_ne l1])); try simp only [SS, argList, aPut, aFill, ↓reduceIte, Nat.reduceEqDiff, Nat.reduceAdd, Nat.reduceLeDiff, reduceCtorEq, Int.reduceEq, Int.reduceLT, Int.reduceLE, Int.reduceNeg, Int.reduceAdd, Int.reduceSub, Int.reduceToNat, e0, hl2', lt_ne l0, lt_ne l1])
            have nn : ¬ t0.next = σ.next ∧ ¬ t0.next = σ.next + 1 := by omega
            refine AWP_while [0, 1, 5, 6, 11, 68, 69, 70] (fun y : AV × Nat => ts.length - y.2) (fun y => [.ptr tid 0 0 0, strs params, .ptr σ.next 0 0 0, .ptr (σ.next + 1) 0 0 0, .ptr t0.next 0 0 0, .list (ts.map Ty.cells), .int .i64 ts.length, .int .i64 y.2])
              (fun y t => y.2 ≤ ts.length ∧ (∀ x, x ∈ ts.take y.2 → (fieldM ps params x).2 = 0) ∧ Grow t0 t y.1 85 4 ((ts.take y.2).map fun x => (fieldM ps params x).1.cells) ∧ t.get t0.next = some (.cells 85 0 4 [[.int .i64 3, .int .i64 0, .str s0, y.1]]) ∧ ¬ t0.next ∈ slIds y.1 ∧ t0.next < t.next)
              (.nils, 0) ⟨by simp, by simp, (Grow.start _ _ _).push _, by simp [Store.push_get], by simp [slIds], by simp [Store.push_next]⟩ ?_ ?_
            · try simp only [SS, argList, aPut, aFill, ↓reduceIte, Nat.reduceEqDiff, Nat.reduceAdd, Nat.reduceLeDiff, reduceCtorEq, Int.reduceEq, Int.reduceLT, Int.reduceLE, Int.reduceNeg, Int.reduceAdd, Int.reduceSub, Int.reduceToNat]
              repeat ((with_reducible first | refine AWP_seq ?_ | refine AWP_block ?_ | refine AWP_scope ?_ | refine AWP_reg ?_ | refine AWP_draw ?_ | refine AWP_skip ?_ | refine AWP_ret ?_ | refine AWP_exit ?_ | (refine AWP_cond_true ?_ ?_; · simp only [SS, argList, aPut, aFill, ↓reduceIte, Nat.reduceEqDiff, Nat.reduceAdd, Nat.reduceLeDiff, reduceCtorEq, Int.reduceEq, Int.reduceLT, Int.reduceLE, Int.reduceNeg, Int.reduceAdd, Int.reduceSub, Int.reduceToNat]) | (refine AWP_cond_false ?_ ?_; · simp only [SS, argList, aPut, aFill, ↓reduceIte, Nat.reduceEqDiff, Nat.reduceAdd, Nat.reduceLeDiff, reduceCtorEq, Int.reduceEq, Int.reduceLT, Int.reduceLE, Int.reduceNeg, Int.reduceAdd, Int.reduceSub, Int.reduceToNat])); try simp only [SS, argList, aPut, aFill, ↓reduceIte, Nat.reduceEqDiff, Nat.reduceAdd, Nat.reduceLeDiff, reduceCtorEq, Int.reduceEq, Int.reduceLT, Int.reduceLE, Int.reduceNeg, Int.reduceAdd, Int.reduceSub, Int.reduceToNat])
              first | rfl | simp [hl2]
            · rintro ⟨v, i⟩ t ⟨hi, hall, hG, hb, hv, hn⟩
              simp only at hi hall hG hb hv
              have f0 := hG.kp.get e0
              have f1 := hG.kp.get e1
              have m0 : σ.next < t.next := t.lt f0
              have m1 : σ.next + 1 < t.next := t.lt f1
              by_cases hil : i < ts.length
              · have hil' : (i : Int) < (ts.length : Int) := by omega
                obtain ⟨x, hx⟩ : ∃ x, ts[i]? = some x := ⟨_, List.getElem?_eq_getElem hil⟩
                have hg : (ts.map Ty.cells)[i]? = some x.cells := by simp [hx]
                have hxl := x.len
                have hxm := List.mem_of_getElem? hx
                have htake : List.take 4 x.cells = x.cells := List.take_of_length_le (by omega)
                have h44 : (4 ≤ x.cells.length) = True := by simp [hxl]
                try simp only [SS, argList, aPut, aFill, ↓reduceIte, Nat.reduceEqDiff, Nat.reduceAdd, Nat.reduceLeDiff, reduceCtorEq, Int.reduceEq, Int.reduceLT, Int.reduceLE, Int.reduceNeg, Int.reduceAdd, Int.reduceSub, Int.reduceToNat, hil', hg, hxl, htake, h44]
                repeat ((with_reducible first | refine AWP_seq ?_ | refine AWP_block ?_ | refine AWP_scope ?_ | refine AWP_reg ?_ | refine AWP_draw ?_ | refine AWP_skip ?_ | refine AWP_ret ?_ | refine AWP_exit ?_ | (refine AWP_cond_true ?_ ?_; · simp only [SS, argList, aPut, aFill, ↓reduceIte, Nat.reduceEqDiff, Nat.reduceAdd, Nat.reduceLeDiff, reduceCtorEq, Int.reduceEq, Int.reduceLT, Int.reduceLE, Int.reduceNeg, Int.reduceAdd, Int.reduceSub, Int.reduceToNat, hil', hg, hxl, htake, h44]) | (refine AWP_cond_false ?_ ?_; · simp only [SS, argList, aPut, aFill, ↓reduceIte, Nat.reduceEqDiff, Nat.reduceAdd, Nat.reduceLeDiff, reduceCtorEq, Int.reduceEq, Int.reduceLT, Int.reduceLE, Int.reduceNeg, Int.reduceAdd, Int.reduceSub, Int.reduceToNat, hil', hg, hxl, htake, h44])); try simp only [SS, argList, aPut, aFill, ↓reduceIte, Nat.reduceEqDiff, Nat.reduceAdd, Nat.reduceLeDiff, reduceCtorEq, Int.reduceEq, Int.reduceLT, Int.reduceLE, Int.reduceNeg, Int.reduceAdd, Int.reduceSub, Int.reduceToNat, hil', hg, hxl, htake, h44])
                refine (ih x hxm _ (((hTP.kp k0).kp hG.kp).kp (.pushed _ _))).mono ?_
                rintro r t2 ⟨rfl, rfl⟩
                have hkt := (Kp.pushed t (.cells 85 0 4 [x.cells])).push (.cells 85 0 4 [(fieldM ps params x).1.cells])
                have hzl := (fieldM ps params x).1.len
                have htake2 : List.take 4 (fieldM ps params x).1.cells = (fieldM ps params x).1.cells := List.take_of_length_le (by omega)
                have h442 : (4 ≤ (fieldM ps params x).1.cells.length) = True := by simp [hzl]
                by_cases hee : (fieldM ps params x).2 = 0
                · have q1 := lt_ne hn
                  have q2 : (t0.next = t.next + 1) = False := by simp; omega
                  try simp only [SS, argList, aPut, aFill, ↓reduceIte, Nat.reduceEqDiff, Nat.reduceAdd, Nat.reduceLeDiff, reduceCtorEq, Int.reduceEq, Int.reduceLT, Int.reduceLE, Int.reduceNeg, Int.reduceAdd, Int.reduceSub, Int.reduceToNat, hzl, htake2, h442, hee, hb, q1, q2]
                  repeat ((with_reducible first | refine AWP_seq ?_ | refine AWP_block ?_ | refine AWP_scope ?_ | refine AWP_reg ?_ | refine AWP_draw ?_ | refine AWP_skip ?_ | refine AWP_ret ?_ | refine AWP_exit ?_ | (refine AWP_cond_true ?_ ?_; · simp only [SS, argList, aPut, aFill, ↓reduceIte, Nat.reduceEqDiff, Nat.reduceAdd, Nat.reduceLeDiff, reduceCtorEq, Int.reduceEq, Int.reduceLT, Int.reduceLE, Int.reduceNeg, Int.reduceAdd, Int.reduceSub, Int.reduceToNat, hzl, htake2, h442, hee, hb, q1, q2]) | (refine AWP_cond_false ?_ ?_; · simp only [SS, argList, aPut, aFill, ↓reduceIte, Nat.reduceEqDiff, Nat.reduceAdd, Nat.reduceLeDiff, reduceCtorEq, Int.reduceEq, Int.reduceLT, Int.reduceLE, Int.reduceNeg, Int.reduceAdd, Int.reduceSub, Int.reduceToNat, hzl, htake2, h442, hee, hb, q1, q2])); try simp only [SS, argList, aPut, aFill, ↓reduceIte, Nat.reduceEqDiff, Nat.reduceAdd, Nat.reduceLeDiff, reduceCtorEq, Int.reduceEq, Int.reduceLT, Int.reduceLE, Int.reduceNeg, Int.reduceAdd, Int.reduceSub, Int.reduceToNat, hzl, htake2, h442, hee, hb, q1, q2])
                  refine ok_grow2 (hG.keep hkt) (by simp [hzl]) (by simp; omega) (by simp [maxLen]; omega) ?_
                  intro v' t3 hG3 hkeep hnx hsl
                  have hb3 : t3.get t0.next = some (.cells 85 0 4 [[.int .i64 3, .int .i64 0, .str s0, v]]) := by rw [hkeep _ (by simp only [Store.push_next]; omega) hv]; exact hkt.get hb
                  have m3 : t0.next < t3.next := t3.lt hb3
                  try simp only [SS, argList, aPut, aFill, ↓reduceIte, Nat.reduceEqDiff, Nat.reduceAdd, Nat.reduceLeDiff, reduceCtorEq, Int.reduceEq, Int.reduceLT, Int.reduceLE, Int.reduceNeg, Int.reduceAdd, Int.reduceSub, Int.reduceToNat, hb3, hG3.sl.co, wrap_succ (i := i) (by omega)]
                  repeat ((with_reducible first | refine AWP_seq ?_ | refine AWP_block ?_ | refine AWP_scope ?_ | refine AWP_reg ?_ | refine AWP_draw ?_ | refine AWP_skip ?_ | refine AWP_ret ?_ | refine AWP_exit ?_ | (refine AWP_cond_true ?_ ?_; · simp only [SS, argList, aPut, aFill, ↓reduceIte, Nat.reduceEqDiff, Nat.reduceAdd, Nat.reduceLeDiff, reduceCtorEq, Int.reduceEq, Int.reduceLT, Int.reduceLE, Int.reduceNeg, Int.reduceAdd, Int.reduceSub, Int.reduceToNat, hb3, hG3.sl.co, wrap_succ (i := i) (by omega)]) | (refine AWP_cond_false ?_ ?_; · simp only [SS, argList, aPut, aFill, ↓reduceIte, Nat.reduceEqDiff, Nat.reduceAdd, Nat.reduceLeDiff, reduceCtorEq, Int.reduceEq, Int.reduceLT, Int.reduceLE, Int.reduceNeg, Int.reduceAdd, Int.reduceSub, Int.reduceToNat, hb3, hG3.sl.co, wrap_succ (i := i) (by omega)])); try simp only [SS, argList, aPut, aFill, ↓reduceIte, Nat.reduceEqDiff, Nat.reduceAdd, Nat.reduceLeDiff, reduceCtorEq, Int.reduceEq, Int.reduceLT, Int.reduceLE, Int.reduceNeg, Int.reduceAdd, Int.reduceSub, Int.reduceToNat, hb3, hG3.sl.co, wrap_succ (i := i) (by omega)])
                  refine ⟨(v', i + 1), rfl, ⟨by simp only; omega, fun z hz => ?_, ?_, Store.get_upd_self _ _ m3, ?_, by simpa using m3⟩, by simp only; omega⟩
                  · simp only [List.take_add_one, hx] at hz
                    simp at hz
                    rcases hz with hz | rfl
                    · exact hall z hz
                    · exact hee
                  · have : (ts.take (i + 1)).map (fun x => (fieldM ps params x).1.cells) = (ts.take i).map (fun x => (fieldM ps params x).1.cells) ++ [(fieldM ps params x).1.cells] := by rw [List.take_add_one, hx]; simp
                    simp only [this]
                    refine ⟨hG3.kp.upd (Nat.le_refl _) _, hG3.sl.keep fun j hj => Store.get_upd_ne _ _ fun e => ?_, hG3.fresh⟩
                    subst e
                    rcases hsl _ hj with h | h
                    · exact hv h
                    · simp only [Store.push_next] at h; omega
                  · intro hm
                    rcases hsl _ hm with h | h
                    · exact hv h
                    · simp only [Store.push_next] at h; omega
                · have q3 := lt_ne m0
                  have q4 : (σ.next = t.next + 1) = False := by simp; omega
                  have q5 := lt_ne m1
                  have q6 : (σ.next + 1 = t.next + 1) = False := by simp; omega
                  have u1 : σ.next + 1 < (t.push (.cells 85 0 4 [x.cells])).next := by simp only [Store.push_next]; omega
                  try simp only [SS, argList, aPut, aFill, ↓reduceIte, Nat.reduceEqDiff, Nat.reduceAdd, Nat.reduceLeDiff, reduceCtorEq, Int.reduceEq, Int.reduceLT, Int.reduceLE, Int.reduceNeg, Int.reduceAdd, Int.reduceSub, Int.reduceToNat, hzl, htake2, h442, hee, f0, f1, q3, q4, q5, q6, Store.get_upd _ _ m1]
                  repeat ((with_reducible first | refine AWP_seq ?_ | refine AWP_block ?_ | refine AWP_scope ?_ | refine AWP_reg ?_ | refine AWP_draw ?_ | refine AWP_skip ?_ | refine AWP_ret ?_ | refine AWP_exit ?_ | (refine AWP_cond_true ?_ ?_; · simp only [SS, argList, aPut, aFill, ↓reduceIte, Nat.reduceEqDiff, Nat.reduceAdd, Nat.reduceLeDiff, reduceCtorEq, Int.reduceEq, Int.reduceLT, Int.reduceLE, Int.reduceNeg, Int.reduceAdd, Int.reduceSub, Int.reduceToNat, hzl, htake2, h442, hee, f0, f1, q3, q4, q5, q6, Store.get_upd _ _ m1]) | (refine AWP_cond_false ?_ ?_; · simp only [SS, argList, aPut, aFill, ↓reduceIte, Nat.reduceEqDiff, Nat.reduceAdd, Nat.reduceLeDiff, reduceCtorEq, Int.reduceEq, Int.reduceLT, Int.reduceLE, Int.reduceNeg, Int.reduceAdd, Int.reduceSub, Int.reduceToNat, hzl, htake2, h442, hee, f0, f1, q3, q4, q5, q6, Store.get_upd _ _ m1])); try simp only [SS, argList, aPut, aFill, ↓reduceIte, Nat.reduceEqDiff, Nat.reduceAdd, Nat.reduceLeDiff, reduceCtorEq, Int.reduceEq, Int.reduceLT, Int.reduceLE, Int.reduceNeg, Int.reduceAdd, Int.reduceSub, Int.reduceToNat, hzl, htake2, h442, hee, f0, f1, q3, q4, q5, q6, Store.get_upd _ _ m1])
                  refine same _ _ (((k0.trans hG.kp).upd (by omega) _ |>.push _).push _) ?_
                  have hsp : ts = ts.take i ++ x :: ts.drop (i + 1) := by
                    have := List.take_append_drop i ts
                    rw [List.drop_eq_getElem_cons hil] at this
                    have e : ts[i] = x := by rw [List.getElem?_eq_getElem hil] at hx; exact Option.some.inj hx
                    rw [e] at this; exact this.symm
                  rw [hM, hsp, fieldsL_stop _ _ _ hall hee]
                  split
                  · rename_i l h1; simp only [Prod.mk.injEq] at h1; exact absurd h1.2 hee
                  · rename_i h1; simp only [Prod.mk.injEq] at h1; rw [← h1.2]
              · have hil' : ¬ (i : Int) < (ts.length : Int) := by omega
                rw [List.take_of_length_le (by omega)] at hG hall
                try simp only [SS, argList, aPut, aFill, ↓reduceIte, Nat.reduceEqDiff, Nat.reduceAdd, Nat.reduceLeDiff, reduceCtorEq, Int.reduceEq, Int.reduceLT, Int.reduceLE, Int.reduceNeg, Int.reduceAdd, Int.reduceSub, Int.reduceToNat, hil', hb, f1, Store.get_upd _ _ m1]
                repeat ((with_reducible first | refine AWP_seq ?_ | refine AWP_block ?_ | refine AWP_scope ?_ | refine AWP_reg ?_ | refine AWP_draw ?_ | refine AWP_skip ?_ | refine AWP_ret ?_ | refine AWP_exit ?_ | (refine AWP_cond_true ?_ ?_; · simp only [SS, argList, aPut, aFill, ↓reduceIte, Nat.reduceEqDiff, Nat.reduceAdd, Nat.reduceLeDiff, reduceCtorEq, Int.reduceEq, Int.reduceLT, Int.reduceLE, Int.reduceNeg, Int.reduceAdd, Int.reduceSub, Int.reduceToNat, hil', hb, f1, Store.get_upd _ _ m1]) | (refine AWP_cond_false ?_ ?_; · simp only [SS, argList, aPut, aFill, ↓reduceIte, Nat.reduceEqDiff, Nat.reduceAdd, Nat.reduceLeDiff, reduceCtorEq, Int.reduceEq, Int.reduceLT, Int.reduceLE, Int.reduceNeg, Int.reduceAdd, Int.reduceSub, Int.reduceToNat, hil', hb, f1, Store.get_upd _ _ m1])); try simp only [SS, argList, aPut, aFill, ↓reduceIte, Nat.reduceEqDiff, Nat.reduceAdd, Nat.reduceLeDiff, reduceCtorEq, Int.reduceEq, Int.reduceLT, Int.reduceLE, Int.reduceNeg, Int.reduceAdd, Int.reduceSub, Int.reduceToNat, hil', hb, f1, Store.get_upd _ _ m1])
                have hM' : fieldM ps params (.mk 3 n s ts) = (.mk 3 0 s0 (ts.map fun x => (fieldM ps params x).1), 0) := by rw [hM, fieldsL_split _ hall]; first | rfl | simp
                refine FP.mk (.tuple [.agg (Ty.mk 3 0 s0 (ts.map fun x => (fieldM ps params x).1)).cells, .int .i64 0]) (hG.sl.keep fun j hj => Store.get_upd_ne _ _ ?_) ?_ (by rw [hM']) (hcl _ _) ((k0.trans hG.kp).upd (by omega) _) (fun j hj => by have := hG.fresh j hj; omega)
                · have := hG.fresh j hj; omega
                · rw [Ty.cells_eq, List.map_map]
                  exact .tuple (.cons (.agg (.cons (.refl _) (.cons (.refl _) (.cons (.refl _) (.cons .here .nil))))) (.cons (.refl _) .nil))
          · have hl2' : ¬ (ts.length : Int) = 2 := by omega
            try simp only [SS, argList, aPut, aFill, ↓reduceIte, Nat.reduceEqDiff, Nat.reduceAdd, Nat.reduceLeDiff, reduceCtorEq, Int.reduceEq, Int.reduceLT, Int.reduceLE, Int.reduceNeg, Int.reduceAdd, Int.reduceSub, Int.reduceToNat, e0, hl2', e1, Store.get_upd _ _ l1]
            repeat ((with_reducible first | refine AWP_seq ?_ | refine AWP_block ?_ | refine AWP_scope ?_ | refine AWP_reg ?_ | refine AWP_draw ?_ | refine AWP_skip ?_ | refine AWP_ret ?_ | refine AWP_exit ?_ | (refine AWP_cond_true ?_ ?_; · simp only [SS, argList, aPut, aFill, ↓reduceIte, Nat.reduceEqDiff, Nat.reduceAdd, Nat.reduceLeDiff, reduceCtorEq, Int.reduceEq, Int.reduceLT, Int.reduceLE, Int.reduceNeg, Int.reduceAdd, Int.reduceSub, Int.reduceToNat, e0, hl2', e1, Store.get_upd _ _ l1]) | (refine AWP_cond_false ?_ ?_; · simp only [SS, argList, aPut, aFill, ↓reduceIte, Nat.reduceEqDiff, Nat.reduceAdd, Nat.reduceLeDiff, reduceCtorEq, Int.reduceEq, Int.reduceLT, Int.reduceLE, Int.reduceNeg, Int.reduceAdd, Int.reduceSub, Int.reduceToNat, e0, hl2', e1, Store.get_upd _ _ l1])); try simp only [SS, argList, aPut, aFill, ↓reduceIte, Nat.reduceEqDiff, Nat.reduceAdd, Nat.reduceLeDiff, reduceCtorEq, Int.reduceEq, Int.reduceLT, Int.reduceLE, Int.reduceNeg, Int.reduceAdd, Int.reduceSub, Int.reduceToNat, e0, hl2', e1, Store.get_upd _ _ l1])
            exact same _ 82 (ku _) (by rw [fieldM]; simp [hl2])
        · try simp only [SS, argList, aPut, aFill, ↓reduceIte, Nat.reduceEqDiff, Nat.reduceAdd, Nat.reduceLeDiff, reduceCtorEq, Int.reduceEq, Int.reduceLT, Int.reduceLE, Int.reduceNeg, Int.reduceAdd, Int.reduceSub, Int.reduceToNat, hk1, hk2, hk3, e0, e1, Store.get_upd _ _ l1]
          repeat ((with_reducible first | refine AWP_seq ?_ | refine AWP_block ?_ | refine AWP_scope ?_ | refine AWP_reg ?_ | refine AWP_draw ?_ | refine AWP_skip ?_ | refine AWP_ret ?_ | refine AWP_exit ?_ | (refine AWP_cond_true ?_ ?_; · simp only [SS, argList, aPut, aFill, ↓reduceIte, Nat.reduceEqDiff, Nat.reduceAdd, Nat.reduceLeDiff, reduceCtorEq, Int.reduceEq, Int.reduceLT, Int.reduceLE, Int.reduceNeg, Int.reduceAdd, Int.reduceSub, Int.reduceToNat, hk1, hk2, hk3, e0, e1, Store.get_upd _ _ l1]) | (refine AWP_cond_false ?_ ?_; · simp only [SS, argList, aPut, aFill, ↓reduceIte, Nat.reduceEqDiff, Nat.reduceAdd, Nat.reduceLeDiff, reduceCtorEq, Int.reduceEq, Int.reduceLT, Int.reduceLE, Int.reduceNeg, Int.reduceAdd, Int.reduceSub, Int.reduceToNat, hk1, hk2, hk3, e0, e1, Store.get_upd _ _ l1])); try simp only [SS, argList, aPut, aFill, ↓reduceIte, Nat.reduceEqDiff, Nat.reduceAdd, Nat.reduceLeDiff, reduceCtorEq, Int.reduceEq, Int.reduceLT, Int.reduceLE, Int.reduceNeg, Int.reduceAdd, Int.reduceSub, Int.reduceToNat, hk1, hk2, hk3, e0, e1, Store.get_upd _ _ l1])
          exact same _ 82 (ku _) (by rw [fieldM]; simp [hk1, hk2, hk3])
end Go.Proofs.Ytoejjhehpbmgbaa
