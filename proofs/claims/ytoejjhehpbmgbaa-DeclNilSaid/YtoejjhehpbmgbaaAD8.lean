/- Tables of more declarations; DeclMore answers true. -/
import Derived.Test.YtoejjhehpbmgbaaAD7
set_option linter.unusedVariables false
set_option linter.unusedSimpArgs false
namespace Go.AL
theorem fieldsL_zero {ps : List (ByteArray × Int)} {params : List ByteArray} {x : Ty} {r : List Ty} (h : (fieldsL ps params (x :: r)).2 = 0) : (fieldM ps params x).2 = 0 ∧ (fieldsL ps params r).2 = 0 ∧ fieldsL ps params (x :: r) = ((fieldM ps params x).1 :: (fieldsL ps params r).1, 0) := by
  by_cases h1 : (fieldM ps params x).2 = 0
  · rw [fieldsL_cons h1] at h ⊢
    by_cases h2 : (fieldsL ps params r).2 = 0
    · rw [if_pos h2]; exact ⟨h1, h2, rfl⟩
    · rw [if_neg h2] at h; exact absurd h h2
  · rw [fieldsL_bad h1] at h; exact absurd h h1
/-- The cases of a field that is right. -/
theorem fieldM_zero {ps : List (ByteArray × Int)} {params : List ByteArray} {k n : Int} {s : ByteArray} {ts : List Ty} (h : (fieldM ps params (.mk k n s ts)).2 = 0) :
    (k = 1 ∧ ¬ placeM params s < 0 ∧ fieldM ps params (.mk k n s ts) = (.mk 1 (placeM params s) s0 [], 0)) ∨
    (k = 2 ∧ mget ps s = some (ts.length : Int) ∧ (fieldsL ps params ts).2 = 0 ∧ fieldM ps params (.mk k n s ts) = (.mk 2 0 s (fieldsL ps params ts).1, 0)) ∨
    (k = 3 ∧ ts.length = 2 ∧ (fieldsL ps params ts).2 = 0 ∧ fieldM ps params (.mk k n s ts) = (.mk 3 0 s0 (fieldsL ps params ts).1, 0)) := by
  rw [fieldM] at h ⊢
  by_cases h1 : k = 1
  · subst h1
    by_cases hp : placeM params s < 0
    · simp [hp] at h
    · left; simp [hp]
  · by_cases h2 : k = 2
    · subst h2
      right; left
      cases hm : mget ps s with
      | none => simp [hm] at h
      | some m =>
        by_cases hml : m = (ts.length : Int)
        · subst hml
          generalize fieldsL ps params ts = q at h ⊢
          obtain ⟨l, e⟩ := q
          by_cases he : e = 0
          · subst he; simp
          · simp [hm] at h
            exact absurd h he
        · simp [hm, hml] at h
    · by_cases h3 : k = 3
      · subst h3
        right; right
        by_cases hl : ts.length = 2
        · generalize fieldsL ps params ts = q at h ⊢
          obtain ⟨l, e⟩ := q
          by_cases he : e = 0
          · subst he; simp [hl]
          · simp [hl] at h
            exact absurd h he
        · simp [hl] at h
      · simp [h1, h2, h3] at h
theorem mget_more {ps e : List (ByteArray × Int)} {s : ByteArray} {m : Int} (h : mget ps s = some m) : mget (ps ++ e) s = some m := by rw [mget_app, h]; rfl
theorem field_mono (e : List (ByteArray × Int)) {ps : List (ByteArray × Int)} {params : List ByteArray} (x : Ty) : (fieldM ps params x).2 = 0 → fieldM (ps ++ e) params x = fieldM ps params x := by
  induction x using Ty.ind with
  | _ k n s ts ih =>
    intro h
    have hfl : ∀ l : List Ty, (∀ x, x ∈ l → x ∈ ts) → (fieldsL ps params l).2 = 0 → fieldsL (ps ++ e) params l = fieldsL ps params l := by
      intro l
      induction l with
      | nil => intro _ _; rw [fieldsL, fieldsL]
      | cons y r ihr =>
        intro hm h0
        obtain ⟨h1, h2, h3⟩ := fieldsL_zero h0
        have e1 := ih y (hm y (by simp)) h1
        have e2 := ihr (fun z hz => hm z (by simp [hz])) h2
        rw [h3, fieldsL_cons (by rw [e1]; exact h1), e1, e2, if_pos h2]
    rcases fieldM_zero h with ⟨rfl, h1, h2⟩ | ⟨rfl, h1, h2, h3⟩ | ⟨rfl, h1, h2, h3⟩
    · rw [h2, fieldM]; simp [h1]
    · rw [h3, fieldM, mget_more h1, hfl ts (fun _ h => h) h2]
      generalize fieldsL ps params ts = q at h2
      obtain ⟨l, e⟩ := q
      simp only at h2
      subst h2
      simp
    · rw [h3, fieldM, hfl ts (fun _ h => h) h2]
      generalize fieldsL ps params ts = q at h2
      obtain ⟨l, e⟩ := q
      simp only at h2
      subst h2
      simp [h1]
theorem fields_mono (e : List (ByteArray × Int)) {ps : List (ByteArray × Int)} {params : List ByteArray} : ∀ l : List Ty, (fieldsL ps params l).2 = 0 → fieldsL (ps ++ e) params l = fieldsL ps params l
  | [], _ => by rw [fieldsL, fieldsL]
  | y :: r, h0 => by
    obtain ⟨h1, h2, h3⟩ := fieldsL_zero h0
    have e1 := field_mono e y h1
    rw [h3, fieldsL_cons (by rw [e1]; exact h1), e1, fields_mono e r h2, if_pos h2]
theorem fields_length {ps : List (ByteArray × Int)} {params : List ByteArray} : ∀ l : List Ty, (fieldsL ps params l).2 = 0 → (fieldsL ps params l).1.length = l.length
  | [], _ => by rw [fieldsL]
  | y :: r, h0 => by
    obtain ⟨h1, h2, h3⟩ := fieldsL_zero h0
    rw [h3]; simp [fields_length r h2]
theorem field_sm {ps : List (ByteArray × Int)} (hps : ∀ p, p ∈ ps → 0 ≤ p.2 ∧ p.2 ≤ 1000000) {params : List ByteArray} (x : Ty) : (fieldM ps params x).2 = 0 → (fieldM ps params x).1.sm := by
  induction x using Ty.ind with
  | _ k n s ts ih =>
    intro h
    have hfl : ∀ l : List Ty, (∀ x, x ∈ l → x ∈ ts) → (fieldsL ps params l).2 = 0 → ∀ y, y ∈ (fieldsL ps params l).1 → y.sm := by
      intro l
      induction l with
      | nil => intro _ _ y hy; rw [fieldsL] at hy; simp at hy
      | cons y r ihr =>
        intro hm h0 z hz
        obtain ⟨h1, h2, h3⟩ := fieldsL_zero h0
        rw [h3] at hz
        simp at hz
        rcases hz with rfl | hz
        · exact ih y (hm y (by simp)) h1
        · exact ihr (fun z hz => hm z (by simp [hz])) h2 z hz
    rcases fieldM_zero h with ⟨rfl, h1, h2⟩ | ⟨rfl, h1, h2, h3⟩ | ⟨rfl, h1, h2, h3⟩
    · rw [h2]; simp [Ty.sm, Ty.smL]
    · rw [h3]
      have := hps _ (mget_mem h1)
      simp only at this
      have hl := fields_length ts h2
      exact ⟨by omega, Ty.smL_all.2 (hfl ts (fun _ h => h) h2)⟩
    · rw [h3]
      have hl := fields_length ts h2
      exact ⟨by omega, Ty.smL_all.2 (hfl ts (fun _ h => h) h2)⟩
theorem fields_sm {ps : List (ByteArray × Int)} (hps : ∀ p, p ∈ ps → 0 ≤ p.2 ∧ p.2 ≤ 1000000) {params : List ByteArray} : ∀ l : List Ty, (fieldsL ps params l).2 = 0 → ∀ y, y ∈ (fieldsL ps params l).1 → y.sm
  | [], _, y, hy => by rw [fieldsL] at hy; simp at hy
  | x :: r, h0, y, hy => by
    obtain ⟨h1, h2, h3⟩ := fieldsL_zero h0
    rw [h3] at hy
    simp at hy
    rcases hy with rfl | hy
    · exact field_sm hps x h1
    · exact fields_sm hps r h2 y hy
/-- What holds of each table. -/
structure Tok (T : DT) : Prop where
  okp : T.okp
  nd : (T.cs.map (·.name)).Nodup
  sm : ∀ c, c ∈ T.cs → c.sm
theorem find_none {T : DT} {k : ByteArray} (h : T.find k = none) : ¬ k ∈ T.cs.map (·.name) := by
  unfold DT.find at h
  generalize T.cs = l at h
  induction l with
  | nil => simp
  | cons c l ih =>
    rw [List.map_cons, mget_cons] at h
    simp only at h
    split at h
    · cases h
    · rename_i hc
      simp only [List.map_cons, List.mem_cons, not_or]
      exact ⟨fun e => hc e.symm, ih h⟩
theorem Tok.stepC {T T' : DT} {d : DDM} {p : CDM × Nat} (h : Tok T) (hl : p.1.fields.length ≤ 1000000) (hs : stepC d T p = some T') : Tok T' := by
  obtain ⟨l, h1, h2, h3, rfl⟩ := stepC_ok hs
  refine ⟨h.okp, ?_, fun c hc => ?_⟩
  · simp only [List.map_append, List.map_cons, List.map_nil, List.nodup_append]
    exact ⟨h.nd, by simp, fun a ha b hb e => by simp at hb; subst hb; subst e; exact find_none h1 ha⟩
  · simp at hc
    rcases hc with hc | rfl
    · exact h.sm c hc
    · have e1 : (fieldsL T.ps d.params p.1.fields).2 = 0 := by rw [h2]
      have e2 := fields_length _ e1
      have e3 := fields_sm h.okp _ e1
      rw [h2] at e2 e3
      exact ⟨by simp only at e2 ⊢; omega, e3⟩
theorem Tok.foldC {d : DDM} : ∀ (l : List (CDM × Nat)) {T T' : DT}, Tok T → (∀ p, p ∈ l → p.1.fields.length ≤ 1000000) → l.foldlM (AL.stepC d) T = some T' → Tok T' ∧ ∃ X, T'.cs = T.cs ++ X ∧ X.length = l.length
  | [], T, T', h, _, hf => by simp at hf; subst hf; exact ⟨h, [], by simp, rfl⟩
  | p :: l, T, T', h, hl, hf => by
    rw [List.foldlM_cons] at hf
    cases hs : AL.stepC d T p with
    | none => rw [hs] at hf; cases hf
    | some T1 =>
      rw [hs] at hf
      have h1 := h.stepC (hl p (by simp)) hs
      obtain ⟨h2, X, e1, e2⟩ := Tok.foldC l h1 (fun q hq => hl q (by simp [hq])) hf
      obtain ⟨_, _, _, _, rfl⟩ := stepC_ok hs
      exact ⟨h2, _, by rw [e1, List.append_assoc], by simp [e2]⟩
theorem Tok.stepD {T T' : DT} {d : DDM} (h : Tok T) (hl : ∀ c, c ∈ d.cons → c.fields.length ≤ 1000000) (hs : stepD T d = some T') : Tok T' ∧ ∃ X, T'.cs = T.cs ++ X ∧ X.length = d.cons.length := by
  obtain ⟨h1, X, h2, h3⟩ := Tok.foldC _ h (fun p hp => hl _ (by
    obtain ⟨c, i⟩ := p
    rw [List.mem_zipIdx_iff_getElem?] at hp
    exact List.mem_of_getElem? hp)) hs
  exact ⟨h1, X, h2, by simpa using h3⟩
theorem Tok.foldD : ∀ (l : List DDM) {T T' : DT}, Tok T → (∀ d, d ∈ l → ∀ c, c ∈ d.cons → c.fields.length ≤ 1000000) → l.foldlM AL.stepD T = some T' → Tok T'
  | [], T, T', h, _, hf => by simp at hf; subst hf; exact h
  | d :: l, T, T', h, hl, hf => by
    rw [List.foldlM_cons] at hf
    cases hs : AL.stepD T d with
    | none => rw [hs] at hf; cases hf
    | some T1 =>
      rw [hs] at hf
      exact Tok.foldD l (h.stepD (hl d (by simp)) hs).1 (fun e he => hl e (by simp [he])) hf
theorem Tok.base : Tok baseT := ⟨okp_base, by decide, fun c hc => by simp [baseT] at hc; rcases hc with rfl | rfl <;> simp [CON.sm, cFalse, cTrue]⟩
theorem newM_some {l : List DDM} {T : DT} (h : newM l = some T) : ∃ T0, l.foldlM stepN baseT = some T0 ∧ l.foldlM stepD T0 = some T := by
  unfold newM at h
  cases h0 : l.foldlM stepN baseT with
  | none => rw [h0] at h; cases h
  | some T0 => rw [h0] at h; exact ⟨T0, rfl, h⟩
theorem newM_tok {l : List DDM} (hf : Few l) {T : DT} (h : newM l = some T) : Tok T ∧ T.cs.length ≤ 2 + 30 * l.length := by
  obtain ⟨T0, h1, h2⟩ := newM_some h
  obtain ⟨hokp, hcs⟩ := foldN_ok _ (fun d hd => (hf.each d hd).2.1) okp_base h1
  have ht0 : Tok T0 := ⟨hokp, by rw [hcs]; exact Tok.base.nd, by rw [hcs]; exact Tok.base.sm⟩
  refine ⟨Tok.foldD l ht0 (fun d hd c hc => by have := (hf.each d hd).2.2 c hc; omega) h2, ?_⟩
  have := (foldD_ok l (fun d hd => (hf.each d hd).1) h2).2
  rw [hcs] at this
  exact this
theorem stepC_more {T T' : DT} {d : DDM} {p : CDM × Nat} (e : List (ByteArray × Int)) (hs : stepC d T p = some T') : stepC d ⟨T.ps ++ e, T.cs⟩ p = some ⟨T.ps ++ e, T'.cs⟩ := by
  obtain ⟨l, h1, h2, h3, rfl⟩ := stepC_ok hs
  have hf : DT.find ⟨T.ps ++ e, T.cs⟩ p.1.name = none := h1
  have hl : fieldsL (T.ps ++ e) d.params p.1.fields = (l, 0) := by rw [fields_mono e _ (by rw [h2]), h2]
  have : conM ⟨T.ps ++ e, T.cs⟩ d p.2 p.1 = (⟨T.ps ++ e, T.cs ++ [⟨p.1.name, d.name, (p.2 : Int), d.params.length, l⟩]⟩, 0) := by
    unfold conM
    rw [hf, hl]
    simp
  unfold stepC
  rw [this]
  simp
theorem foldC_more {d : DDM} (e : List (ByteArray × Int)) : ∀ (l : List (CDM × Nat)) {T T' : DT}, l.foldlM (stepC d) T = some T' → l.foldlM (stepC d) ⟨T.ps ++ e, T.cs⟩ = some ⟨T'.ps ++ e, T'.cs⟩
  | [], T, T', hf => by simp at hf; subst hf; simp
  | p :: l, T, T', hf => by
    rw [List.foldlM_cons] at hf ⊢
    cases hs : stepC d T p with
    | none => rw [hs] at hf; cases hf
    | some T1 =>
      rw [hs] at hf
      rw [stepC_more e hs]
      obtain ⟨_, _, _, _, rfl⟩ := stepC_ok hs
      exact foldC_more e l hf
theorem foldD_more (e : List (ByteArray × Int)) : ∀ (l : List DDM) {T T' : DT}, l.foldlM stepD T = some T' → l.foldlM stepD ⟨T.ps ++ e, T.cs⟩ = some ⟨T'.ps ++ e, T'.cs⟩
  | [], T, T', hf => by simp at hf; subst hf; simp
  | d :: l, T, T', hf => by
    rw [List.foldlM_cons] at hf ⊢
    cases hs : stepD T d with
    | none => rw [hs] at hf; cases hf
    | some T1 =>
      rw [hs] at hf
      have : stepD ⟨T.ps ++ e, T.cs⟩ d = some ⟨T1.ps ++ e, T1.cs⟩ := foldC_more e _ hs
      rw [this]
      exact foldD_more e l hf
/-- One declaration more. -/
theorem newM_more {l : List DDM} (hf : Few l) {d : DDM} (hd : ∀ c, c ∈ d.cons → c.fields.length ≤ 1000000) {T U : DT} (hT : newM l = some T) (hU : newM (l ++ [d]) = some U) : ∃ X, U.cs = T.cs ++ X ∧ X.length = d.cons.length := by
  obtain ⟨T0, h1, h2⟩ := newM_some hT
  obtain ⟨U0, h3, h4⟩ := newM_some hU
  rw [List.foldlM_append, h1] at h3
  have h5 : stepN T0 d = some U0 := by simpa using h3
  unfold stepN at h5
  split at h5
  · cases h5
    rw [List.foldlM_append, foldD_more _ l h2] at h4
    have h6 : stepD ⟨T.ps ++ [(d.name, (d.params.length : Int))], T.cs⟩ d = some U := by simpa using h4
    obtain ⟨ht, _⟩ := newM_tok hf hT
    unfold stepD at h6
    obtain ⟨h7, h8⟩ := foldC_ok _ h6
    have key : ∀ (l : List (CDM × Nat)) {T T' : DT}, l.foldlM (stepC d) T = some T' → ∃ X, T'.cs = T.cs ++ X := by
      intro l
      induction l with
      | nil => intro T T' hf; simp at hf; subst hf; exact ⟨[], by simp⟩
      | cons p l ih =>
        intro T T' hf
        rw [List.foldlM_cons] at hf
        cases hs : stepC d T p with
        | none => rw [hs] at hf; cases hf
        | some T1 =>
          rw [hs] at hf
          obtain ⟨X, hX⟩ := ih hf
          obtain ⟨_, _, _, _, rfl⟩ := stepC_ok hs
          exact ⟨_, by rw [hX, List.append_assoc]⟩
    obtain ⟨X, hX⟩ := key _ h6
    refine ⟨X, hX, ?_⟩
    rw [hX] at h8
    simpa using h8
  · cases h5
end Go.AL
namespace Go.Proofs.Ytoejjhehpbmgbaa
open Go.AL
theorem three_of {α : Type} : ∀ {l : List α}, l.length = 3 → ∃ a b c, l = [a, b, c]
  | [a, b, c], _ => ⟨a, b, c, rfl⟩
theorem known_kp' (σ : Store) {Q : AV → Store → Prop} (h : ∀ s, Kp σ s → Q (.bool true) s) : ACalls Try.prog 29 [] σ Q := (known_ok' σ).mono fun r s ⟨h1, h2⟩ => by subst h1; exact h s h2
theorem law9 (σ : Store) (l : List DDM) (d : DDM) : ACalls Try.prog 9 [.list (l.map DDM.cells), .agg d.cells] σ fun r σ' => r = .bool true := by
  refine in9 (by simp) ?_
  unfold c9
  try simp only [SS, argList, aPut, aFill, ↓reduceIte, Nat.reduceEqDiff, Nat.reduceAdd, Nat.reduceLeDiff, reduceCtorEq, Int.reduceEq, Int.reduceLT, Int.reduceLE, Int.reduceNeg, Int.reduceAdd, Int.reduceSub, Int.reduceToNat]
  repeat ((with_reducible first | refine AWP_seq ?_ | refine AWP_block ?_ | refine AWP_scope ?_ | refine AWP_reg ?_ | refine AWP_draw ?_ | refine AWP_skip ?_ | refine AWP_ret ?_ | refine AWP_exit ?_ | (refine AWP_cond_true ?_ ?_; · simp only [SS, argList, aPut, aFill, ↓reduceIte, Nat.reduceEqDiff, Nat.reduceAdd, Nat.reduceLeDiff, reduceCtorEq, Int.reduceEq, Int.reduceLT, Int.reduceLE, Int.reduceNeg, Int.reduceAdd, Int.reduceSub, Int.reduceToNat]) | (refine AWP_cond_false ?_ ?_; · simp only [SS, argList, aPut, aFill, ↓reduceIte, Nat.reduceEqDiff, Nat.reduceAdd, Nat.reduceLeDiff, reduceCtorEq, Int.reduceEq, Int.reduceLT, Int.reduceLE, Int.reduceNeg, Int.reduceAdd, Int.reduceSub, Int.reduceToNat])); try simp only [SS, argList, aPut, aFill, ↓reduceIte, Nat.reduceEqDiff, Nat.reduceAdd, Nat.reduceLeDiff, reduceCtorEq, Int.reduceEq, Int.reduceLT, Int.reduceLE, Int.reduceNeg, Int.reduceAdd, Int.reduceSub, Int.reduceToNat])
  refine (few_ok' l _).mono ?_
  rintro r s ⟨rfl, rfl⟩
  by_cases hl : fewM l
  · try simp only [SS, argList, aPut, aFill, ↓reduceIte, Nat.reduceEqDiff, Nat.reduceAdd, Nat.reduceLeDiff, reduceCtorEq, Int.reduceEq, Int.reduceLT, Int.reduceLE, Int.reduceNeg, Int.reduceAdd, Int.reduceSub, Int.reduceToNat, hl, DDM.cells]
    repeat ((with_reducible first | refine AWP_seq ?_ | refine AWP_block ?_ | refine AWP_scope ?_ | refine AWP_reg ?_ | refine AWP_draw ?_ | refine AWP_skip ?_ | refine AWP_ret ?_ | refine AWP_exit ?_ | (refine AWP_cond_true ?_ ?_; · simp only [SS, argList, aPut, aFill, ↓reduceIte, Nat.reduceEqDiff, Nat.reduceAdd, Nat.reduceLeDiff, reduceCtorEq, Int.reduceEq, Int.reduceLT, Int.reduceLE, Int.reduceNeg, Int.reduceAdd, Int.reduceSub, Int.reduceToNat, hl, DDM.cells]) | (refine AWP_cond_false ?_ ?_; · simp only [SS, argList, aPut, aFill, ↓reduceIte, Nat.reduceEqDiff, Nat.reduceAdd, Nat.reduceLeDiff, reduceCtorEq, Int.reduceEq, Int.reduceLT, Int.reduceLE, Int.reduceNeg, Int.reduceAdd, Int.reduceSub, Int.reduceToNat, hl, DDM.cells])); try simp only [SS, argList, aPut, aFill, ↓reduceIte, Nat.reduceEqDiff, Nat.reduceAdd, Nat.reduceLeDiff, reduceCtorEq, Int.reduceEq, Int.reduceLT, Int.reduceLE, Int.reduceNeg, Int.reduceAdd, Int.reduceSub, Int.reduceToNat, hl, DDM.cells])
    refine (few_ok' [d] _).mono ?_
    rintro r s ⟨rfl, rfl⟩
    by_cases hd : fewM [d]
    · have hF : Few l := ⟨by have := hl.1; omega, hl.2⟩
      have hdd := hd.2 d (by simp)
      try simp only [SS, argList, aPut, aFill, ↓reduceIte, Nat.reduceEqDiff, Nat.reduceAdd, Nat.reduceLeDiff, reduceCtorEq, Int.reduceEq, Int.reduceLT, Int.reduceLE, Int.reduceNeg, Int.reduceAdd, Int.reduceSub, Int.reduceToNat, hd]
      repeat ((with_reducible first | refine AWP_seq ?_ | refine AWP_block ?_ | refine AWP_scope ?_ | refine AWP_reg ?_ | refine AWP_draw ?_ | refine AWP_skip ?_ | refine AWP_ret ?_ | refine AWP_exit ?_ | (refine AWP_cond_true ?_ ?_; · simp only [SS, argList, aPut, aFill, ↓reduceIte, Nat.reduceEqDiff, Nat.reduceAdd, Nat.reduceLeDiff, reduceCtorEq, Int.reduceEq, Int.reduceLT, Int.reduceLE, Int.reduceNeg, Int.reduceAdd, Int.reduceSub, Int.reduceToNat, hd]) | (refine AWP_cond_false ?_ ?_; · simp only [SS, argList, aPut, aFill, ↓reduceIte, Nat.reduceEqDiff, Nat.reduceAdd, Nat.reduceLeDiff, reduceCtorEq, Int.reduceEq, Int.reduceLT, Int.reduceLE, Int.reduceNeg, Int.reduceAdd, Int.reduceSub, Int.reduceToNat, hd])); try simp only [SS, argList, aPut, aFill, ↓reduceIte, Nat.reduceEqDiff, Nat.reduceAdd, Nat.reduceLeDiff, reduceCtorEq, Int.reduceEq, Int.reduceLT, Int.reduceLE, Int.reduceNeg, Int.reduceAdd, Int.reduceSub, Int.reduceToNat, hd])
      refine (new_ok' _ l hF).mono ?_
      intro r s1 hN1
      obtain ⟨pT, fa, e1, k1, hT⟩ : ∃ (pT : AV) (fa : List AV), r = .tuple [pT, .agg fa] ∧ Kp (σ.push (.cells 65 0 5 [d.cells])) s1 ∧
          ((∃ T tid, newM l = some T ∧ pT = .ptr tid 0 0 0 ∧ fa = [.int .i64 0, .int .i64 0, .int .i64 0] ∧ TblTo (σ.push (.cells 65 0 5 [d.cells])) tid [] T s1) ∨ (newM l = none ∧ pT = .nilp ∧ ∃ e a b, e ≠ 0 ∧ fa = [.int .i64 e, .int .i64 a, .int .i64 b])) := by
        rcases hN1 with ⟨T, tid, h1, rfl, h2⟩ | ⟨h1, e, a, b, h2, rfl, h3⟩
        · exact ⟨_, _, rfl, h2.kept, .inl ⟨T, tid, h1, rfl, rfl, h2⟩⟩
        · exact ⟨_, _, rfl, h3, .inr ⟨h1, rfl, e, a, b, h2, rfl⟩⟩
      subst e1
      have hfa : fa.length = 3 := by rcases hT with ⟨T, tid, _, _, rfl, _⟩ | ⟨_, _, e, a, b, _, rfl⟩ <;> rfl
      obtain ⟨f1, f2, f3, rfl⟩ := three_of hfa
      obtain ⟨hb1, hlt1, hk1⟩ := k1.box
      try simp only [SS, argList, aPut, aFill, ↓reduceIte, Nat.reduceEqDiff, Nat.reduceAdd, Nat.reduceLeDiff, reduceCtorEq, Int.reduceEq, Int.reduceLT, Int.reduceLE, Int.reduceNeg, Int.reduceAdd, Int.reduceSub, Int.reduceToNat]
      repeat ((with_reducible first | refine AWP_seq ?_ | refine AWP_block ?_ | refine AWP_scope ?_ | refine AWP_reg ?_ | refine AWP_draw ?_ | refine AWP_skip ?_ | refine AWP_ret ?_ | refine AWP_exit ?_ | (refine AWP_cond_true ?_ ?_; · simp only [SS, argList, aPut, aFill, ↓reduceIte, Nat.reduceEqDiff, Nat.reduceAdd, Nat.reduceLeDiff, reduceCtorEq, Int.reduceEq, Int.reduceLT, Int.reduceLE, Int.reduceNeg, Int.reduceAdd, Int.reduceSub, Int.reduceToNat]) | (refine AWP_cond_false ?_ ?_; · simp only [SS, argList, aPut, aFill, ↓reduceIte, Nat.reduceEqDiff, Nat.reduceAdd, Nat.reduceLeDiff, reduceCtorEq, Int.reduceEq, Int.reduceLT, Int.reduceLE, Int.reduceNeg, Int.reduceAdd, Int.reduceSub, Int.reduceToNat])); try simp only [SS, argList, aPut, aFill, ↓reduceIte, Nat.reduceEqDiff, Nat.reduceAdd, Nat.reduceLeDiff, reduceCtorEq, Int.reduceEq, Int.reduceLT, Int.reduceLE, Int.reduceNeg, Int.reduceAdd, Int.reduceSub, Int.reduceToNat])
      have hb2 : (s1.push (.cells 69 0 3 [[f1, f2, f3]])).get s1.next = some (.cells 69 0 3 [[f1, f2, f3]]) := by simp [Store.push_get]
      have hk2 : Kp (σ.push (.cells 65 0 5 [d.cells])) (s1.push (.cells 69 0 3 [[f1, f2, f3]])) := k1.push _
      have hk12 : Kp s1 (s1.push (.cells 69 0 3 [[f1, f2, f3]])) := .pushed _ _
      generalize s1.push (.cells 69 0 3 [[f1, f2, f3]]) = s2 at hb2 hk2 hk12 ⊢
      refine AWP_while [0, 3, 5, 6, 7, 8] (fun y : AV × Nat => l.length - y.2) (fun y => [.list (l.map DDM.cells), .ptr σ.next 0 0 0, pT, .ptr s1.next 0 0 0, y.1, .int .i64 y.2])
        (fun y t => y.2 ≤ l.length ∧ Grow s2 t y.1 65 5 ((l.take y.2).map DDM.cells)) (.nils, 0) ⟨by simp, .start _ _ _⟩ ?_ ?_
      · try simp only [SS, argList, aPut, aFill, ↓reduceIte, Nat.reduceEqDiff, Nat.reduceAdd, Nat.reduceLeDiff, reduceCtorEq, Int.reduceEq, Int.reduceLT, Int.reduceLE, Int.reduceNeg, Int.reduceAdd, Int.reduceSub, Int.reduceToNat]
        repeat ((with_reducible first | refine AWP_seq ?_ | refine AWP_block ?_ | refine AWP_scope ?_ | refine AWP_reg ?_ | refine AWP_draw ?_ | refine AWP_skip ?_ | refine AWP_ret ?_ | refine AWP_exit ?_ | (refine AWP_cond_true ?_ ?_; · simp only [SS, argList, aPut, aFill, ↓reduceIte, Nat.reduceEqDiff, Nat.reduceAdd, Nat.reduceLeDiff, reduceCtorEq, Int.reduceEq, Int.reduceLT, Int.reduceLE, Int.reduceNeg, Int.reduceAdd, Int.reduceSub, Int.reduceToNat]) | (refine AWP_cond_false ?_ ?_; · simp only [SS, argList, aPut, aFill, ↓reduceIte, Nat.reduceEqDiff, Nat.reduceAdd, Nat.reduceLeDiff, reduceCtorEq, Int.reduceEq, Int.reduceLT, Int.reduceLE, Int.reduceNeg, Int.reduceAdd, Int.reduceSub, Int.reduceToNat])); try simp only [SS, argList, aPut, aFill, ↓reduceIte, Nat.reduceEqDiff, Nat.reduceAdd, Nat.reduceLeDiff, reduceCtorEq, Int.reduceEq, Int.reduceLT, Int.reduceLE, Int.reduceNeg, Int.reduceAdd, Int.reduceSub, Int.reduceToNat])
        rfl
      · have hl30 := hl.1
        rintro ⟨v, i⟩ t ⟨hi, hG⟩
        simp only at hi hG
        by_cases hil : i < l.length
        · have hil' : (i : Int) < (l.length : Int) := by omega
          obtain ⟨x, hx⟩ : ∃ x, l[i]? = some x := ⟨_, List.getElem?_eq_getElem hil⟩
          have hg : (l.map DDM.cells)[i]? = some x.cells := by simp [hx]
          try simp only [SS, argList, aPut, aFill, ↓reduceIte, Nat.reduceEqDiff, Nat.reduceAdd, Nat.reduceLeDiff, reduceCtorEq, Int.reduceEq, Int.reduceLT, Int.reduceLE, Int.reduceNeg, Int.reduceAdd, Int.reduceSub, Int.reduceToNat, hil', hg, DDM.cells]
          repeat ((with_reducible first | refine AWP_seq ?_ | refine AWP_block ?_ | refine AWP_scope ?_ | refine AWP_reg ?_ | refine AWP_draw ?_ | refine AWP_skip ?_ | refine AWP_ret ?_ | refine AWP_exit ?_ | (refine AWP_cond_true ?_ ?_; · simp only [SS, argList, aPut, aFill, ↓reduceIte, Nat.reduceEqDiff, Nat.reduceAdd, Nat.reduceLeDiff, reduceCtorEq, Int.reduceEq, Int.reduceLT, Int.reduceLE, Int.reduceNeg, Int.reduceAdd, Int.reduceSub, Int.reduceToNat, hil', hg, DDM.cells]) | (refine AWP_cond_false ?_ ?_; · simp only [SS, argList, aPut, aFill, ↓reduceIte, Nat.reduceEqDiff, Nat.reduceAdd, Nat.reduceLeDiff, reduceCtorEq, Int.reduceEq, Int.reduceLT, Int.reduceLE, Int.reduceNeg, Int.reduceAdd, Int.reduceSub, Int.reduceToNat, hil', hg, DDM.cells])); try simp only [SS, argList, aPut, aFill, ↓reduceIte, Nat.reduceEqDiff, Nat.reduceAdd, Nat.reduceLeDiff, reduceCtorEq, Int.reduceEq, Int.reduceLT, Int.reduceLE, Int.reduceNeg, Int.reduceAdd, Int.reduceSub, Int.reduceToNat, hil', hg, DDM.cells])
          refine ok_grow hG (by simp) (by simp; omega) (by simp [maxLen]; omega) ?_
          intro v' t3 hG3 _ _
          try simp only [SS, argList, aPut, aFill, ↓reduceIte, Nat.reduceEqDiff, Nat.reduceAdd, Nat.reduceLeDiff, reduceCtorEq, Int.reduceEq, Int.reduceLT, Int.reduceLE, Int.reduceNeg, Int.reduceAdd, Int.reduceSub, Int.reduceToNat, wrap_succ (i := i) (by omega)]
          repeat ((with_reducible first | refine AWP_seq ?_ | refine AWP_block ?_ | refine AWP_scope ?_ | refine AWP_reg ?_ | refine AWP_draw ?_ | refine AWP_skip ?_ | refine AWP_ret ?_ | refine AWP_exit ?_ | (refine AWP_cond_true ?_ ?_; · simp only [SS, argList, aPut, aFill, ↓reduceIte, Nat.reduceEqDiff, Nat.reduceAdd, Nat.reduceLeDiff, reduceCtorEq, Int.reduceEq, Int.reduceLT, Int.reduceLE, Int.reduceNeg, Int.reduceAdd, Int.reduceSub, Int.reduceToNat, wrap_succ (i := i) (by omega)]) | (refine AWP_cond_false ?_ ?_; · simp only [SS, argList, aPut, aFill, ↓reduceIte, Nat.reduceEqDiff, Nat.reduceAdd, Nat.reduceLeDiff, reduceCtorEq, Int.reduceEq, Int.reduceLT, Int.reduceLE, Int.reduceNeg, Int.reduceAdd, Int.reduceSub, Int.reduceToNat, wrap_succ (i := i) (by omega)])); try simp only [SS, argList, aPut, aFill, ↓reduceIte, Nat.reduceEqDiff, Nat.reduceAdd, Nat.reduceLeDiff, reduceCtorEq, Int.reduceEq, Int.reduceLT, Int.reduceLE, Int.reduceNeg, Int.reduceAdd, Int.reduceSub, Int.reduceToNat, wrap_succ (i := i) (by omega)])
          refine ⟨(v', i + 1), rfl, ⟨by simp only; omega, ?_⟩, by simp only; omega⟩
          have : (l.take (i + 1)).map DDM.cells = (l.take i).map DDM.cells ++ [x.cells] := by rw [List.take_add_one, hx]; simp
          simp only [this]; exact hG3
        · have hil' : ¬ (i : Int) < (l.length : Int) := by omega
          rw [List.take_of_length_le (by omega)] at hG
          obtain ⟨hbd, hlt, _⟩ := (hk2.trans hG.kp).box
          try simp only [SS, argList, aPut, aFill, ↓reduceIte, Nat.reduceEqDiff, Nat.reduceAdd, Nat.reduceLeDiff, reduceCtorEq, Int.reduceEq, Int.reduceLT, Int.reduceLE, Int.reduceNeg, Int.reduceAdd, Int.reduceSub, Int.reduceToNat, hil', hbd, DDM.cells]
          repeat ((with_reducible first | refine AWP_seq ?_ | refine AWP_block ?_ | refine AWP_scope ?_ | refine AWP_reg ?_ | refine AWP_draw ?_ | refine AWP_skip ?_ | refine AWP_ret ?_ | refine AWP_exit ?_ | (refine AWP_cond_true ?_ ?_; · simp only [SS, argList, aPut, aFill, ↓reduceIte, Nat.reduceEqDiff, Nat.reduceAdd, Nat.reduceLeDiff, reduceCtorEq, Int.reduceEq, Int.reduceLT, Int.reduceLE, Int.reduceNeg, Int.reduceAdd, Int.reduceSub, Int.reduceToNat, hil', hbd, DDM.cells]) | (refine AWP_cond_false ?_ ?_; · simp only [SS, argList, aPut, aFill, ↓reduceIte, Nat.reduceEqDiff, Nat.reduceAdd, Nat.reduceLeDiff, reduceCtorEq, Int.reduceEq, Int.reduceLT, Int.reduceLE, Int.reduceNeg, Int.reduceAdd, Int.reduceSub, Int.reduceToNat, hil', hbd, DDM.cells])); try simp only [SS, argList, aPut, aFill, ↓reduceIte, Nat.reduceEqDiff, Nat.reduceAdd, Nat.reduceLeDiff, reduceCtorEq, Int.reduceEq, Int.reduceLT, Int.reduceLE, Int.reduceNeg, Int.reduceAdd, Int.reduceSub, Int.reduceToNat, hil', hbd, DDM.cells])
          refine ok_grow hG (by simp) (by simp; omega) (by simp [maxLen]; omega) ?_
          intro v' t3 hG3 _ _
          try simp only [SS, argList, aPut, aFill, ↓reduceIte, Nat.reduceEqDiff, Nat.reduceAdd, Nat.reduceLeDiff, reduceCtorEq, Int.reduceEq, Int.reduceLT, Int.reduceLE, Int.reduceNeg, Int.reduceAdd, Int.reduceSub, Int.reduceToNat]
          repeat ((with_reducible first | refine AWP_seq ?_ | refine AWP_block ?_ | refine AWP_scope ?_ | refine AWP_reg ?_ | refine AWP_draw ?_ | refine AWP_skip ?_ | refine AWP_ret ?_ | refine AWP_exit ?_ | (refine AWP_cond_true ?_ ?_; · simp only [SS, argList, aPut, aFill, ↓reduceIte, Nat.reduceEqDiff, Nat.reduceAdd, Nat.reduceLeDiff, reduceCtorEq, Int.reduceEq, Int.reduceLT, Int.reduceLE, Int.reduceNeg, Int.reduceAdd, Int.reduceSub, Int.reduceToNat]) | (refine AWP_cond_false ?_ ?_; · simp only [SS, argList, aPut, aFill, ↓reduceIte, Nat.reduceEqDiff, Nat.reduceAdd, Nat.reduceLeDiff, reduceCtorEq, Int.reduceEq, Int.reduceLT, Int.reduceLE, Int.reduceNeg, Int.reduceAdd, Int.reduceSub, Int.reduceToNat])); try simp only [SS, argList, aPut, aFill, ↓reduceIte, Nat.reduceEqDiff, Nat.reduceAdd, Nat.reduceLeDiff, reduceCtorEq, Int.reduceEq, Int.reduceLT, Int.reduceLE, Int.reduceNeg, Int.reduceAdd, Int.reduceSub, Int.reduceToNat])
          refine ACalls_frozeA (args' := [.list ((l ++ [d]).map DDM.cells)]) (es := (l ++ [d]).map DDM.cells) (by simpa [DDM.cells] using hG3.sl) (.cons .here .nil) ?_
          intro t4 hn4 hk4
          have kt4 : Kp s2 t4 := ⟨by rw [hn4]; exact hG3.kp.next, fun j hj => by rw [hk4 j (fun hm => by have := hG3.fresh j hm; omega), hG3.kp.keep j hj]⟩
          have hF2 : Few (l ++ [d]) := ⟨by simp; omega, fun x hx => by
            simp at hx
            rcases hx with hx | rfl
            · exact hl.2 x hx
            · exact hdd⟩
          refine (new_ok' t4 (l ++ [d]) hF2).mono ?_
          intro r s5 hN2
          obtain ⟨pU, fb, e2, k5, hU⟩ : ∃ (pU : AV) (fb : List AV), r = .tuple [pU, .agg fb] ∧ Kp t4 s5 ∧
              ((∃ U uid, newM (l ++ [d]) = some U ∧ pU = .ptr uid 0 0 0 ∧ fb = [.int .i64 0, .int .i64 0, .int .i64 0] ∧ TblTo t4 uid [] U s5) ∨ (newM (l ++ [d]) = none ∧ pU = .nilp ∧ ∃ e a b, e ≠ 0 ∧ fb = [.int .i64 e, .int .i64 a, .int .i64 b])) := by
            rcases hN2 with ⟨T, tid, h1, rfl, h2⟩ | ⟨h1, e, a, b, h2, rfl, h3⟩
            · exact ⟨_, _, rfl, h2.kept, .inl ⟨T, tid, h1, rfl, rfl, h2⟩⟩
            · exact ⟨_, _, rfl, h3, .inr ⟨h1, rfl, e, a, b, h2, rfl⟩⟩
          subst e2
          have hfb : fb.length = 3 := by rcases hU with ⟨T, tid, _, _, rfl, _⟩ | ⟨_, _, e, a, b, _, rfl⟩ <;> rfl
          obtain ⟨g1, g2, g3, rfl⟩ := three_of hfb
          have k15 : Kp s1 s5 := (hk12.trans kt4).trans k5
          have k0 : Kp (σ.push (.cells 65 0 5 [d.cells])) s5 := k1.trans k15
          have ha1 : s5.get s1.next = some (.cells 69 0 3 [[f1, f2, f3]]) := (kt4.trans k5).get hb2
          obtain ⟨hbd5, hlt5, _⟩ := k0.box
          have x1 := lt_ne (s5.lt ha1)
          have x2 := lt_ne hlt5
          rcases hT with ⟨T, tid, hT1, rfl, hT2, hT3⟩ | ⟨hT1, rfl, e, a, b, hT2, hT3⟩
          · cases hT2
            rcases hU with ⟨U, uid, hU1, rfl, hU2, hU3⟩ | ⟨hU1, rfl, e', a', b', hU2, hU3⟩
            · cases hU2
              obtain ⟨tT, tl⟩ := newM_tok hF hT1
              obtain ⟨tU, ul⟩ := newM_tok hF2 hU1
              obtain ⟨X, hX1, hX2⟩ := newM_more hF (fun c hc => by have := hdd.2.2 c hc; omega) hT1 hU1
              obtain ⟨pm, cm, ces, ov, hA, _⟩ := hT3
              obtain ⟨pm', cm', ces', ov', hA', _⟩ := hU3
              try simp only [SS, argList, aPut, aFill, ↓reduceIte, Nat.reduceEqDiff, Nat.reduceAdd, Nat.reduceLeDiff, reduceCtorEq, Int.reduceEq, Int.reduceLT, Int.reduceLE, Int.reduceNeg, Int.reduceAdd, Int.reduceSub, Int.reduceToNat]
              repeat ((with_reducible first | refine AWP_seq ?_ | refine AWP_block ?_ | refine AWP_scope ?_ | refine AWP_reg ?_ | refine AWP_draw ?_ | refine AWP_skip ?_ | refine AWP_ret ?_ | refine AWP_exit ?_ | (refine AWP_cond_true ?_ ?_; · simp only [SS, argList, aPut, aFill, ↓reduceIte, Nat.reduceEqDiff, Nat.reduceAdd, Nat.reduceLeDiff, reduceCtorEq, Int.reduceEq, Int.reduceLT, Int.reduceLE, Int.reduceNeg, Int.reduceAdd, Int.reduceSub, Int.reduceToNat]) | (refine AWP_cond_false ?_ ?_; · simp only [SS, argList, aPut, aFill, ↓reduceIte, Nat.reduceEqDiff, Nat.reduceAdd, Nat.reduceLeDiff, reduceCtorEq, Int.reduceEq, Int.reduceLT, Int.reduceLE, Int.reduceNeg, Int.reduceAdd, Int.reduceSub, Int.reduceToNat])); try simp only [SS, argList, aPut, aFill, ↓reduceIte, Nat.reduceEqDiff, Nat.reduceAdd, Nat.reduceLeDiff, reduceCtorEq, Int.reduceEq, Int.reduceLT, Int.reduceLE, Int.reduceNeg, Int.reduceAdd, Int.reduceSub, Int.reduceToNat])
              refine (all_ok' (hA.kp (k15.push _)) tT.sm tT.nd (by omega)).mono ?_
              rintro r t6 ⟨rfl, rfl⟩
              try simp only [SS, argList, aPut, aFill, ↓reduceIte, Nat.reduceEqDiff, Nat.reduceAdd, Nat.reduceLeDiff, reduceCtorEq, Int.reduceEq, Int.reduceLT, Int.reduceLE, Int.reduceNeg, Int.reduceAdd, Int.reduceSub, Int.reduceToNat]
              repeat ((with_reducible first | refine AWP_seq ?_ | refine AWP_block ?_ | refine AWP_scope ?_ | refine AWP_reg ?_ | refine AWP_draw ?_ | refine AWP_skip ?_ | refine AWP_ret ?_ | refine AWP_exit ?_ | (refine AWP_cond_true ?_ ?_; · simp only [SS, argList, aPut, aFill, ↓reduceIte, Nat.reduceEqDiff, Nat.reduceAdd, Nat.reduceLeDiff, reduceCtorEq, Int.reduceEq, Int.reduceLT, Int.reduceLE, Int.reduceNeg, Int.reduceAdd, Int.reduceSub, Int.reduceToNat]) | (refine AWP_cond_false ?_ ?_; · simp only [SS, argList, aPut, aFill, ↓reduceIte, Nat.reduceEqDiff, Nat.reduceAdd, Nat.reduceLeDiff, reduceCtorEq, Int.reduceEq, Int.reduceLT, Int.reduceLE, Int.reduceNeg, Int.reduceAdd, Int.reduceSub, Int.reduceToNat])); try simp only [SS, argList, aPut, aFill, ↓reduceIte, Nat.reduceEqDiff, Nat.reduceAdd, Nat.reduceLeDiff, reduceCtorEq, Int.reduceEq, Int.reduceLT, Int.reduceLE, Int.reduceNeg, Int.reduceAdd, Int.reduceSub, Int.reduceToNat])
              refine (all_ok' (hA'.kp (.pushed _ _)) tU.sm tU.nd (by have := hF2.len; omega)).mono ?_
              rintro r t6 ⟨rfl, rfl⟩
              have hXl : U.cs.length = T.cs.length + d.cons.length := by rw [hX1, List.length_append, hX2]
              have hw : IntKind.i64.wrap ((T.cs.length : Int) + (d.cons.length : Int)) = (T.cs.length : Int) + (d.cons.length : Int) := wrap_of (by omega) (by omega)
              have hee : ((U.cs.length : Int) = (T.cs.length : Int) + (d.cons.length : Int)) = True := by simp; omega
              have c1 : ((0 : Int) ≤ (T.cs.length : Int)) = True := by simp
              have c2 : ((T.cs.length : Int) ≤ (U.cs.length : Int)) = True := by simp; omega
              have c3 : (∀ (q : List AV), q ∈ List.map CON.cells U.cs → q.length = 5) = True := by simp [CON.len]
              try simp only [SS, argList, aPut, aFill, ↓reduceIte, Nat.reduceEqDiff, Nat.reduceAdd, Nat.reduceLeDiff, reduceCtorEq, Int.reduceEq, Int.reduceLT, Int.reduceLE, Int.reduceNeg, Int.reduceAdd, Int.reduceSub, Int.reduceToNat, hbd5, x2, DDM.cells, hw, hee, c2, c3, ← List.map_take]
              repeat ((with_reducible first | refine AWP_seq ?_ | refine AWP_block ?_ | refine AWP_scope ?_ | refine AWP_reg ?_ | refine AWP_draw ?_ | refine AWP_skip ?_ | refine AWP_ret ?_ | refine AWP_exit ?_ | (refine AWP_cond_true ?_ ?_; · simp only [SS, argList, aPut, aFill, ↓reduceIte, Nat.reduceEqDiff, Nat.reduceAdd, Nat.reduceLeDiff, reduceCtorEq, Int.reduceEq, Int.reduceLT, Int.reduceLE, Int.reduceNeg, Int.reduceAdd, Int.reduceSub, Int.reduceToNat, hbd5, x2, DDM.cells, hw, hee, c2, c3, ← List.map_take]) | (refine AWP_cond_false ?_ ?_; · simp only [SS, argList, aPut, aFill, ↓reduceIte, Nat.reduceEqDiff, Nat.reduceAdd, Nat.reduceLeDiff, reduceCtorEq, Int.reduceEq, Int.reduceLT, Int.reduceLE, Int.reduceNeg, Int.reduceAdd, Int.reduceSub, Int.reduceToNat, hbd5, x2, DDM.cells, hw, hee, c2, c3, ← List.map_take])); try simp only [SS, argList, aPut, aFill, ↓reduceIte, Nat.reduceEqDiff, Nat.reduceAdd, Nat.reduceLeDiff, reduceCtorEq, Int.reduceEq, Int.reduceLT, Int.reduceLE, Int.reduceNeg, Int.reduceAdd, Int.reduceSub, Int.reduceToNat, hbd5, x2, DDM.cells, hw, hee, c2, c3, ← List.map_take])
              refine (same_ok' (U.cs.take T.cs.length) T.cs _).mono ?_
              rintro r t6 ⟨rfl, rfl⟩
              have he : U.cs.take T.cs.length = T.cs := by rw [hX1, List.take_left']; rfl
              have hdd2 : @decide (U.cs.take T.cs.length = T.cs) (Classical.propDecidable _) = true := by simp [he]
              try simp only [SS, argList, aPut, aFill, ↓reduceIte, Nat.reduceEqDiff, Nat.reduceAdd, Nat.reduceLeDiff, reduceCtorEq, Int.reduceEq, Int.reduceLT, Int.reduceLE, Int.reduceNeg, Int.reduceAdd, Int.reduceSub, Int.reduceToNat, hdd2]
              repeat ((with_reducible first | refine AWP_seq ?_ | refine AWP_block ?_ | refine AWP_scope ?_ | refine AWP_reg ?_ | refine AWP_draw ?_ | refine AWP_skip ?_ | refine AWP_ret ?_ | refine AWP_exit ?_ | (refine AWP_cond_true ?_ ?_; · simp only [SS, argList, aPut, aFill, ↓reduceIte, Nat.reduceEqDiff, Nat.reduceAdd, Nat.reduceLeDiff, reduceCtorEq, Int.reduceEq, Int.reduceLT, Int.reduceLE, Int.reduceNeg, Int.reduceAdd, Int.reduceSub, Int.reduceToNat, hdd2]) | (refine AWP_cond_false ?_ ?_; · simp only [SS, argList, aPut, aFill, ↓reduceIte, Nat.reduceEqDiff, Nat.reduceAdd, Nat.reduceLeDiff, reduceCtorEq, Int.reduceEq, Int.reduceLT, Int.reduceLE, Int.reduceNeg, Int.reduceAdd, Int.reduceSub, Int.reduceToNat, hdd2])); try simp only [SS, argList, aPut, aFill, ↓reduceIte, Nat.reduceEqDiff, Nat.reduceAdd, Nat.reduceLeDiff, reduceCtorEq, Int.reduceEq, Int.reduceLT, Int.reduceLE, Int.reduceNeg, Int.reduceAdd, Int.reduceSub, Int.reduceToNat, hdd2])
              refine known_kp' _ fun s _ => ?_
              try simp only [SS, argList, aPut, aFill, ↓reduceIte, Nat.reduceEqDiff, Nat.reduceAdd, Nat.reduceLeDiff, reduceCtorEq, Int.reduceEq, Int.reduceLT, Int.reduceLE, Int.reduceNeg, Int.reduceAdd, Int.reduceSub, Int.reduceToNat]
              repeat ((with_reducible first | refine AWP_seq ?_ | refine AWP_block ?_ | refine AWP_scope ?_ | refine AWP_reg ?_ | refine AWP_draw ?_ | refine AWP_skip ?_ | refine AWP_ret ?_ | refine AWP_exit ?_ | (refine AWP_cond_true ?_ ?_; · simp only [SS, argList, aPut, aFill, ↓reduceIte, Nat.reduceEqDiff, Nat.reduceAdd, Nat.reduceLeDiff, reduceCtorEq, Int.reduceEq, Int.reduceLT, Int.reduceLE, Int.reduceNeg, Int.reduceAdd, Int.reduceSub, Int.reduceToNat]) | (refine AWP_cond_false ?_ ?_; · simp only [SS, argList, aPut, aFill, ↓reduceIte, Nat.reduceEqDiff, Nat.reduceAdd, Nat.reduceLeDiff, reduceCtorEq, Int.reduceEq, Int.reduceLT, Int.reduceLE, Int.reduceNeg, Int.reduceAdd, Int.reduceSub, Int.reduceToNat])); try simp only [SS, argList, aPut, aFill, ↓reduceIte, Nat.reduceEqDiff, Nat.reduceAdd, Nat.reduceLeDiff, reduceCtorEq, Int.reduceEq, Int.reduceLT, Int.reduceLE, Int.reduceNeg, Int.reduceAdd, Int.reduceSub, Int.reduceToNat])
            · cases hU3
              have hz : (e' = 0) = False := by simpa using hU2
              try simp only [SS, argList, aPut, aFill, ↓reduceIte, Nat.reduceEqDiff, Nat.reduceAdd, Nat.reduceLeDiff, reduceCtorEq, Int.reduceEq, Int.reduceLT, Int.reduceLE, Int.reduceNeg, Int.reduceAdd, Int.reduceSub, Int.reduceToNat, ha1, x1, hz]
              repeat ((with_reducible first | refine AWP_seq ?_ | refine AWP_block ?_ | refine AWP_scope ?_ | refine AWP_reg ?_ | refine AWP_draw ?_ | refine AWP_skip ?_ | refine AWP_ret ?_ | refine AWP_exit ?_ | (refine AWP_cond_true ?_ ?_; · simp only [SS, argList, aPut, aFill, ↓reduceIte, Nat.reduceEqDiff, Nat.reduceAdd, Nat.reduceLeDiff, reduceCtorEq, Int.reduceEq, Int.reduceLT, Int.reduceLE, Int.reduceNeg, Int.reduceAdd, Int.reduceSub, Int.reduceToNat, ha1, x1, hz]) | (refine AWP_cond_false ?_ ?_; · simp only [SS, argList, aPut, aFill, ↓reduceIte, Nat.reduceEqDiff, Nat.reduceAdd, Nat.reduceLeDiff, reduceCtorEq, Int.reduceEq, Int.reduceLT, Int.reduceLE, Int.reduceNeg, Int.reduceAdd, Int.reduceSub, Int.reduceToNat, ha1, x1, hz])); try simp only [SS, argList, aPut, aFill, ↓reduceIte, Nat.reduceEqDiff, Nat.reduceAdd, Nat.reduceLeDiff, reduceCtorEq, Int.reduceEq, Int.reduceLT, Int.reduceLE, Int.reduceNeg, Int.reduceAdd, Int.reduceSub, Int.reduceToNat, ha1, x1, hz])
              refine known_kp' _ fun s _ => ?_
              try simp only [SS, argList, aPut, aFill, ↓reduceIte, Nat.reduceEqDiff, Nat.reduceAdd, Nat.reduceLeDiff, reduceCtorEq, Int.reduceEq, Int.reduceLT, Int.reduceLE, Int.reduceNeg, Int.reduceAdd, Int.reduceSub, Int.reduceToNat]
              repeat ((with_reducible first | refine AWP_seq ?_ | refine AWP_block ?_ | refine AWP_scope ?_ | refine AWP_reg ?_ | refine AWP_draw ?_ | refine AWP_skip ?_ | refine AWP_ret ?_ | refine AWP_exit ?_ | (refine AWP_cond_true ?_ ?_; · simp only [SS, argList, aPut, aFill, ↓reduceIte, Nat.reduceEqDiff, Nat.reduceAdd, Nat.reduceLeDiff, reduceCtorEq, Int.reduceEq, Int.reduceLT, Int.reduceLE, Int.reduceNeg, Int.reduceAdd, Int.reduceSub, Int.reduceToNat]) | (refine AWP_cond_false ?_ ?_; · simp only [SS, argList, aPut, aFill, ↓reduceIte, Nat.reduceEqDiff, Nat.reduceAdd, Nat.reduceLeDiff, reduceCtorEq, Int.reduceEq, Int.reduceLT, Int.reduceLE, Int.reduceNeg, Int.reduceAdd, Int.reduceSub, Int.reduceToNat])); try simp only [SS, argList, aPut, aFill, ↓reduceIte, Nat.reduceEqDiff, Nat.reduceAdd, Nat.reduceLeDiff, reduceCtorEq, Int.reduceEq, Int.reduceLT, Int.reduceLE, Int.reduceNeg, Int.reduceAdd, Int.reduceSub, Int.reduceToNat])
          · cases hT3
            have hz : (e = 0) = False := by simpa using hT2
            rcases hU with ⟨U, uid, hU1, rfl, hU2, hU3⟩ | ⟨hU1, rfl, e', a', b', hU2, hU3⟩
            · cases hU2
              try simp only [SS, argList, aPut, aFill, ↓reduceIte, Nat.reduceEqDiff, Nat.reduceAdd, Nat.reduceLeDiff, reduceCtorEq, Int.reduceEq, Int.reduceLT, Int.reduceLE, Int.reduceNeg, Int.reduceAdd, Int.reduceSub, Int.reduceToNat, ha1, x1, hz]
              repeat ((with_reducible first | refine AWP_seq ?_ | refine AWP_block ?_ | refine AWP_scope ?_ | refine AWP_reg ?_ | refine AWP_draw ?_ | refine AWP_skip ?_ | refine AWP_ret ?_ | refine AWP_exit ?_ | (refine AWP_cond_true ?_ ?_; · simp only [SS, argList, aPut, aFill, ↓reduceIte, Nat.reduceEqDiff, Nat.reduceAdd, Nat.reduceLeDiff, reduceCtorEq, Int.reduceEq, Int.reduceLT, Int.reduceLE, Int.reduceNeg, Int.reduceAdd, Int.reduceSub, Int.reduceToNat, ha1, x1, hz]) | (refine AWP_cond_false ?_ ?_; · simp only [SS, argList, aPut, aFill, ↓reduceIte, Nat.reduceEqDiff, Nat.reduceAdd, Nat.reduceLeDiff, reduceCtorEq, Int.reduceEq, Int.reduceLT, Int.reduceLE, Int.reduceNeg, Int.reduceAdd, Int.reduceSub, Int.reduceToNat, ha1, x1, hz])); try simp only [SS, argList, aPut, aFill, ↓reduceIte, Nat.reduceEqDiff, Nat.reduceAdd, Nat.reduceLeDiff, reduceCtorEq, Int.reduceEq, Int.reduceLT, Int.reduceLE, Int.reduceNeg, Int.reduceAdd, Int.reduceSub, Int.reduceToNat, ha1, x1, hz])
              refine known_kp' _ fun s _ => ?_
              try simp only [SS, argList, aPut, aFill, ↓reduceIte, Nat.reduceEqDiff, Nat.reduceAdd, Nat.reduceLeDiff, reduceCtorEq, Int.reduceEq, Int.reduceLT, Int.reduceLE, Int.reduceNeg, Int.reduceAdd, Int.reduceSub, Int.reduceToNat]
              repeat ((with_reducible first | refine AWP_seq ?_ | refine AWP_block ?_ | refine AWP_scope ?_ | refine AWP_reg ?_ | refine AWP_draw ?_ | refine AWP_skip ?_ | refine AWP_ret ?_ | refine AWP_exit ?_ | (refine AWP_cond_true ?_ ?_; · simp only [SS, argList, aPut, aFill, ↓reduceIte, Nat.reduceEqDiff, Nat.reduceAdd, Nat.reduceLeDiff, reduceCtorEq, Int.reduceEq, Int.reduceLT, Int.reduceLE, Int.reduceNeg, Int.reduceAdd, Int.reduceSub, Int.reduceToNat]) | (refine AWP_cond_false ?_ ?_; · simp only [SS, argList, aPut, aFill, ↓reduceIte, Nat.reduceEqDiff, Nat.reduceAdd, Nat.reduceLeDiff, reduceCtorEq, Int.reduceEq, Int.reduceLT, Int.reduceLE, Int.reduceNeg, Int.reduceAdd, Int.reduceSub, Int.reduceToNat])); try simp only [SS, argList, aPut, aFill, ↓reduceIte, Nat.reduceEqDiff, Nat.reduceAdd, Nat.reduceLeDiff, reduceCtorEq, Int.reduceEq, Int.reduceLT, Int.reduceLE, Int.reduceNeg, Int.reduceAdd, Int.reduceSub, Int.reduceToNat])
            · cases hU3
              have hz2 : (e' = 0) = False := by simpa using hU2
              try simp only [SS, argList, aPut, aFill, ↓reduceIte, Nat.reduceEqDiff, Nat.reduceAdd, Nat.reduceLeDiff, reduceCtorEq, Int.reduceEq, Int.reduceLT, Int.reduceLE, Int.reduceNeg, Int.reduceAdd, Int.reduceSub, Int.reduceToNat, ha1, x1, hz, hz2]
              repeat ((with_reducible first | refine AWP_seq ?_ | refine AWP_block ?_ | refine AWP_scope ?_ | refine AWP_reg ?_ | refine AWP_draw ?_ | refine AWP_skip ?_ | refine AWP_ret ?_ | refine AWP_exit ?_ | (refine AWP_cond_true ?_ ?_; · simp only [SS, argList, aPut, aFill, ↓reduceIte, Nat.reduceEqDiff, Nat.reduceAdd, Nat.reduceLeDiff, reduceCtorEq, Int.reduceEq, Int.reduceLT, Int.reduceLE, Int.reduceNeg, Int.reduceAdd, Int.reduceSub, Int.reduceToNat, ha1, x1, hz, hz2]) | (refine AWP_cond_false ?_ ?_; · simp only [SS, argList, aPut, aFill, ↓reduceIte, Nat.reduceEqDiff, Nat.reduceAdd, Nat.reduceLeDiff, reduceCtorEq, Int.reduceEq, Int.reduceLT, Int.reduceLE, Int.reduceNeg, Int.reduceAdd, Int.reduceSub, Int.reduceToNat, ha1, x1, hz, hz2])); try simp only [SS, argList, aPut, aFill, ↓reduceIte, Nat.reduceEqDiff, Nat.reduceAdd, Nat.reduceLeDiff, reduceCtorEq, Int.reduceEq, Int.reduceLT, Int.reduceLE, Int.reduceNeg, Int.reduceAdd, Int.reduceSub, Int.reduceToNat, ha1, x1, hz, hz2])
              refine known_kp' _ fun s _ => ?_
              try simp only [SS, argList, aPut, aFill, ↓reduceIte, Nat.reduceEqDiff, Nat.reduceAdd, Nat.reduceLeDiff, reduceCtorEq, Int.reduceEq, Int.reduceLT, Int.reduceLE, Int.reduceNeg, Int.reduceAdd, Int.reduceSub, Int.reduceToNat]
              repeat ((with_reducible first | refine AWP_seq ?_ | refine AWP_block ?_ | refine AWP_scope ?_ | refine AWP_reg ?_ | refine AWP_draw ?_ | refine AWP_skip ?_ | refine AWP_ret ?_ | refine AWP_exit ?_ | (refine AWP_cond_true ?_ ?_; · simp only [SS, argList, aPut, aFill, ↓reduceIte, Nat.reduceEqDiff, Nat.reduceAdd, Nat.reduceLeDiff, reduceCtorEq, Int.reduceEq, Int.reduceLT, Int.reduceLE, Int.reduceNeg, Int.reduceAdd, Int.reduceSub, Int.reduceToNat]) | (refine AWP_cond_false ?_ ?_; · simp only [SS, argList, aPut, aFill, ↓reduceIte, Nat.reduceEqDiff, Nat.reduceAdd, Nat.reduceLeDiff, reduceCtorEq, Int.reduceEq, Int.reduceLT, Int.reduceLE, Int.reduceNeg, Int.reduceAdd, Int.reduceSub, Int.reduceToNat])); try simp only [SS, argList, aPut, aFill, ↓reduceIte, Nat.reduceEqDiff, Nat.reduceAdd, Nat.reduceLeDiff, reduceCtorEq, Int.reduceEq, Int.reduceLT, Int.reduceLE, Int.reduceNeg, Int.reduceAdd, Int.reduceSub, Int.reduceToNat])
    · try simp only [SS, argList, aPut, aFill, ↓reduceIte, Nat.reduceEqDiff, Nat.reduceAdd, Nat.reduceLeDiff, reduceCtorEq, Int.reduceEq, Int.reduceLT, Int.reduceLE, Int.reduceNeg, Int.reduceAdd, Int.reduceSub, Int.reduceToNat, hd]
      repeat ((with_reducible first | refine AWP_seq ?_ | refine AWP_block ?_ | refine AWP_scope ?_ | refine AWP_reg ?_ | refine AWP_draw ?_ | refine AWP_skip ?_ | refine AWP_ret ?_ | refine AWP_exit ?_ | (refine AWP_cond_true ?_ ?_; · simp only [SS, argList, aPut, aFill, ↓reduceIte, Nat.reduceEqDiff, Nat.reduceAdd, Nat.reduceLeDiff, reduceCtorEq, Int.reduceEq, Int.reduceLT, Int.reduceLE, Int.reduceNeg, Int.reduceAdd, Int.reduceSub, Int.reduceToNat, hd]) | (refine AWP_cond_false ?_ ?_; · simp only [SS, argList, aPut, aFill, ↓reduceIte, Nat.reduceEqDiff, Nat.reduceAdd, Nat.reduceLeDiff, reduceCtorEq, Int.reduceEq, Int.reduceLT, Int.reduceLE, Int.reduceNeg, Int.reduceAdd, Int.reduceSub, Int.reduceToNat, hd])); try simp only [SS, argList, aPut, aFill, ↓reduceIte, Nat.reduceEqDiff, Nat.reduceAdd, Nat.reduceLeDiff, reduceCtorEq, Int.reduceEq, Int.reduceLT, Int.reduceLE, Int.reduceNeg, Int.reduceAdd, Int.reduceSub, Int.reduceToNat, hd])
      refine known_kp' _ fun s _ => ?_
      try simp only [SS, argList, aPut, aFill, ↓reduceIte, Nat.reduceEqDiff, Nat.reduceAdd, Nat.reduceLeDiff, reduceCtorEq, Int.reduceEq, Int.reduceLT, Int.reduceLE, Int.reduceNeg, Int.reduceAdd, Int.reduceSub, Int.reduceToNat]
      repeat ((with_reducible first | refine AWP_seq ?_ | refine AWP_block ?_ | refine AWP_scope ?_ | refine AWP_reg ?_ | refine AWP_draw ?_ | refine AWP_skip ?_ | refine AWP_ret ?_ | refine AWP_exit ?_ | (refine AWP_cond_true ?_ ?_; · simp only [SS, argList, aPut, aFill, ↓reduceIte, Nat.reduceEqDiff, Nat.reduceAdd, Nat.reduceLeDiff, reduceCtorEq, Int.reduceEq, Int.reduceLT, Int.reduceLE, Int.reduceNeg, Int.reduceAdd, Int.reduceSub, Int.reduceToNat]) | (refine AWP_cond_false ?_ ?_; · simp only [SS, argList, aPut, aFill, ↓reduceIte, Nat.reduceEqDiff, Nat.reduceAdd, Nat.reduceLeDiff, reduceCtorEq, Int.reduceEq, Int.reduceLT, Int.reduceLE, Int.reduceNeg, Int.reduceAdd, Int.reduceSub, Int.reduceToNat])); try simp only [SS, argList, aPut, aFill, ↓reduceIte, Nat.reduceEqDiff, Nat.reduceAdd, Nat.reduceLeDiff, reduceCtorEq, Int.reduceEq, Int.reduceLT, Int.reduceLE, Int.reduceNeg, Int.reduceAdd, Int.reduceSub, Int.reduceToNat])
  · try simp only [SS, argList, aPut, aFill, ↓reduceIte, Nat.reduceEqDiff, Nat.reduceAdd, Nat.reduceLeDiff, reduceCtorEq, Int.reduceEq, Int.reduceLT, Int.reduceLE, Int.reduceNeg, Int.reduceAdd, Int.reduceSub, Int.reduceToNat, hl]
    repeat ((with_reducible first | refine AWP_seq ?_ | refine AWP_block ?_ | refine AWP_scope ?_ | refine AWP_reg ?_ | refine AWP_draw ?_ | refine AWP_skip ?_ | refine AWP_ret ?_ | refine AWP_exit ?_ | (refine AWP_cond_true ?_ ?_; · simp only [SS, argList, aPut, aFill, ↓reduceIte, Nat.reduceEqDiff, Nat.reduceAdd, Nat.reduceLeDiff, reduceCtorEq, Int.reduceEq, Int.reduceLT, Int.reduceLE, Int.reduceNeg, Int.reduceAdd, Int.reduceSub, Int.reduceToNat, hl]) | (refine AWP_cond_false ?_ ?_; · simp only [SS, argList, aPut, aFill, ↓reduceIte, Nat.reduceEqDiff, Nat.reduceAdd, Nat.reduceLeDiff, reduceCtorEq, Int.reduceEq, Int.reduceLT, Int.reduceLE, Int.reduceNeg, Int.reduceAdd, Int.reduceSub, Int.reduceToNat, hl])); try simp only [SS, argList, aPut, aFill, ↓reduceIte, Nat.reduceEqDiff, Nat.reduceAdd, Nat.reduceLeDiff, reduceCtorEq, Int.reduceEq, Int.reduceLT, Int.reduceLE, Int.reduceNeg, Int.reduceAdd, Int.reduceSub, Int.reduceToNat, hl])
    refine known_kp' _ fun s _ => ?_
    try simp only [SS, argList, aPut, aFill, ↓reduceIte, Nat.reduceEqDiff, Nat.reduceAdd, Nat.reduceLeDiff, reduceCtorEq, Int.reduceEq, Int.reduceLT, Int.reduceLE, Int.reduceNeg, Int.reduceAdd, Int.reduceSub, Int.reduceToNat]
    repeat ((with_reducible first | refine AWP_seq ?_ | refine AWP_block ?_ | refine AWP_scope ?_ | refine AWP_reg ?_ | refine AWP_draw ?_ | refine AWP_skip ?_ | refine AWP_ret ?_ | refine AWP_exit ?_ | (refine AWP_cond_true ?_ ?_; · simp only [SS, argList, aPut, aFill, ↓reduceIte, Nat.reduceEqDiff, Nat.reduceAdd, Nat.reduceLeDiff, reduceCtorEq, Int.reduceEq, Int.reduceLT, Int.reduceLE, Int.reduceNeg, Int.reduceAdd, Int.reduceSub, Int.reduceToNat]) | (refine AWP_cond_false ?_ ?_; · simp only [SS, argList, aPut, aFill, ↓reduceIte, Nat.reduceEqDiff, Nat.reduceAdd, Nat.reduceLeDiff, reduceCtorEq, Int.reduceEq, Int.reduceLT, Int.reduceLE, Int.reduceNeg, Int.reduceAdd, Int.reduceSub, Int.reduceToNat])); try simp only [SS, argList, aPut, aFill, ↓reduceIte, Nat.reduceEqDiff, Nat.reduceAdd, Nat.reduceLeDiff, reduceCtorEq, Int.reduceEq, Int.reduceLT, Int.reduceLE, Int.reduceNeg, Int.reduceAdd, Int.reduceSub, Int.reduceToNat])
end Go.Proofs.Ytoejjhehpbmgbaa
