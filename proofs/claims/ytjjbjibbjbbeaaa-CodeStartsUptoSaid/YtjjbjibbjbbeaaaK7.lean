/- A part of the proof of the claim: the abstract layer, the contracts of the functions, the law (no condition of its own). -/
import Derived.Test.YtjjbjibbjbbeaaaK6
/- Which expressions may be, exactly: the document's answer. -/
set_option linter.unusedVariables false
set_option linter.unusedSimpArgs false
namespace Go.AL
def wantE (k : Int) (p a b q : Nat) : List Int := if k = 5 ∨ k = 9 then [0, 2, 0, 0, 0] else if k = 6 then [p, 1, 0, 0, 0] else if k = 7 then [0, 1, 0, b, 0] else if k = 8 then [0, 1, a, 0, 0] else if k = 11 then [0, 1, 0, 0, q] else [0, 0, 0, 0, 0]
def nmE (k : Int) (nm : ByteArray) : ByteArray := if k = 1 ∨ k = 2 ∨ k = 4 then nm else ⟨#[]⟩
def nE (k n : Int) : Int := if k = 3 ∨ k = 4 ∨ k = 9 then n else 0
def arE (k ar : Int) : Int := if k = 4 then ar else 0
def OkP (gl ins : List ByteArray) (k : Int) (nm : ByteArray) (n ar : Int) (ps : List ByteArray) (a : Nat) (bn : List ByteArray) : Prop :=
  if k = 1 then nm ∈ ins else if k = 2 then nm ∈ gl ∨ 0 < opS nm else if k = 4 then nm.size ≠ 0 ∧ 0 ≤ n ∧ 0 ≤ ar else if k = 9 then 1 ≤ n ∧ n ≤ 11 else if k = 6 then 0 < ps.length ∧ Locs ps else if k = 7 then 0 < bn.length ∧ Locs bn else if k = 8 then 0 < a else True
theorem headR_iff {gl ins : List ByteArray} {k : Int} {nm : ByteArray} {n ar : Int} {ps : List ByteArray} {g a : Nat} {bn : List ByteArray} {q : Nat} :
    HeadOK gl ins k nm n ar ps g a bn q ↔ (1 ≤ k ∧ k ≤ 11) ∧ OkP gl ins k nm n ar ps a bn ∧ nm = nmE k nm ∧ n = nE k n ∧ ar = arE k ar ∧ [(ps.length : Int), g, a, bn.length, q] = wantE k ps.length a bn.length q := by
  by_cases hk : 1 ≤ k ∧ k ≤ 11
  · have : k = 1 ∨ k = 2 ∨ k = 3 ∨ k = 4 ∨ k = 5 ∨ k = 6 ∨ k = 7 ∨ k = 8 ∨ k = 9 ∨ k = 10 ∨ k = 11 := by omega
    rcases this with rfl | rfl | rfl | rfl | rfl | rfl | rfl | rfl | rfl | rfl | rfl
    all_goals simp only [HeadOK, OkP, nmE, nE, arE, wantE, Shp, Int.reduceEq, reduceIte, or_false, false_or, or_self, or_true, true_or, str_nil, List.cons.injEq, and_true, true_and]
    all_goals constructor
    all_goals intro h
    all_goals grind
  · refine ⟨fun h => absurd (head_no h) hk, fun h => absurd h.1 hk⟩
theorem mem_at {α : Type} {l : List α} {i : Nat} {x : α} (h : l[i]? = some x) : x ∈ l.take (i + 1) := by rw [List.take_add_one, h]; simp
theorem mem_take_up {α : Type} {l : List α} {i : Nat} {x : α} (h : x ∈ l.take i) : x ∈ l.take (i + 1) := by rw [List.take_add_one]; exact List.mem_append_left _ h
end Go.AL
namespace Go.Proofs.Ytjjbjibbjbbeaaa
open Go.AL
theorem has2E (l : List ByteArray) (hl : l.length ≤ 9223372036854775806) (k : ByteArray) (σ : Store) : ACalls Try.prog 52 [strs l, .str k] σ fun r σ' => (∃ b : Bool, r = .bool b ∧ (b = true ↔ k ∈ l)) ∧ σ' = σ :=
  (has2 l hl k σ).mono fun _ _ h => ⟨⟨_, h.1, @decide_eq_true_iff _ (Classical.propDecidable _)⟩, h.2⟩
theorem opE2 (s : ByteArray) (σ : Store) : ACalls Try.prog 50 [.str s] σ fun r σ' => (∃ b : Int, r = .int .i64 b ∧ b = opS s) ∧ σ' = σ := (opE s σ).mono fun _ _ h => ⟨⟨_, h.1, rfl⟩, h.2⟩
abbrev RightD (x : Cr) : Prop := ∀ (σ : Store) (gl ins : List ByteArray), gl.length ≤ 100000000 → ins.length + x.bulk ≤ 50000000 → ACalls Try.prog 53 [.agg x.cells, strs gl, strs ins] σ fun r s => (∃ b : Bool, r = .bool b ∧ (b = true ↔ x.RtE gl ins)) ∧ s = σ
set_option maxHeartbeats 2000000 in
theorem rightDE : ∀ x : Cr, RightD x := by
  intro x
  induction x using Cr.ind with
  | _ k nm n ar ps gs al bs pk ih1 ih2 ih3 ih4 =>
    intro σ gl ins hgl hbk
    rw [Cr.bulk] at hbk
    have l1 := Cr.lenL gs; have l2 := Cr.lenA al; have l3 := Cr.lenB bs; have l4 := Cr.lenP pk
    have hcnt := fun s => counts_ok k nm n ar ps gs al bs pk s
    rw [Cr.cells_eq] at hcnt
    refine ACalls_fp (p := RE ((Cr.mk k nm n ar ps gs al bs pk).RtE gl ins)) ?_
    refine in53 (by simp) ?_
    unfold c53
    rw [Cr.cells_eq]
    try simp only [YY, ↓reduceIte, Nat.reduceEqDiff, Nat.reduceAdd, Nat.reduceLeDiff, reduceCtorEq, Int.reduceEq, Int.reduceLT, Int.reduceLE, Int.reduceNeg, Int.reduceAdd, Int.reduceSub, Int.reduceToNat]
    iterate 10 ((with_reducible refine WW (by decide) ?_); refine unr ?_; try simp only [YY, ↓reduceIte, Nat.reduceEqDiff, Nat.reduceAdd, Nat.reduceLeDiff, reduceCtorEq, Int.reduceEq, Int.reduceLT, Int.reduceLE, Int.reduceNeg, Int.reduceAdd, Int.reduceSub, Int.reduceToNat])
    generalize hs : Store.push _ _ = s1
    have k1 : Kp σ s1 := by rw [← hs]; exact .pushed _ _
    have he : s1.get σ.next = some (.cells 54 0 9 [[.int .i64 k, .str nm, .int .i64 n, .int .i64 ar, strs ps, .list (gs.map Cr.cells), .list (al.map altC), .list (bs.map bindC), .list (pk.map pickC)]]) := by rw [← hs]; simp [Store.push_get]
    clear hs
    refine AWP_cut [1, 2, 3, 7, 8, 9, 10, 11, 12] (fun b : Bool => [strs gl, strs ins, .ptr σ.next 0 0 0, intsC (wantE k ps.length al.length bs.length pk.length), .str (nmE k nm), .int .i64 (nE k n), .int .i64 (arE k ar), strs (innerE k ins ps (bs.map (·.1))), .bool b])
      (fun b s => s1 = s ∧ Hid ((1 ≤ k ∧ k ≤ 11) ∧ (b = true ↔ OkP gl ins k nm n ar ps al.length (bs.map (·.1))))) ?_ ?_
    · by_cases h1 : k = 1
      · subst h1
        refine raw ?_
        repeat' (first | (with_reducible refine unr ?_; try simp only [YY, ↓reduceIte, Nat.reduceEqDiff, Nat.reduceAdd, Nat.reduceLeDiff, reduceCtorEq, Int.reduceEq, Int.reduceLT, Int.reduceLE, Int.reduceNeg, Int.reduceAdd, Int.reduceSub, Int.reduceToNat, he, str_nil, *]) | (with_reducible first | refine WW (by decide) ?_ | refine ok_idx (by first | assumption | omega) (fun b hb => raw ?_) | refine ok_iad (by first | assumption | omega) (fun x hx hxm => raw ?_) | refine And.intro (by omega) (raw ?_) | (refine guardW_b (fun h => raw ?_) (fun h => raw ?_) <;> try simp only [Ty] at h) | (refine ePick_b (fun h => raw ?_) (fun h => raw ?_) <;> try simp only [Ty] at h) | (refine condW_b (fun h => raw ?_) (fun h => raw ?_) <;> try simp only [Ty] at h) | (refine (has2E ins (by omega) _ _).mono ?_; rintro _ _ ⟨⟨b, rfl, hb⟩, rfl⟩; refine raw ?_)))
        exact ⟨_, rfl, ⟨by simp only [OkP, Int.reduceEq, reduceIte, Int.reduceLE]; exact hb⟩⟩
      by_cases h2 : k = 2
      · subst h2
        refine raw ?_
        repeat' (first | (with_reducible refine unr ?_; try simp only [YY, ↓reduceIte, Nat.reduceEqDiff, Nat.reduceAdd, Nat.reduceLeDiff, reduceCtorEq, Int.reduceEq, Int.reduceLT, Int.reduceLE, Int.reduceNeg, Int.reduceAdd, Int.reduceSub, Int.reduceToNat, he, str_nil, *]) | (with_reducible first | refine WW (by decide) ?_ | refine ok_idx (by first | assumption | omega) (fun b hb => raw ?_) | refine ok_iad (by first | assumption | omega) (fun x hx hxm => raw ?_) | refine And.intro (by omega) (raw ?_) | (refine guardW_b (fun h => raw ?_) (fun h => raw ?_) <;> try simp only [Ty] at h) | (refine ePick_b (fun h => raw ?_) (fun h => raw ?_) <;> try simp only [Ty] at h) | (refine condW_b (fun h => raw ?_) (fun h => raw ?_) <;> try simp only [Ty] at h) | (refine (has2E gl (by omega) _ _).mono ?_; rintro _ _ ⟨⟨b, rfl, hb⟩, rfl⟩; refine raw ?_) | (refine (opE2 _ _).mono ?_; rintro _ _ ⟨⟨b, rfl, hb⟩, rfl⟩; refine raw ?_)))
        · exact ⟨_, rfl, ⟨by simp only [OkP, Int.reduceEq, reduceIte, Int.reduceLE]; exact ⟨fun _ => .inl (by first | exact hb.1 h | exact hb.1 ‹_›), fun _ => by first | rfl | trivial⟩⟩⟩
        · exact ⟨_, rfl, ⟨by simp only [OkP, Int.reduceEq, reduceIte, Int.reduceLE]; rw [decide_eq_true_iff]; exact ⟨fun e => .inr e, fun hh => hh.resolve_left (iff_f (p := nm ∈ gl) (by assumption) h)⟩⟩⟩
      by_cases h3 : k = 3
      · subst h3
        refine raw ?_
        repeat' (first | (with_reducible refine unr ?_; try simp only [YY, ↓reduceIte, Nat.reduceEqDiff, Nat.reduceAdd, Nat.reduceLeDiff, reduceCtorEq, Int.reduceEq, Int.reduceLT, Int.reduceLE, Int.reduceNeg, Int.reduceAdd, Int.reduceSub, Int.reduceToNat, he, str_nil, *]) | (with_reducible first | refine WW (by decide) ?_ | refine ok_idx (by first | assumption | omega) (fun b hb => raw ?_) | refine ok_iad (by first | assumption | omega) (fun x hx hxm => raw ?_) | refine And.intro (by omega) (raw ?_) | (refine guardW_b (fun h => raw ?_) (fun h => raw ?_) <;> try simp only [Ty] at h) | (refine ePick_b (fun h => raw ?_) (fun h => raw ?_) <;> try simp only [Ty] at h) | (refine condW_b (fun h => raw ?_) (fun h => raw ?_) <;> try simp only [Ty] at h)))
        exact ⟨_, rfl, ⟨by simp only [OkP, Int.reduceEq, reduceIte, Int.reduceLE]⟩⟩
      by_cases h10 : k = 10
      · subst h10
        refine raw ?_
        repeat' (first | (with_reducible refine unr ?_; try simp only [YY, ↓reduceIte, Nat.reduceEqDiff, Nat.reduceAdd, Nat.reduceLeDiff, reduceCtorEq, Int.reduceEq, Int.reduceLT, Int.reduceLE, Int.reduceNeg, Int.reduceAdd, Int.reduceSub, Int.reduceToNat, he, str_nil, *]) | (with_reducible first | refine WW (by decide) ?_ | refine ok_idx (by first | assumption | omega) (fun b hb => raw ?_) | refine ok_iad (by first | assumption | omega) (fun x hx hxm => raw ?_) | refine And.intro (by omega) (raw ?_) | (refine guardW_b (fun h => raw ?_) (fun h => raw ?_) <;> try simp only [Ty] at h) | (refine ePick_b (fun h => raw ?_) (fun h => raw ?_) <;> try simp only [Ty] at h) | (refine condW_b (fun h => raw ?_) (fun h => raw ?_) <;> try simp only [Ty] at h)))
        exact ⟨_, rfl, ⟨by simp only [OkP, Int.reduceEq, reduceIte, Int.reduceLE]⟩⟩
      by_cases h4 : k = 4
      · subst h4
        refine raw ?_
        repeat' (first | (with_reducible refine unr ?_; try simp only [YY, ↓reduceIte, Nat.reduceEqDiff, Nat.reduceAdd, Nat.reduceLeDiff, reduceCtorEq, Int.reduceEq, Int.reduceLT, Int.reduceLE, Int.reduceNeg, Int.reduceAdd, Int.reduceSub, Int.reduceToNat, he, str_nil, *]) | (with_reducible first | refine WW (by decide) ?_ | refine ok_idx (by first | assumption | omega) (fun b hb => raw ?_) | refine ok_iad (by first | assumption | omega) (fun x hx hxm => raw ?_) | refine And.intro (by omega) (raw ?_) | (refine guardW_b (fun h => raw ?_) (fun h => raw ?_) <;> try simp only [Ty] at h) | (refine ePick_b (fun h => raw ?_) (fun h => raw ?_) <;> try simp only [Ty] at h) | (refine condW_b (fun h => raw ?_) (fun h => raw ?_) <;> try simp only [Ty] at h)))
        · exact ⟨_, rfl, ⟨by simp only [OkP, Int.reduceEq, reduceIte, Int.reduceLE]; rw [decide_eq_true_iff]; omega⟩⟩
        all_goals exact ⟨_, rfl, ⟨by simp only [OkP, Int.reduceEq, reduceIte, Int.reduceLE]; exact ⟨fun e => (by first | cases e | exact e.elim), fun hh => by omega⟩⟩⟩
      by_cases h5 : k = 5
      · subst h5
        refine raw ?_
        repeat' (first | (with_reducible refine unr ?_; try simp only [YY, ↓reduceIte, Nat.reduceEqDiff, Nat.reduceAdd, Nat.reduceLeDiff, reduceCtorEq, Int.reduceEq, Int.reduceLT, Int.reduceLE, Int.reduceNeg, Int.reduceAdd, Int.reduceSub, Int.reduceToNat, he, str_nil, *]) | (with_reducible first | refine WW (by decide) ?_ | refine ok_idx (by first | assumption | omega) (fun b hb => raw ?_) | refine ok_iad (by first | assumption | omega) (fun x hx hxm => raw ?_) | refine And.intro (by omega) (raw ?_) | (refine guardW_b (fun h => raw ?_) (fun h => raw ?_) <;> try simp only [Ty] at h) | (refine ePick_b (fun h => raw ?_) (fun h => raw ?_) <;> try simp only [Ty] at h) | (refine condW_b (fun h => raw ?_) (fun h => raw ?_) <;> try simp only [Ty] at h)))
        exact ⟨_, rfl, ⟨by simp only [OkP, Int.reduceEq, reduceIte, Int.reduceLE]⟩⟩
      by_cases h9 : k = 9
      · subst h9
        refine raw ?_
        repeat' (first | (with_reducible refine unr ?_; try simp only [YY, ↓reduceIte, Nat.reduceEqDiff, Nat.reduceAdd, Nat.reduceLeDiff, reduceCtorEq, Int.reduceEq, Int.reduceLT, Int.reduceLE, Int.reduceNeg, Int.reduceAdd, Int.reduceSub, Int.reduceToNat, he, str_nil, *]) | (with_reducible first | refine WW (by decide) ?_ | refine ok_idx (by first | assumption | omega) (fun b hb => raw ?_) | refine ok_iad (by first | assumption | omega) (fun x hx hxm => raw ?_) | refine And.intro (by omega) (raw ?_) | (refine guardW_b (fun h => raw ?_) (fun h => raw ?_) <;> try simp only [Ty] at h) | (refine ePick_b (fun h => raw ?_) (fun h => raw ?_) <;> try simp only [Ty] at h) | (refine condW_b (fun h => raw ?_) (fun h => raw ?_) <;> try simp only [Ty] at h)))
        · exact ⟨_, rfl, ⟨by simp only [OkP, Int.reduceEq, reduceIte, Int.reduceLE]; rw [decide_eq_true_iff]; omega⟩⟩
        all_goals exact ⟨_, rfl, ⟨by simp only [OkP, Int.reduceEq, reduceIte, Int.reduceLE]; exact ⟨fun e => (by first | cases e | exact e.elim), fun hh => by omega⟩⟩⟩
      by_cases h6 : k = 6
      · subst h6
        refine raw ?_
        repeat' (first | (with_reducible refine unr ?_; try simp only [YY, ↓reduceIte, Nat.reduceEqDiff, Nat.reduceAdd, Nat.reduceLeDiff, reduceCtorEq, Int.reduceEq, Int.reduceLT, Int.reduceLE, Int.reduceNeg, Int.reduceAdd, Int.reduceSub, Int.reduceToNat, he, str_nil, *]) | (with_reducible first | refine WW (by decide) ?_ | refine ok_idx (by first | assumption | omega) (fun b hb => raw ?_) | refine ok_iad (by first | assumption | omega) (fun x hx hxm => raw ?_) | refine And.intro (by omega) (raw ?_) | (refine guardW_b (fun h => raw ?_) (fun h => raw ?_) <;> try simp only [Ty] at h) | (refine ePick_b (fun h => raw ?_) (fun h => raw ?_) <;> try simp only [Ty] at h) | (refine condW_b (fun h => raw ?_) (fun h => raw ?_) <;> try simp only [Ty] at h) | (refine (localsE2 _ (by omega) _).mono ?_; rintro _ _ ⟨⟨b, rfl, hb⟩, rfl⟩; refine raw ?_) | (refine (joined15 _ _ (by omega) _).mono ?_; rintro _ _ ⟨rfl, rfl⟩; refine raw ?_)))
        · exact ⟨_, rfl, ⟨by simp only [OkP, Int.reduceEq, reduceIte, Int.reduceLE]; exact ⟨fun e => ⟨by omega, hb.1 e⟩, fun hh => hb.2 hh.2⟩⟩⟩
        all_goals exact ⟨_, rfl, ⟨by simp only [OkP, Int.reduceEq, reduceIte, Int.reduceLE]; exact ⟨fun e => (by first | cases e | exact e.elim), fun hh => by omega⟩⟩⟩
      by_cases h7 : k = 7
      · subst h7
        refine raw ?_
        repeat' (first | (with_reducible refine unr ?_; try simp only [YY, ↓reduceIte, Nat.reduceEqDiff, Nat.reduceAdd, Nat.reduceLeDiff, reduceCtorEq, Int.reduceEq, Int.reduceLT, Int.reduceLE, Int.reduceNeg, Int.reduceAdd, Int.reduceSub, Int.reduceToNat, he, str_nil, *]) | (with_reducible first | refine WW (by decide) ?_ | refine ok_idx (by first | assumption | omega) (fun b hb => raw ?_) | refine ok_iad (by first | assumption | omega) (fun x hx hxm => raw ?_) | refine And.intro (by omega) (raw ?_) | (refine guardW_b (fun h => raw ?_) (fun h => raw ?_) <;> try simp only [Ty] at h) | (refine ePick_b (fun h => raw ?_) (fun h => raw ?_) <;> try simp only [Ty] at h) | (refine condW_b (fun h => raw ?_) (fun h => raw ?_) <;> try simp only [Ty] at h) | (refine (localsE2 _ (by (try simp); omega) _).mono ?_; rintro _ _ ⟨⟨b, rfl, hb⟩, rfl⟩; refine raw ?_) | (refine (names15 _ (by omega) _).mono ?_; rintro _ _ ⟨rfl, rfl⟩; refine raw ?_) | (refine (joined15 _ _ (by (try simp); omega) _).mono ?_; rintro _ _ ⟨rfl, rfl⟩; refine raw ?_)))
        · exact ⟨_, rfl, ⟨by simp only [OkP, Int.reduceEq, reduceIte, Int.reduceLE]; exact ⟨fun e => ⟨by rw [List.length_map]; omega, hb.1 e⟩, fun hh => hb.2 hh.2⟩⟩⟩
        all_goals exact ⟨_, rfl, ⟨by simp only [OkP, Int.reduceEq, reduceIte, Int.reduceLE]; exact ⟨fun e => (by first | cases e | exact e.elim), fun hh => by have := hh.1; rw [List.length_map] at this; omega⟩⟩⟩
      by_cases h8 : k = 8
      · subst h8
        refine raw ?_
        repeat' (first | (with_reducible refine unr ?_; try simp only [YY, ↓reduceIte, Nat.reduceEqDiff, Nat.reduceAdd, Nat.reduceLeDiff, reduceCtorEq, Int.reduceEq, Int.reduceLT, Int.reduceLE, Int.reduceNeg, Int.reduceAdd, Int.reduceSub, Int.reduceToNat, he, str_nil, *]) | (with_reducible first | refine WW (by decide) ?_ | refine ok_idx (by first | assumption | omega) (fun b hb => raw ?_) | refine ok_iad (by first | assumption | omega) (fun x hx hxm => raw ?_) | refine And.intro (by omega) (raw ?_) | (refine guardW_b (fun h => raw ?_) (fun h => raw ?_) <;> try simp only [Ty] at h) | (refine ePick_b (fun h => raw ?_) (fun h => raw ?_) <;> try simp only [Ty] at h) | (refine condW_b (fun h => raw ?_) (fun h => raw ?_) <;> try simp only [Ty] at h)))
        exact ⟨_, rfl, ⟨by simp only [OkP, Int.reduceEq, reduceIte, Int.reduceLE]; rw [decide_eq_true_iff]; omega⟩⟩
      by_cases h11 : k = 11
      · subst h11
        refine raw ?_
        repeat' (first | (with_reducible refine unr ?_; try simp only [YY, ↓reduceIte, Nat.reduceEqDiff, Nat.reduceAdd, Nat.reduceLeDiff, reduceCtorEq, Int.reduceEq, Int.reduceLT, Int.reduceLE, Int.reduceNeg, Int.reduceAdd, Int.reduceSub, Int.reduceToNat, he, str_nil, *]) | (with_reducible first | refine WW (by decide) ?_ | refine ok_idx (by first | assumption | omega) (fun b hb => raw ?_) | refine ok_iad (by first | assumption | omega) (fun x hx hxm => raw ?_) | refine And.intro (by omega) (raw ?_) | (refine guardW_b (fun h => raw ?_) (fun h => raw ?_) <;> try simp only [Ty] at h) | (refine ePick_b (fun h => raw ?_) (fun h => raw ?_) <;> try simp only [Ty] at h) | (refine condW_b (fun h => raw ?_) (fun h => raw ?_) <;> try simp only [Ty] at h)))
        exact ⟨_, rfl, ⟨by simp only [OkP, Int.reduceEq, reduceIte, Int.reduceLE]⟩⟩
      refine raw ?_
      repeat (first | (with_reducible refine unr ?_; try simp only [YY, ↓reduceIte, Nat.reduceEqDiff, Nat.reduceAdd, Nat.reduceLeDiff, reduceCtorEq, Int.reduceEq, Int.reduceLT, Int.reduceLE, Int.reduceNeg, Int.reduceAdd, Int.reduceSub, Int.reduceToNat, he, h1, h2, h3, h4, h5, h6, h7, h8, h9, h10, h11]) | (with_reducible refine WW (by decide) ?_))
      exact FP.same k1 (RE.f fun hh => by have h' := head_no (rtE_iff.1 hh).hh; omega) (.bool _)
    rintro b _ ⟨rfl, hb⟩
    have hcn : ∀ c : Bool, (c = true ↔ [(ps.length : Int), gs.length, al.length, bs.length, pk.length] = wantE k ps.length al.length bs.length pk.length) → b = true → nm = nmE k nm → n = nE k n → ar = arE k ar → (c = true ↔ HeadOK gl ins k nm n ar ps gs.length al.length (bs.map (·.1)) pk.length) := by
      intro c hc h1 h2 h3 h4
      rw [headR_iff, List.length_map]
      exact hc.trans ⟨fun e => ⟨hb.out.1, hb.out.2.1 h1, h2, h3, h4, e⟩, fun h => h.2.2.2.2.2⟩
    have hno : ∀ h : HeadOK gl ins k nm n ar ps gs.length al.length (bs.map (·.1)) pk.length, b = true ∧ nm = nmE k nm ∧ n = nE k n ∧ ar = arE k ar := by
      intro h
      have h := headR_iff.1 h
      exact ⟨hb.out.2.2 h.2.1, h.2.2.1, h.2.2.2.1, h.2.2.2.2.1⟩
    clear hb
    have hinl : (innerE k ins ps (bs.map (·.1))).length ≤ ins.length + ps.length + bs.length := by
      unfold innerE
      split
      · rw [List.length_append]; omega
      · split
        · rw [List.length_append, List.length_map]; omega
        · omega
    have hin : (innerE k ins ps (bs.map (·.1))).length + Cr.bulkL gs ≤ 50000000 := by omega
    have hin2 : ∀ z, z ∈ bs → (innerE k ins ps (bs.map (·.1))).length + z.2.bulk ≤ 50000000 := fun z hz => by
      have := Cr.bulkB_le2 hz
      omega
    generalize hinner : innerE k ins ps (bs.map (·.1)) = inner at hinl hin hin2
    replace hinner : Hid (innerE k ins ps (bs.map (·.1)) = inner) := ⟨hinner⟩
    generalize wantE k ps.length al.length bs.length pk.length = want at hcn
    generalize nmE k nm = nm' at hcn hno
    generalize nE k n = n' at hcn hno
    generalize arE k ar = ar' at hcn hno
    refine AWP_cut [1, 2, 3, 11, 12] (fun _ : Unit => [strs gl, strs ins, .ptr σ.next 0 0 0, strs inner, .bool true]) (fun _ s => s1 = s ∧ Hid (HeadOK gl ins k nm n ar ps gs.length al.length (bs.map (·.1)) pk.length)) ?_ ?_
    · cases b with
      | false =>
        refine raw ?_
        repeat (first | (with_reducible refine unr ?_; try simp only [YY, ↓reduceIte, Nat.reduceEqDiff, Nat.reduceAdd, Nat.reduceLeDiff, reduceCtorEq, Int.reduceEq, Int.reduceLT, Int.reduceLE, Int.reduceNeg, Int.reduceAdd, Int.reduceSub, Int.reduceToNat, he]) | (with_reducible refine WW (by decide) ?_))
        exact FP.same k1 (RE.f fun hh => by have := (hno (rtE_iff.1 hh).hh).1; cases this) (.bool _)
      | true =>
      by_cases q1 : nm = nm'
      · by_cases q2 : n = n'
        · by_cases q3 : ar = ar'
          · subst q1 q2 q3
            refine raw ?_
            repeat (first | (with_reducible refine unr ?_; try simp only [YY, ↓reduceIte, Nat.reduceEqDiff, Nat.reduceAdd, Nat.reduceLeDiff, reduceCtorEq, Int.reduceEq, Int.reduceLT, Int.reduceLE, Int.reduceNeg, Int.reduceAdd, Int.reduceSub, Int.reduceToNat, he]) | (with_reducible refine WW (by decide) ?_))
            refine (hcnt _).mono ?_
            rintro _ s1 ⟨rfl, rfl⟩
            refine raw ?_
            repeat (first | (with_reducible refine unr ?_; try simp only [YY, ↓reduceIte, Nat.reduceEqDiff, Nat.reduceAdd, Nat.reduceLeDiff, reduceCtorEq, Int.reduceEq, Int.reduceLT, Int.reduceLE, Int.reduceNeg, Int.reduceAdd, Int.reduceSub, Int.reduceToNat]) | (with_reducible refine WW (by decide) ?_))
            refine (sameInts _ _ (by simp) _).mono ?_
            rintro _ s1 ⟨⟨c, rfl, hc⟩, rfl⟩
            have hcc := hcn c hc rfl rfl rfl rfl
            cases c with
            | false =>
              refine raw ?_
              repeat (first | (with_reducible refine unr ?_; try simp only [YY, ↓reduceIte, Nat.reduceEqDiff, Nat.reduceAdd, Nat.reduceLeDiff, reduceCtorEq, Int.reduceEq, Int.reduceLT, Int.reduceLE, Int.reduceNeg, Int.reduceAdd, Int.reduceSub, Int.reduceToNat]) | (with_reducible refine WW (by decide) ?_))
              exact FP.same k1 (RE.f fun hh => iff_f hcc rfl (rtE_iff.1 hh).hh) (.bool _)
            | true =>
              refine raw ?_
              repeat (first | (with_reducible refine unr ?_; try simp only [YY, ↓reduceIte, Nat.reduceEqDiff, Nat.reduceAdd, Nat.reduceLeDiff, reduceCtorEq, Int.reduceEq, Int.reduceLT, Int.reduceLE, Int.reduceNeg, Int.reduceAdd, Int.reduceSub, Int.reduceToNat]) | (with_reducible refine WW (by decide) ?_))
              exact ⟨(), ⟨hcc.1 rfl⟩⟩
          · refine raw ?_
            repeat (first | (with_reducible refine unr ?_; try simp only [YY, ↓reduceIte, Nat.reduceEqDiff, Nat.reduceAdd, Nat.reduceLeDiff, reduceCtorEq, Int.reduceEq, Int.reduceLT, Int.reduceLE, Int.reduceNeg, Int.reduceAdd, Int.reduceSub, Int.reduceToNat, he, q1, q2, q3]) | (with_reducible refine WW (by decide) ?_))
            exact FP.same k1 (RE.f fun hh => q3 (hno (rtE_iff.1 hh).hh).2.2.2) (.bool _)
        · refine raw ?_
          repeat (first | (with_reducible refine unr ?_; try simp only [YY, ↓reduceIte, Nat.reduceEqDiff, Nat.reduceAdd, Nat.reduceLeDiff, reduceCtorEq, Int.reduceEq, Int.reduceLT, Int.reduceLE, Int.reduceNeg, Int.reduceAdd, Int.reduceSub, Int.reduceToNat, he, q1, q2]) | (with_reducible refine WW (by decide) ?_))
          exact FP.same k1 (RE.f fun hh => q2 (hno (rtE_iff.1 hh).hh).2.2.1) (.bool _)
      · refine raw ?_
        repeat (first | (with_reducible refine unr ?_; try simp only [YY, ↓reduceIte, Nat.reduceEqDiff, Nat.reduceAdd, Nat.reduceLeDiff, reduceCtorEq, Int.reduceEq, Int.reduceLT, Int.reduceLE, Int.reduceNeg, Int.reduceAdd, Int.reduceSub, Int.reduceToNat, he, q1]) | (with_reducible refine WW (by decide) ?_))
        exact FP.same k1 (RE.f fun hh => q1 (hno (rtE_iff.1 hh).hh).2.1) (.bool _)
    rintro _ _ ⟨rfl, hH⟩
    clear hcn hno hcnt
    refine AWP_cut [1, 2, 3, 11, 12] (fun b : Bool => [strs gl, strs ins, .ptr σ.next 0 0 0, strs inner, .bool b]) (fun b s => s1 = s ∧ Hid (b = true ↔ ∀ x, x ∈ gs → x.RtE gl inner)) ?_ ?_
    · refine raw ?_
      repeat (first | (with_reducible refine unr ?_; try simp only [YY, ↓reduceIte, Nat.reduceEqDiff, Nat.reduceAdd, Nat.reduceLeDiff, reduceCtorEq, Int.reduceEq, Int.reduceLT, Int.reduceLE, Int.reduceNeg, Int.reduceAdd, Int.reduceSub, Int.reduceToNat]) | (with_reducible refine WW (by decide) ?_))
      refine AWP_while [1, 2, 3, 11, 12, 13] (fun y : Bool × Nat => gs.length - y.2) (fun y => [strs gl, strs ins, .ptr σ.next 0 0 0, strs inner, .bool y.1, .int .i64 y.2]) (fun y t => s1 = t ∧ y.2 ≤ gs.length ∧ Hid (y.1 = true ↔ ∀ x, x ∈ gs.take y.2 → x.RtE gl inner)) (true, 0) ⟨rfl, by simp, ⟨by simp⟩⟩ ?_ ?_
      · refine raw ?_
        repeat (first | (with_reducible refine unr ?_; try simp only [YY, ↓reduceIte, Nat.reduceEqDiff, Nat.reduceAdd, Nat.reduceLeDiff, reduceCtorEq, Int.reduceEq, Int.reduceLT, Int.reduceLE, Int.reduceNeg, Int.reduceAdd, Int.reduceSub, Int.reduceToNat]) | (with_reducible refine WW (by decide) ?_))
        rfl
      rintro ⟨b, i⟩ _ ⟨rfl, hi, hb⟩
      simp only at hi hb
      have hw := wrap_succ (i := i) (by omega)
      by_cases hil : i < gs.length
      · have hil' : (i : Int) < (gs.length : Int) := by omega
        obtain ⟨x, hx⟩ : ∃ x, gs[i]? = some x := ⟨_, List.getElem?_eq_getElem hil⟩
        have hg : (gs.map Cr.cells)[i]? = some (Cr.cells x) := by simp [hx]
        have hxm := List.mem_of_getElem? hx
        have hxb := Cr.bulkL_le hxm
        have hmem := mem_at (l := gs) hx
        cases b with
        | false =>
          refine raw ?_
          repeat (first | (with_reducible refine unr ?_; try simp only [YY, ↓reduceIte, Nat.reduceEqDiff, Nat.reduceAdd, Nat.reduceLeDiff, reduceCtorEq, Int.reduceEq, Int.reduceLT, Int.reduceLE, Int.reduceNeg, Int.reduceAdd, Int.reduceSub, Int.reduceToNat, he, hil', hw]) | (with_reducible refine WW (by decide) ?_))
          exact ⟨(false, i + 1), rfl, ⟨by simp only; omega, ⟨by simp only; exact ⟨fun e => (by cases e), fun hh => hb.out.2 fun y hy => hh y (mem_take_up hy)⟩⟩⟩, by simp only; omega⟩
        | true =>
          refine raw ?_
          repeat (first | (with_reducible refine unr ?_; try simp only [YY, ↓reduceIte, Nat.reduceEqDiff, Nat.reduceAdd, Nat.reduceLeDiff, reduceCtorEq, Int.reduceEq, Int.reduceLT, Int.reduceLE, Int.reduceNeg, Int.reduceAdd, Int.reduceSub, Int.reduceToNat, he, hil', hg, Cr.len, Cr.take9]) | (with_reducible refine WW (by decide) ?_))
          refine (ih1 x hxm _ gl inner hgl (by omega)).mono ?_
          rintro _ s1 ⟨⟨c, rfl, hc⟩, rfl⟩
          refine raw ?_
          repeat (first | (with_reducible refine unr ?_; try simp only [YY, ↓reduceIte, Nat.reduceEqDiff, Nat.reduceAdd, Nat.reduceLeDiff, reduceCtorEq, Int.reduceEq, Int.reduceLT, Int.reduceLE, Int.reduceNeg, Int.reduceAdd, Int.reduceSub, Int.reduceToNat, hw]) | (with_reducible refine WW (by decide) ?_))
          exact ⟨(c, i + 1), rfl, ⟨by simp only; omega, ⟨by simp only; exact ⟨fun e => all_succ (hb.out.1 rfl) hx (hc.1 e), fun hh => hc.2 (hh x hmem)⟩⟩⟩, by simp only; omega⟩
      · have hil' : ¬ (i : Int) < (gs.length : Int) := by omega
        have hb := hb.out
        rw [List.take_of_length_le (by omega)] at hb
        refine raw ?_
        repeat (first | (with_reducible refine unr ?_; try simp only [YY, ↓reduceIte, Nat.reduceEqDiff, Nat.reduceAdd, Nat.reduceLeDiff, reduceCtorEq, Int.reduceEq, Int.reduceLT, Int.reduceLE, Int.reduceNeg, Int.reduceAdd, Int.reduceSub, Int.reduceToNat, he, hil']) | (with_reducible refine WW (by decide) ?_))
        exact ⟨b, rfl, ⟨hb⟩⟩
    rintro b1 _ ⟨rfl, hb1⟩
    refine AWP_cut [1, 2, 3, 12] (fun b : Bool => [strs gl, strs ins, .ptr σ.next 0 0 0, .bool b]) (fun b s => s1 = s ∧ Hid (b = true ↔ (∀ x, x ∈ gs → x.RtE gl inner) ∧ ∀ x, x ∈ bs → x.2.RtE gl inner)) ?_ ?_
    · refine raw ?_
      repeat (first | (with_reducible refine unr ?_; try simp only [YY, ↓reduceIte, Nat.reduceEqDiff, Nat.reduceAdd, Nat.reduceLeDiff, reduceCtorEq, Int.reduceEq, Int.reduceLT, Int.reduceLE, Int.reduceNeg, Int.reduceAdd, Int.reduceSub, Int.reduceToNat]) | (with_reducible refine WW (by decide) ?_))
      refine AWP_while [1, 2, 3, 11, 12, 14] (fun y : Bool × Nat => bs.length - y.2) (fun y => [strs gl, strs ins, .ptr σ.next 0 0 0, strs inner, .bool y.1, .int .i64 y.2]) (fun y t => s1 = t ∧ y.2 ≤ bs.length ∧ Hid (y.1 = true ↔ (∀ x, x ∈ gs → x.RtE gl inner) ∧ ∀ x, x ∈ bs.take y.2 → x.2.RtE gl inner)) (b1, 0) ⟨rfl, by simp, ⟨by simpa using hb1.out⟩⟩ ?_ ?_
      · refine raw ?_
        repeat (first | (with_reducible refine unr ?_; try simp only [YY, ↓reduceIte, Nat.reduceEqDiff, Nat.reduceAdd, Nat.reduceLeDiff, reduceCtorEq, Int.reduceEq, Int.reduceLT, Int.reduceLE, Int.reduceNeg, Int.reduceAdd, Int.reduceSub, Int.reduceToNat]) | (with_reducible refine WW (by decide) ?_))
        rfl
      clear hb1
      rintro ⟨b, i⟩ _ ⟨rfl, hi, hb⟩
      simp only at hi hb
      have hw := wrap_succ (i := i) (by omega)
      by_cases hil : i < bs.length
      · have hil' : (i : Int) < (bs.length : Int) := by omega
        obtain ⟨x, hx⟩ : ∃ x, bs[i]? = some x := ⟨_, List.getElem?_eq_getElem hil⟩
        have hg : (bs.map bindC)[i]? = some (bindC x) := by simp [hx]
        have hxm := List.mem_of_getElem? hx
        have hxb := Cr.bulkB_le hxm
        have hmem := mem_at (l := bs) hx
        cases b with
        | false =>
          refine raw ?_
          repeat (first | (with_reducible refine unr ?_; try simp only [YY, ↓reduceIte, Nat.reduceEqDiff, Nat.reduceAdd, Nat.reduceLeDiff, reduceCtorEq, Int.reduceEq, Int.reduceLT, Int.reduceLE, Int.reduceNeg, Int.reduceAdd, Int.reduceSub, Int.reduceToNat, he, hil', hw]) | (with_reducible refine WW (by decide) ?_))
          exact ⟨(false, i + 1), rfl, ⟨by simp only; omega, ⟨by simp only; exact ⟨fun e => (by cases e), fun hh => hb.out.2 ⟨hh.1, fun y hy => hh.2 y (mem_take_up hy)⟩⟩⟩⟩, by simp only; omega⟩
        | true =>
          refine raw ?_
          repeat (first | (with_reducible refine unr ?_; try simp only [YY, ↓reduceIte, Nat.reduceEqDiff, Nat.reduceAdd, Nat.reduceLeDiff, reduceCtorEq, Int.reduceEq, Int.reduceLT, Int.reduceLE, Int.reduceNeg, Int.reduceAdd, Int.reduceSub, Int.reduceToNat, he, hil', hg, bindC, Cr.len, Cr.take9]) | (with_reducible refine WW (by decide) ?_))
          refine (ih3 x hxm _ gl inner hgl (hin2 x hxm)).mono ?_
          rintro _ s1 ⟨⟨c, rfl, hc⟩, rfl⟩
          refine raw ?_
          repeat (first | (with_reducible refine unr ?_; try simp only [YY, ↓reduceIte, Nat.reduceEqDiff, Nat.reduceAdd, Nat.reduceLeDiff, reduceCtorEq, Int.reduceEq, Int.reduceLT, Int.reduceLE, Int.reduceNeg, Int.reduceAdd, Int.reduceSub, Int.reduceToNat, hw]) | (with_reducible refine WW (by decide) ?_))
          exact ⟨(c, i + 1), rfl, ⟨by simp only; omega, ⟨by simp only; exact ⟨fun e => ⟨(hb.out.1 rfl).1, all_succ (p := fun x => x.2.RtE gl inner) (hb.out.1 rfl).2 hx (hc.1 e)⟩, fun hh => hc.2 (hh.2 x hmem)⟩⟩⟩, by simp only; omega⟩
      · have hil' : ¬ (i : Int) < (bs.length : Int) := by omega
        have hb := hb.out
        rw [List.take_of_length_le (by omega)] at hb
        refine raw ?_
        repeat (first | (with_reducible refine unr ?_; try simp only [YY, ↓reduceIte, Nat.reduceEqDiff, Nat.reduceAdd, Nat.reduceLeDiff, reduceCtorEq, Int.reduceEq, Int.reduceLT, Int.reduceLE, Int.reduceNeg, Int.reduceAdd, Int.reduceSub, Int.reduceToNat, he, hil']) | (with_reducible refine WW (by decide) ?_))
        exact ⟨b, rfl, ⟨hb⟩⟩
    clear hb1
    rintro b2 _ ⟨rfl, hb2⟩
    obtain ⟨A, hA⟩ : ∃ A : Prop, A = ((∀ x, x ∈ gs → x.RtE gl inner) ∧ ∀ x, x ∈ bs → x.2.RtE gl inner) := ⟨_, rfl⟩
    rw [← hA] at hb2
    replace hA : Hid (A = ((∀ x, x ∈ gs → x.RtE gl inner) ∧ ∀ x, x ∈ bs → x.2.RtE gl inner)) := ⟨hA⟩
    refine AWP_cut [1, 2, 3, 12] (fun b : Bool => [strs gl, strs ins, .ptr σ.next 0 0 0, .bool b]) (fun b s => s1 = s ∧ Hid (b = true ↔ A ∧ (pk.map (·.1)).Nodup ∧ ∀ x, x ∈ pk → x.2.RtE gl ins)) ?_ ?_
    · refine raw ?_
      repeat (first | (with_reducible refine unr ?_; try simp only [YY, ↓reduceIte, Nat.reduceEqDiff, Nat.reduceAdd, Nat.reduceLeDiff, reduceCtorEq, Int.reduceEq, Int.reduceLT, Int.reduceLE, Int.reduceNeg, Int.reduceAdd, Int.reduceSub, Int.reduceToNat]) | (with_reducible refine WW (by decide) ?_))
      refine AWP_while [1, 2, 3, 12, 15] (fun y : Bool × Nat => pk.length - y.2) (fun y => [strs gl, strs ins, .ptr σ.next 0 0 0, .bool y.1, .int .i64 y.2]) (fun y t => s1 = t ∧ y.2 ≤ pk.length ∧ Hid (y.1 = true ↔ A ∧ ((pk.map (·.1)).take y.2).Nodup ∧ ∀ x, x ∈ pk.take y.2 → x.2.RtE gl ins)) (b2, 0) ⟨rfl, by simp, ⟨by simpa using hb2.out⟩⟩ ?_ ?_
      · refine raw ?_
        repeat (first | (with_reducible refine unr ?_; try simp only [YY, ↓reduceIte, Nat.reduceEqDiff, Nat.reduceAdd, Nat.reduceLeDiff, reduceCtorEq, Int.reduceEq, Int.reduceLT, Int.reduceLE, Int.reduceNeg, Int.reduceAdd, Int.reduceSub, Int.reduceToNat]) | (with_reducible refine WW (by decide) ?_))
        rfl
      clear hb2
      rintro ⟨b, i⟩ _ ⟨rfl, hi, hb⟩
      simp only at hi hb
      have hw := wrap_succ (i := i) (by omega)
      by_cases hil : i < pk.length
      · have hil' : (i : Int) < (pk.length : Int) := by omega
        obtain ⟨x, hx⟩ : ∃ x, pk[i]? = some x := ⟨_, List.getElem?_eq_getElem hil⟩
        have hg : (pk.map pickC)[i]? = some (pickC x) := by simp [hx]
        have hx1 : (pk.map (·.1))[i]? = some x.1 := by simp [hx]
        have hxm := List.mem_of_getElem? hx
        have hxb := Cr.bulkP_le hxm
        have hmem := mem_at (l := pk) hx
        try simp only [YY, ↓reduceIte, Nat.reduceEqDiff, Nat.reduceAdd, Nat.reduceLeDiff, reduceCtorEq, Int.reduceEq, Int.reduceLT, Int.reduceLE, Int.reduceNeg, Int.reduceAdd, Int.reduceSub, Int.reduceToNat, he, hil']
        iterate 7 ((with_reducible refine WW (by decide) ?_); refine unr ?_; try simp only [YY, ↓reduceIte, Nat.reduceEqDiff, Nat.reduceAdd, Nat.reduceLeDiff, reduceCtorEq, Int.reduceEq, Int.reduceLT, Int.reduceLE, Int.reduceNeg, Int.reduceAdd, Int.reduceSub, Int.reduceToNat, he, hil'])
        refine AWP_cut [1, 2, 3, 12, 15] (fun c : Bool => [strs gl, strs ins, .ptr σ.next 0 0 0, .bool c, .int .i64 i]) (fun c s => s1 = s ∧ Hid (c = true ↔ A ∧ ((pk.map (·.1)).take i).Nodup ∧ ∀ x, x ∈ pk.take (i + 1) → x.2.RtE gl ins)) ?_ ?_
        · cases b with
          | false =>
            refine raw ?_
            repeat (first | (with_reducible refine unr ?_; try simp only [YY, ↓reduceIte, Nat.reduceEqDiff, Nat.reduceAdd, Nat.reduceLeDiff, reduceCtorEq, Int.reduceEq, Int.reduceLT, Int.reduceLE, Int.reduceNeg, Int.reduceAdd, Int.reduceSub, Int.reduceToNat, he]) | (with_reducible refine WW (by decide) ?_))
            exact ⟨false, rfl, ⟨fun e => (by cases e), fun hh => hb.out.2 ⟨hh.1, hh.2.1, fun y hy => hh.2.2 y (mem_take_up hy)⟩⟩⟩
          | true =>
            refine raw ?_
            repeat (first | (with_reducible refine unr ?_; try simp only [YY, ↓reduceIte, Nat.reduceEqDiff, Nat.reduceAdd, Nat.reduceLeDiff, reduceCtorEq, Int.reduceEq, Int.reduceLT, Int.reduceLE, Int.reduceNeg, Int.reduceAdd, Int.reduceSub, Int.reduceToNat, he, hg, pickC, Cr.len, Cr.take9]) | (with_reducible refine WW (by decide) ?_))
            refine (ih4 x hxm _ gl ins hgl (by omega)).mono ?_
            rintro _ s1 ⟨⟨c, rfl, hc⟩, rfl⟩
            refine raw ?_
            repeat (first | (with_reducible refine unr ?_; try simp only [YY, ↓reduceIte, Nat.reduceEqDiff, Nat.reduceAdd, Nat.reduceLeDiff, reduceCtorEq, Int.reduceEq, Int.reduceLT, Int.reduceLE, Int.reduceNeg, Int.reduceAdd, Int.reduceSub, Int.reduceToNat]) | (with_reducible refine WW (by decide) ?_))
            exact ⟨c, rfl, ⟨fun e => ⟨(hb.out.1 rfl).1, (hb.out.1 rfl).2.1, all_succ (p := fun x => x.2.RtE gl ins) (hb.out.1 rfl).2.2 hx (hc.1 e)⟩, fun hh => hc.2 (hh.2.2 x hmem)⟩⟩
        clear hb
        rintro c _ ⟨rfl, hc⟩
        refine raw ?_
        repeat (first | (with_reducible refine unr ?_; try simp only [YY, ↓reduceIte, Nat.reduceEqDiff, Nat.reduceAdd, Nat.reduceLeDiff, reduceCtorEq, Int.reduceEq, Int.reduceLT, Int.reduceLE, Int.reduceNeg, Int.reduceAdd, Int.reduceSub, Int.reduceToNat]) | (with_reducible refine WW (by decide) ?_))
        refine AWP_while [1, 2, 3, 12, 15, 16] (fun y : Bool × Nat => i - y.2) (fun y => [strs gl, strs ins, .ptr σ.next 0 0 0, .bool y.1, .int .i64 i, .int .i64 y.2]) (fun y t => s1 = t ∧ y.2 ≤ i ∧ Hid (y.1 = true ↔ (A ∧ ((pk.map (·.1)).take i).Nodup ∧ ∀ x, x ∈ pk.take (i + 1) → x.2.RtE gl ins) ∧ x.1 ∉ (pk.map (·.1)).take y.2)) (c, 0) ⟨rfl, by simp, ⟨by simpa using hc.out⟩⟩ ?_ ?_
        · refine raw ?_
          repeat (first | (with_reducible refine unr ?_; try simp only [YY, ↓reduceIte, Nat.reduceEqDiff, Nat.reduceAdd, Nat.reduceLeDiff, reduceCtorEq, Int.reduceEq, Int.reduceLT, Int.reduceLE, Int.reduceNeg, Int.reduceAdd, Int.reduceSub, Int.reduceToNat]) | (with_reducible refine WW (by decide) ?_))
          rfl
        clear hc
        rintro ⟨c, j⟩ _ ⟨rfl, hj, hc⟩
        simp only at hj hc
        have hwj := wrap_succ (i := j) (by omega)
        by_cases hjl : j < i
        · have hjl' : (j : Int) < (i : Int) := by omega
          obtain ⟨z, hz⟩ : ∃ z, pk[j]? = some z := ⟨_, List.getElem?_eq_getElem (by omega)⟩
          have hgz : (pk.map pickC)[j]? = some (pickC z) := by simp [hz]
          have hz1 : (pk.map (·.1))[j]? = some z.1 := by simp [hz]
          have hzm := mem_at (l := pk.map (·.1)) hz1
          cases c with
          | false =>
            refine raw ?_
            repeat (first | (with_reducible refine unr ?_; try simp only [YY, ↓reduceIte, Nat.reduceEqDiff, Nat.reduceAdd, Nat.reduceLeDiff, reduceCtorEq, Int.reduceEq, Int.reduceLT, Int.reduceLE, Int.reduceNeg, Int.reduceAdd, Int.reduceSub, Int.reduceToNat, he, hjl', hwj]) | (with_reducible refine WW (by decide) ?_))
            exact ⟨(false, j + 1), rfl, ⟨by simp only; omega, ⟨by simp only; exact ⟨fun e => (by cases e), fun hh => hc.out.2 ⟨hh.1, fun hm => hh.2 (mem_take_up hm)⟩⟩⟩⟩, by simp only; omega⟩
          | true =>
            by_cases hzx : z.1 = x.1
            · refine raw ?_
              repeat (first | (with_reducible refine unr ?_; try simp only [YY, ↓reduceIte, Nat.reduceEqDiff, Nat.reduceAdd, Nat.reduceLeDiff, reduceCtorEq, Int.reduceEq, Int.reduceLT, Int.reduceLE, Int.reduceNeg, Int.reduceAdd, Int.reduceSub, Int.reduceToNat, he, hjl', hg, hgz, pickC, Cr.len, hzx, hwj]) | (with_reducible refine WW (by decide) ?_))
              exact ⟨(false, j + 1), rfl, ⟨by simp only; omega, ⟨by simp only; exact ⟨fun e => (by cases e), fun hh => absurd (by rw [← hzx]; exact hzm) hh.2⟩⟩⟩, by simp only; omega⟩
            · refine raw ?_
              repeat (first | (with_reducible refine unr ?_; try simp only [YY, ↓reduceIte, Nat.reduceEqDiff, Nat.reduceAdd, Nat.reduceLeDiff, reduceCtorEq, Int.reduceEq, Int.reduceLT, Int.reduceLE, Int.reduceNeg, Int.reduceAdd, Int.reduceSub, Int.reduceToNat, he, hjl', hg, hgz, pickC, Cr.len, hzx, hwj]) | (with_reducible refine WW (by decide) ?_))
              exact ⟨(true, j + 1), rfl, ⟨by simp only; omega, ⟨by simp only; exact ⟨fun e => ⟨(hc.out.1 rfl).1, mem_take_succI hz1 (hc.out.1 rfl).2 hzx⟩, fun hh => trivial⟩⟩⟩, by simp only; omega⟩
        · have hjl' : ¬ (j : Int) < (i : Int) := by omega
          have hji : j = i := by omega
          refine raw ?_
          repeat (first | (with_reducible refine unr ?_; try simp only [YY, ↓reduceIte, Nat.reduceEqDiff, Nat.reduceAdd, Nat.reduceLeDiff, reduceCtorEq, Int.reduceEq, Int.reduceLT, Int.reduceLE, Int.reduceNeg, Int.reduceAdd, Int.reduceSub, Int.reduceToNat, hjl', hw]) | (with_reducible refine WW (by decide) ?_))
          refine ⟨(c, i + 1), rfl, ⟨by simp only; omega, ⟨?_⟩⟩, by simp only; omega⟩
          simp only
          have hc := hc.out
          rw [hji] at hc
          refine hc.trans ⟨fun hh => ⟨hh.1.1, (nodup_succ hx1 hh.1.2.1).2 hh.2, hh.1.2.2⟩, fun hh => ?_⟩
          have hnd : ((pk.map (·.1)).take i).Nodup := by
            have := hh.2.1
            rw [List.take_add_one, hx1] at this
            exact (List.nodup_append.1 this).1
          exact ⟨⟨hh.1, hnd, hh.2.2⟩, (nodup_succ hx1 hnd).1 hh.2.1⟩
      · have hil' : ¬ (i : Int) < (pk.length : Int) := by omega
        have hb := hb.out
        rw [List.take_of_length_le (by simp; omega), List.take_of_length_le (by omega)] at hb
        refine raw ?_
        repeat (first | (with_reducible refine unr ?_; try simp only [YY, ↓reduceIte, Nat.reduceEqDiff, Nat.reduceAdd, Nat.reduceLeDiff, reduceCtorEq, Int.reduceEq, Int.reduceLT, Int.reduceLE, Int.reduceNeg, Int.reduceAdd, Int.reduceSub, Int.reduceToNat, he, hil']) | (with_reducible refine WW (by decide) ?_))
        exact ⟨b, rfl, ⟨hb⟩⟩
    clear hb2
    rintro b3 _ ⟨rfl, hb3⟩
    obtain ⟨A3, hA3⟩ : ∃ A3 : Prop, A3 = (A ∧ (pk.map (·.1)).Nodup ∧ ∀ x, x ∈ pk → x.2.RtE gl ins) := ⟨_, rfl⟩
    rw [← hA3] at hb3
    replace hA3 : Hid (A3 = (A ∧ (pk.map (·.1)).Nodup ∧ ∀ x, x ∈ pk → x.2.RtE gl ins)) := ⟨hA3⟩
    refine raw ?_
    repeat (first | (with_reducible refine unr ?_; try simp only [YY, ↓reduceIte, Nat.reduceEqDiff, Nat.reduceAdd, Nat.reduceLeDiff, reduceCtorEq, Int.reduceEq, Int.reduceLT, Int.reduceLE, Int.reduceNeg, Int.reduceAdd, Int.reduceSub, Int.reduceToNat]) | (with_reducible refine WW (by decide) ?_))
    refine AWP_while [1, 2, 3, 12, 17] (fun y : Bool × Nat => al.length - y.2) (fun y => [strs gl, strs ins, .ptr σ.next 0 0 0, .bool y.1, .int .i64 y.2]) (fun y t => s1 = t ∧ y.2 ≤ al.length ∧ Hid (y.1 = true ↔ A3 ∧ (∀ (j : Nat) a, j < y.2 → (al.map (·.1))[j]? = some a → RAlt (al.map (·.1)) j a) ∧ ∀ x, x ∈ al.take y.2 → x.2.RtE gl (ins ++ x.1.ps))) (b3, 0) ⟨rfl, by simp, ⟨by simpa using hb3.out⟩⟩ ?_ ?_
    · refine raw ?_
      repeat (first | (with_reducible refine unr ?_; try simp only [YY, ↓reduceIte, Nat.reduceEqDiff, Nat.reduceAdd, Nat.reduceLeDiff, reduceCtorEq, Int.reduceEq, Int.reduceLT, Int.reduceLE, Int.reduceNeg, Int.reduceAdd, Int.reduceSub, Int.reduceToNat]) | (with_reducible refine WW (by decide) ?_))
      rfl
    clear hb3
    rintro ⟨b, i⟩ _ ⟨rfl, hi, hb⟩
    simp only at hi hb
    have hw := wrap_succ (i := i) (by omega)
    by_cases hil : i < al.length
    · have hil' : (i : Int) < (al.length : Int) := by omega
      obtain ⟨x, hx⟩ : ∃ x, al[i]? = some x := ⟨_, List.getElem?_eq_getElem hil⟩
      have hg : (al.map altC)[i]? = some (altC x) := by simp [hx]
      have hxi : (al.map (·.1))[i]? = some x.1 := by simp [hx]
      have hxm := List.mem_of_getElem? hx
      have hxb := Cr.bulkA_le hxm
      have hmem := mem_at (l := al) hx
      cases b with
      | false =>
        refine raw ?_
        repeat (first | (with_reducible refine unr ?_; try simp only [YY, ↓reduceIte, Nat.reduceEqDiff, Nat.reduceAdd, Nat.reduceLeDiff, reduceCtorEq, Int.reduceEq, Int.reduceLT, Int.reduceLE, Int.reduceNeg, Int.reduceAdd, Int.reduceSub, Int.reduceToNat, he, hil', hw]) | (with_reducible refine WW (by decide) ?_))
        exact ⟨(false, i + 1), rfl, ⟨by simp only; omega, ⟨by simp only; exact ⟨fun e => (by cases e), fun hh => hb.out.2 ⟨hh.1, fun j a hj => hh.2.1 j a (by omega), fun y hy => hh.2.2 y (mem_take_up hy)⟩⟩⟩⟩, by simp only; omega⟩
      | true =>
        refine raw ?_
        repeat (first | (with_reducible refine unr ?_; try simp only [YY, ↓reduceIte, Nat.reduceEqDiff, Nat.reduceAdd, Nat.reduceLeDiff, reduceCtorEq, Int.reduceEq, Int.reduceLT, Int.reduceLE, Int.reduceNeg, Int.reduceAdd, Int.reduceSub, Int.reduceToNat, he, hil']) | (with_reducible refine WW (by decide) ?_))
        refine (altE al (by omega) i x hx _).mono ?_
        rintro _ s1 ⟨⟨c, rfl, hc⟩, rfl⟩
        cases c with
        | false =>
          refine raw ?_
          repeat (first | (with_reducible refine unr ?_; try simp only [YY, ↓reduceIte, Nat.reduceEqDiff, Nat.reduceAdd, Nat.reduceLeDiff, reduceCtorEq, Int.reduceEq, Int.reduceLT, Int.reduceLE, Int.reduceNeg, Int.reduceAdd, Int.reduceSub, Int.reduceToNat, hw]) | (with_reducible refine WW (by decide) ?_))
          exact ⟨(false, i + 1), rfl, ⟨by simp only; omega, ⟨by simp only; exact ⟨fun e => (by cases e), fun hh => absurd (hh.2.1 i x.1 (by omega) hxi) (iff_f hc rfl)⟩⟩⟩, by simp only; omega⟩
        | true =>
          refine raw ?_
          repeat (first | (with_reducible refine unr ?_; try simp only [YY, ↓reduceIte, Nat.reduceEqDiff, Nat.reduceAdd, Nat.reduceLeDiff, reduceCtorEq, Int.reduceEq, Int.reduceLT, Int.reduceLE, Int.reduceNeg, Int.reduceAdd, Int.reduceSub, Int.reduceToNat, he, hil', hg, altC, AltH.cells, Cr.len, Cr.take9]) | (with_reducible refine WW (by decide) ?_))
          refine (joined15 ins x.1.ps (by omega) _).mono ?_
          rintro _ s1 ⟨rfl, rfl⟩
          refine raw ?_
          repeat (first | (with_reducible refine unr ?_; try simp only [YY, ↓reduceIte, Nat.reduceEqDiff, Nat.reduceAdd, Nat.reduceLeDiff, reduceCtorEq, Int.reduceEq, Int.reduceLT, Int.reduceLE, Int.reduceNeg, Int.reduceAdd, Int.reduceSub, Int.reduceToNat, he, hil', hg, altC, AltH.cells, Cr.len, Cr.take9]) | (with_reducible refine WW (by decide) ?_))
          refine (ih2 x hxm _ gl (ins ++ x.1.ps) hgl (by rw [List.length_append]; omega)).mono ?_
          rintro _ s1 ⟨⟨d, rfl, hd⟩, rfl⟩
          refine raw ?_
          repeat (first | (with_reducible refine unr ?_; try simp only [YY, ↓reduceIte, Nat.reduceEqDiff, Nat.reduceAdd, Nat.reduceLeDiff, reduceCtorEq, Int.reduceEq, Int.reduceLT, Int.reduceLE, Int.reduceNeg, Int.reduceAdd, Int.reduceSub, Int.reduceToNat, hw]) | (with_reducible refine WW (by decide) ?_))
          refine ⟨(d, i + 1), rfl, ⟨by simp only; omega, ⟨?_⟩⟩, by simp only; omega⟩
          simp only
          refine ⟨fun e => ⟨(hb.out.1 rfl).1, fun j a hj ha => ?_, all_succ (p := fun x => x.2.RtE gl (ins ++ x.1.ps)) (hb.out.1 rfl).2.2 hx (hd.1 e)⟩, fun hh => hd.2 (hh.2.2 x hmem)⟩
          by_cases e2 : j = i
          · subst e2
            rw [hxi] at ha
            cases ha
            exact hc.1 rfl
          · exact (hb.out.1 rfl).2.1 j a (by omega) ha
    · have hil' : ¬ (i : Int) < (al.length : Int) := by omega
      have hb := hb.out
      rw [List.take_of_length_le (by omega)] at hb
      have hR : (∀ (j : Nat) a, j < i → (al.map (·.1))[j]? = some a → RAlt (al.map (·.1)) j a) ↔ AltsOK (al.map (·.1)) := by
        rw [alts_iff]
        exact ⟨fun h j a ha => h j a (by have := (List.getElem?_eq_some_iff.1 ha).1; rw [List.length_map] at this; omega) ha, fun h j a _ ha => h j a ha⟩
      rw [hR, hA3.out, hA.out] at hb
      refine raw ?_
      repeat (first | (with_reducible refine unr ?_; try simp only [YY, ↓reduceIte, Nat.reduceEqDiff, Nat.reduceAdd, Nat.reduceLeDiff, reduceCtorEq, Int.reduceEq, Int.reduceLT, Int.reduceLE, Int.reduceNeg, Int.reduceAdd, Int.reduceSub, Int.reduceToNat, he, hil']) | (with_reducible refine WW (by decide) ?_))
      refine FP.same k1 (RE.mk (hb.trans ?_)) (.bool _)
      rw [rtE_iff]
      constructor
      · rintro ⟨⟨⟨h1, h2⟩, h3, h4⟩, h5, h6⟩
        exact ⟨hH.out, by rw [hinner.out]; exact h1, h5, h6, by rw [hinner.out]; exact h2, h3, h4⟩
      · rintro ⟨h0, h1, h5, h6, h2, h3, h4⟩
        rw [hinner.out] at h1 h2
        exact ⟨⟨⟨h1, h2⟩, h3, h4⟩, h5, h6⟩
end Go.Proofs.Ytjjbjibbjbbeaaa
/- Supercombinators that are flat and closed, exactly: the program's answer. -/
set_option linter.unusedVariables false
set_option linter.unusedSimpArgs false
namespace Go.AL
/-- A supercombinator's names. -/
def NameQ (x : Sup) : Prop := x.nm.size ≠ 0 ∧ ¬ 0 < opS x.nm ∧ Locs x.ps
/-- A supercombinator's body. -/
def BodyQ (gl : List ByteArray) (x : Sup) : Prop := x.bd.Fl true ∧ x.bd.RtE gl x.ps
def FlatE (l : List Sup) : Prop := ((∀ x, x ∈ l → NameQ x) ∧ (l.map (·.nm)).Nodup) ∧ ∀ x, x ∈ l → BodyQ (l.map (·.nm)) x
theorem FlatE.flat {l : List Sup} (h : FlatE l) : FlatP l := ⟨fun x hx => ⟨(h.2 x hx).2.rt, (h.2 x hx).1⟩, h.1.2⟩
theorem nodup_takeS {l : List Sup} {n : Nat} (h : (l.map (·.nm)).Nodup) : ((l.take n).map (·.nm)).Nodup := by
  rw [List.map_take]; exact h.sublist (List.take_sublist _ _)
end Go.AL
namespace Go.Proofs.Ytjjbjibbjbbeaaa
open Go.AL
set_option maxHeartbeats 1000000 in
theorem flatSE (l : List Sup) (hb : bulkS l ≤ 9000000) (σ : Store) :
    ACalls Try.prog 62 [.list (l.map supC)] σ fun r σ' => RE (FlatE l) r ∧ σ' = σ := by
  refine ACalls_fp (p := RE _) ?_
  refine in62 (by simp) ?_
  unfold c62
  have hdl := lenS l
  refine raw ?_
  repeat (first | (with_reducible refine unr ?_; try simp only [YY, ↓reduceIte, Nat.reduceEqDiff, Nat.reduceAdd, Nat.reduceLeDiff, reduceCtorEq, Int.reduceEq, Int.reduceLT, Int.reduceLE, Int.reduceNeg, Int.reduceAdd, Int.reduceSub, Int.reduceToNat]) | (with_reducible refine WW (by decide) ?_))
  generalize hs : Store.push _ _ = s
  have k1 : Kp σ s := by rw [← hs]; exact .pushed _ _
  have he : s.get σ.next = some (.cells 196 0 1 [[.nils]]) := by rw [← hs]; simp [Store.push_get]
  have hsn : s.next = σ.next + 1 := by rw [← hs]; rfl
  clear hs
  refine AWP_while [0, 3, 10, 11, 12] (fun i : Nat => l.length - i) (fun i => [.list (l.map supC), .ptr σ.next 0 0 0, .list (l.map supC), .int .i64 l.length, .int .i64 i])
    (fun i t => i ≤ l.length ∧ Kp σ t ∧ Hid (((l.take i).map (·.nm)).Nodup ∧ ∀ x, x ∈ l.take i → NameQ x) ∧ ∃ v, Chk t σ.next v ((l.take i).map (·.nm)) ∧ ∀ j, j ∈ slIds v → σ.next < j) 0 ⟨by simp, k1, ⟨by simp⟩, .nils, ⟨he, .nil _ _ _, by simp⟩, by simp [slIds]⟩ ?_ ?_
  · refine raw ?_
    repeat (first | (with_reducible refine unr ?_; try simp only [YY, ↓reduceIte, Nat.reduceEqDiff, Nat.reduceAdd, Nat.reduceLeDiff, reduceCtorEq, Int.reduceEq, Int.reduceLT, Int.reduceLE, Int.reduceNeg, Int.reduceAdd, Int.reduceSub, Int.reduceToNat]) | (with_reducible refine WW (by decide) ?_))
    rfl
  rintro i t ⟨hi, k2, hnd, v, hc, hf⟩
  have hw := wrap_succ (i := i) (by omega)
  by_cases hil : i < l.length
  · have hil' : (i : Int) < (l.length : Int) := by omega
    obtain ⟨x, hx⟩ : ∃ x, l[i]? = some x := ⟨_, List.getElem?_eq_getElem hil⟩
    have hxm := List.mem_of_getElem? hx
    have hg : (l.map supC)[i]? = some (supC x) := by simp [hx]
    have hxb := bulkS_le hxm
    have hcp := hc.keep (.pushed t (.cells 71 0 11 [supC x]))
    simp only [supC] at hcp
    have hq := lt_ne (t.lt hc.hd)
    have hcon := contains_ok (hcp.sl.rds) (by have := hcp.len; omega) x.nm
    generalize hdc : @decide (x.nm ∈ (l.take i).map (·.nm)) (Classical.propDecidable _) = dc at hcon
    have hdm : Hid (dc = true ↔ x.nm ∈ (l.take i).map (·.nm)) := ⟨by rw [← hdc]; exact @decide_eq_true_iff _ (Classical.propDecidable _)⟩
    clear hdc
    refine raw ?_
    repeat' (first | (with_reducible refine unr ?_; try simp only [YY, ↓reduceIte, Nat.reduceEqDiff, Nat.reduceAdd, Nat.reduceLeDiff, reduceCtorEq, Int.reduceEq, Int.reduceLT, Int.reduceLE, Int.reduceNeg, Int.reduceAdd, Int.reduceSub, Int.reduceToNat, hil', hg, supC, Cr.len, Cr.take9, Cr.drop9, hc.hd, hq, str_nil, *]) | (with_reducible first | refine WW (by decide) ?_ | refine ok_idx (by first | assumption | omega) (fun b hb => raw ?_) | refine ok_iad (by first | assumption | omega) (fun x hx hxm => raw ?_) | refine And.intro (by omega) (raw ?_) | (refine guardW_b (fun h => raw ?_) (fun h => raw ?_) <;> try simp only [Ty] at h) | (refine ePick_b (fun h => raw ?_) (fun h => raw ?_) <;> try simp only [Ty] at h) | (refine condW_b (fun h => raw ?_) (fun h => raw ?_) <;> try simp only [Ty] at h) | (refine (opE1 _ _).mono ?_; rintro _ _ ⟨⟨b, rfl, hb⟩, rfl⟩; refine raw ?_) | (refine (localsE _ (by omega) _).mono ?_; rintro _ _ ⟨⟨b, rfl, hb⟩, rfl⟩; refine raw ?_) | (refine (hcon).mono ?_; rintro _ _ ⟨rfl, rfl⟩; refine raw ?_)))
    · exact FP.same (k2.trans (.pushed _ _)) (RE.f fun hh => (hh.1.1 x hxm).1 (by omega)) (.bool _)
    · exact FP.same (k2.trans (.pushed _ _)) (RE.f fun hh => (hh.1.1 x hxm).2.1 (by first | omega | assumption)) (.bool _)
    · exact FP.same (k2.trans (.pushed _ _)) (RE.f fun hh => by
        have hnd2 := nodup_takeS (n := i + 1) hh.1.2
        rw [List.take_add_one, hx, List.map_append] at hnd2
        exact (List.nodup_append.1 hnd2).2.2 _ (hdm.out.1 h) x.nm (by simp) rfl) (.bool _)
    · exact FP.same (k2.trans (.pushed _ _)) (RE.f fun hh => iff_f hb h (hh.1.1 x hxm).2.2) (.bool _)
    · have hnm : x.nm ∉ (l.take i).map (·.nm) := iff_f hdm.out (by assumption)
      have hnq : NameQ x := ⟨by assumption, by assumption, hb.1 h⟩
      refine ok_app hcp.sl (es2 := [[.str x.nm]]) (by simp) (by simp; omega) (by simp [maxLen]; omega) ?_
      intro v' t3 hsl hfr
      have kp : Kp t (t.push (.cells 71 0 11 [AV.str x.nm :: strs x.ps :: x.bd.cells])) := .pushed _ _
      have hlt0 := (t.push (.cells 71 0 11 [AV.str x.nm :: strs x.ps :: x.bd.cells])).lt hcp.hd
      have hd3 : t3.get σ.next = some (.cells 196 0 1 [[v]]) := by
        rw [hfr.keep _ hlt0 (fun hm => by have := hf _ hm; omega)]; exact hcp.hd
      have hlt := t3.lt hd3
      refine raw ?_
      repeat (first | (with_reducible refine unr ?_; try simp only [YY, ↓reduceIte, Nat.reduceEqDiff, Nat.reduceAdd, Nat.reduceLeDiff, reduceCtorEq, Int.reduceEq, Int.reduceLT, Int.reduceLE, Int.reduceNeg, Int.reduceAdd, Int.reduceSub, Int.reduceToNat, hd3, hw, hsl.co]) | (with_reducible refine WW (by decide) ?_))
      have hne : ∀ j, j ∈ slIds v' → σ.next < j := fun j hj => by
        rcases hfr.fresh j hj with h1 | h1
        · exact hf j h1
        · omega
      have et : (l.take (i + 1)).map (·.nm) = (l.take i).map (·.nm) ++ [x.nm] := by rw [take_succ_at hx]; simp
      refine ⟨i + 1, rfl, ⟨by omega, ⟨?_, fun j hj => ?_⟩, ?_, v', ⟨Store.get_upd_self _ _ hlt, ?_, by simp; omega⟩, hne⟩, by omega⟩
      · have := hfr.next; have := kp.next; have := k2.next; rw [Store.upd_next]; omega
      · rw [Store.get_upd_ne _ _ (by omega), hfr.keep j (by have := kp.next; have := k2.next; omega) (fun hm => by have := hf _ hm; omega), kp.keep j (by have := k2.next; omega), k2.keep j hj]
      · rw [et]
        exact ⟨⟨List.nodup_append.2 ⟨hnd.out.1, by simp, by intro a ha b hb e; simp at hb; subst hb; subst e; exact hnm ha⟩, all_succ (p := NameQ) hnd.out.2 hx hnq⟩⟩
      · rw [et, List.map_append]
        exact hsl.keep fun j hj => Store.get_upd_ne _ _ (by have := hne j hj; omega)
  · have hil' : ¬ (i : Int) < (l.length : Int) := by omega
    have hnd := hnd.out
    rw [List.take_of_length_le (by omega)] at hc hnd
    refine raw ?_
    repeat (first | (with_reducible refine unr ?_; try simp only [YY, ↓reduceIte, Nat.reduceEqDiff, Nat.reduceAdd, Nat.reduceLeDiff, reduceCtorEq, Int.reduceEq, Int.reduceLT, Int.reduceLE, Int.reduceNeg, Int.reduceAdd, Int.reduceSub, Int.reduceToNat, hil']) | (with_reducible refine WW (by decide) ?_))
    refine AWP_while [3, 52, 53, 54] (fun i : Nat => l.length - i) (fun i => [.ptr σ.next 0 0 0, .list (l.map supC), .int .i64 l.length, .int .i64 i])
      (fun i s => i ≤ l.length ∧ Kp t s ∧ Hid (∀ x, x ∈ l.take i → BodyQ (l.map (·.nm)) x)) 0 ⟨by simp, .refl _, ⟨by simp⟩⟩ ?_ ?_
    · refine raw ?_
      repeat (first | (with_reducible refine unr ?_; try simp only [YY, ↓reduceIte, Nat.reduceEqDiff, Nat.reduceAdd, Nat.reduceLeDiff, reduceCtorEq, Int.reduceEq, Int.reduceLT, Int.reduceLE, Int.reduceNeg, Int.reduceAdd, Int.reduceSub, Int.reduceToNat]) | (with_reducible refine WW (by decide) ?_))
      rfl
    clear hw hil hil' hi
    rintro i t2 ⟨hi, k3, hall⟩
    have hw := wrap_succ (i := i) (by omega)
    by_cases hil : i < l.length
    · have hil' : (i : Int) < (l.length : Int) := by omega
      obtain ⟨x, hx⟩ : ∃ x, l[i]? = some x := ⟨_, List.getElem?_eq_getElem hil⟩
      have hxm := List.mem_of_getElem? hx
      have hg : (l.map supC)[i]? = some (supC x) := by simp [hx]
      have hxb := bulkS_le hxm
      refine raw ?_
      repeat' (first | (with_reducible refine unr ?_; try simp only [YY, ↓reduceIte, Nat.reduceEqDiff, Nat.reduceAdd, Nat.reduceLeDiff, reduceCtorEq, Int.reduceEq, Int.reduceLT, Int.reduceLE, Int.reduceNeg, Int.reduceAdd, Int.reduceSub, Int.reduceToNat, hil', hg, supC, Cr.len, Cr.take9, Cr.drop9, str_nil, *]) | (with_reducible first | refine WW (by decide) ?_ | refine ok_idx (by first | assumption | omega) (fun b hb => raw ?_) | refine ok_iad (by first | assumption | omega) (fun x hx hxm => raw ?_) | refine And.intro (by omega) (raw ?_) | (refine guardW_b (fun h => raw ?_) (fun h => raw ?_) <;> try simp only [Ty] at h) | (refine ePick_b (fun h => raw ?_) (fun h => raw ?_) <;> try simp only [Ty] at h) | (refine condW_b (fun h => raw ?_) (fun h => raw ?_) <;> try simp only [Ty] at h) | (refine (flatE x.bd (by omega) true _).mono ?_; rintro _ _ ⟨⟨b, rfl, hb⟩, rfl⟩; refine raw ?_) | (refine (rightE x.bd _ _ _ _ x.ps ((hc.keep k3).keep (.pushed _ _)) (by omega)).mono ?_; rintro _ _ ⟨⟨b, rfl, hb⟩, rfl⟩; refine raw ?_)))
      · exact FP.same (k2.trans (k3.push _)) (RE.f fun hh => iff_f hb h (hh.2 x hxm).1) (.bool _)
      · exact FP.same (k2.trans (k3.push _)) (RE.f fun hh => iff_f hb h (hh.2 x hxm).2) (.bool _)
      · rename_i hb1 h1
        exact ⟨i + 1, rfl, ⟨by omega, k3.push _, ⟨all_succ (p := BodyQ (l.map (·.nm))) hall.out hx ⟨hb1.1 h1, hb.1 h⟩⟩⟩, by omega⟩
    · have hil' : ¬ (i : Int) < (l.length : Int) := by omega
      have hall := hall.out
      rw [List.take_of_length_le (by omega)] at hall
      refine raw ?_
      repeat (first | (with_reducible refine unr ?_; try simp only [YY, ↓reduceIte, Nat.reduceEqDiff, Nat.reduceAdd, Nat.reduceLeDiff, reduceCtorEq, Int.reduceEq, Int.reduceLT, Int.reduceLE, Int.reduceNeg, Int.reduceAdd, Int.reduceSub, Int.reduceToNat, hil']) | (with_reducible refine WW (by decide) ?_))
      exact FP.same (k2.trans k3) (RE.t ⟨⟨hnd.2, hnd.1⟩, hall⟩) (.bool _)
end Go.Proofs.Ytjjbjibbjbbeaaa
/- What is flat; supercombinators that may be: exactly, the document's answer. -/
set_option linter.unusedVariables false
set_option linter.unusedSimpArgs false
namespace Go.Proofs.Ytjjbjibbjbbeaaa
open Go.AL
abbrev FlatD (x : Cr) : Prop := ∀ (now : Bool) (σ : Store), ACalls Try.prog 120 [.agg x.cells, .bool now] σ fun r s => (∃ b : Bool, r = .bool b ∧ (b = true ↔ x.Fl now)) ∧ s = σ
set_option maxHeartbeats 1000000 in
theorem flatDE : ∀ x : Cr, x.bulk ≤ 50000000 → FlatD x := by
  intro x
  induction x using Cr.ind with
  | _ k nm n ar ps gs al bs pk ih1 ih2 ih3 ih4 =>
    intro hbx now σ
    rw [Cr.bulk] at hbx
    have l1 := Cr.lenL gs; have l2 := Cr.lenA al; have l3 := Cr.lenB bs; have l4 := Cr.lenP pk
    have i1 := fun (x : Cr) (hx : x ∈ gs) => ih1 x hx (by have := Cr.bulkL_le hx; omega)
    have i2 := fun (x : AltH × Cr) (hx : x ∈ al) => ih2 x hx (by have := Cr.bulkA_le hx; omega)
    have i3 := fun (x : ByteArray × Cr) (hx : x ∈ bs) => ih3 x hx (by have := Cr.bulkB_le hx; omega)
    have i4 := fun (x : Int × Cr) (hx : x ∈ pk) => ih4 x hx (by have := Cr.bulkP_le hx; omega)
    refine ACalls_fp (p := RE ((Cr.mk k nm n ar ps gs al bs pk).Fl now)) ?_
    refine in120 (by simp) ?_
    unfold c120
    rw [Cr.cells_eq]
    try simp only [YY, ↓reduceIte, Nat.reduceEqDiff, Nat.reduceAdd, Nat.reduceLeDiff, reduceCtorEq, Int.reduceEq, Int.reduceLT, Int.reduceLE, Int.reduceNeg, Int.reduceAdd, Int.reduceSub, Int.reduceToNat]
    iterate 2 ((with_reducible refine WW (by decide) ?_); refine unr ?_; try simp only [YY, ↓reduceIte, Nat.reduceEqDiff, Nat.reduceAdd, Nat.reduceLeDiff, reduceCtorEq, Int.reduceEq, Int.reduceLT, Int.reduceLE, Int.reduceNeg, Int.reduceAdd, Int.reduceSub, Int.reduceToNat])
    generalize hs : Store.push _ _ = s1
    have k1 : Kp σ s1 := by rw [← hs]; exact .pushed _ _
    have g1 : s1.get σ.next = some (.cells 54 0 9 [[.int .i64 k, .str nm, .int .i64 n, .int .i64 ar, strs ps, .list (gs.map Cr.cells), .list (al.map altC), .list (bs.map bindC), .list (pk.map pickC)]]) := by rw [← hs]; simp [Store.push_get, Store.push_next]
    clear hs
    refine AWP_cut [1, 2] (fun _ : Unit => [.bool now, .ptr σ.next 0 0 0]) (fun _ s => s1 = s ∧ Hid (k ≠ 6 ∧ (now = false → k ≠ 8 ∧ k ≠ 10 ∧ k ≠ 11))) ?_ ?_
    · cases now <;> skip
      all_goals
        refine raw ?_
        repeat' (first | (with_reducible refine unr ?_; try simp only [YY, ↓reduceIte, Nat.reduceEqDiff, Nat.reduceAdd, Nat.reduceLeDiff, reduceCtorEq, Int.reduceEq, Int.reduceLT, Int.reduceLE, Int.reduceNeg, Int.reduceAdd, Int.reduceSub, Int.reduceToNat, g1, str_nil, *]) | (with_reducible first | refine WW (by decide) ?_ | refine ok_idx (by first | assumption | omega) (fun b hb => raw ?_) | refine ok_iad (by first | assumption | omega) (fun x hx hxm => raw ?_) | refine And.intro (by omega) (raw ?_) | (refine guardW_b (fun h => raw ?_) (fun h => raw ?_) <;> try simp only [Ty] at h) | (refine ePick_b (fun h => raw ?_) (fun h => raw ?_) <;> try simp only [Ty] at h) | (refine condW_b (fun h => raw ?_) (fun h => raw ?_) <;> try simp only [Ty] at h)))
      all_goals first
        | exact ⟨(), ⟨by omega, fun e => by first | omega | cases e⟩⟩
        | exact FP.same k1 (RE.f fun hh => by have h6 := (fl_iff.1 hh).h6; omega) (.bool _)
        | exact FP.same k1 (RE.f fun hh => by have hl := (fl_iff.1 hh).hl rfl; omega) (.bool _)
    rintro _ _ ⟨rfl, hkk⟩
    refine AWP_cut [1, 2] (fun _ : Unit => [.bool now, .ptr σ.next 0 0 0]) (fun _ s => s1 = s ∧ Hid (∀ x, x ∈ gs → x.Fl (now && !decide (k = 5)))) ?_ ?_
    · refine raw ?_
      repeat (first | (with_reducible refine unr ?_; try simp only [YY, ↓reduceIte, Nat.reduceEqDiff, Nat.reduceAdd, Nat.reduceLeDiff, reduceCtorEq, Int.reduceEq, Int.reduceLT, Int.reduceLE, Int.reduceNeg, Int.reduceAdd, Int.reduceSub, Int.reduceToNat]) | (with_reducible refine WW (by decide) ?_))
      refine AWP_while [1, 2, 5] (fun i : Nat => gs.length - i) (fun i => [.bool now, .ptr σ.next 0 0 0, .int .i64 i]) (fun i t => s1 = t ∧ i ≤ gs.length ∧ Hid (∀ x, x ∈ gs.take i → x.Fl (now && !decide (k = 5)))) 0 ⟨rfl, by simp, ⟨by simp⟩⟩ ?_ ?_
      · refine raw ?_
        repeat (first | (with_reducible refine unr ?_; try simp only [YY, ↓reduceIte, Nat.reduceEqDiff, Nat.reduceAdd, Nat.reduceLeDiff, reduceCtorEq, Int.reduceEq, Int.reduceLT, Int.reduceLE, Int.reduceNeg, Int.reduceAdd, Int.reduceSub, Int.reduceToNat]) | (with_reducible refine WW (by decide) ?_))
        rfl
      rintro i _ ⟨rfl, hi, hall⟩
      have hw := wrap_succ (i := i) (by omega)
      by_cases hil : i < gs.length
      · have hil' : (i : Int) < (gs.length : Int) := by omega
        obtain ⟨x, hx⟩ : ∃ x, gs[i]? = some x := ⟨_, List.getElem?_eq_getElem hil⟩
        have hg : (gs.map Cr.cells)[i]? = some (Cr.cells x) := by simp [hx]
        have hxm := List.mem_of_getElem? hx
        have hcall := i1 x hxm (now && !decide (k = 5))
        have hgx : ∀ b : Bool, (b = true ↔ x.Fl (now && !decide (k = 5))) → b = false → ¬ (Cr.mk k nm n ar ps gs al bs pk).Fl now := fun b hb e hh => iff_f hb e ((fl_iff.1 hh).g1 x hxm)
        generalize hdd : (now && !decide (k = 5)) = dd at hcall hgx hall
        replace hdd : Hid ((now && !decide (k = 5)) = dd) := ⟨hdd⟩
        cases now with
        | false =>
          have e : dd = false := by rw [← hdd.out]; rfl
          subst e
          refine raw ?_
          repeat (first | (with_reducible refine unr ?_; try simp only [YY, ↓reduceIte, Nat.reduceEqDiff, Nat.reduceAdd, Nat.reduceLeDiff, reduceCtorEq, Int.reduceEq, Int.reduceLT, Int.reduceLE, Int.reduceNeg, Int.reduceAdd, Int.reduceSub, Int.reduceToNat, g1, hil', hg, Cr.len, Cr.take9]) | (with_reducible refine WW (by decide) ?_))
          refine (hcall _).mono ?_
          rintro _ s1 ⟨⟨b, rfl, hb⟩, rfl⟩
          cases b with
          | false =>
            refine raw ?_
            repeat (first | (with_reducible refine unr ?_; try simp only [YY, ↓reduceIte, Nat.reduceEqDiff, Nat.reduceAdd, Nat.reduceLeDiff, reduceCtorEq, Int.reduceEq, Int.reduceLT, Int.reduceLE, Int.reduceNeg, Int.reduceAdd, Int.reduceSub, Int.reduceToNat]) | (with_reducible refine WW (by decide) ?_))
            exact FP.same k1 (RE.f (hgx _ hb rfl)) (.bool _)
          | true =>
            refine raw ?_
            repeat (first | (with_reducible refine unr ?_; try simp only [YY, ↓reduceIte, Nat.reduceEqDiff, Nat.reduceAdd, Nat.reduceLeDiff, reduceCtorEq, Int.reduceEq, Int.reduceLT, Int.reduceLE, Int.reduceNeg, Int.reduceAdd, Int.reduceSub, Int.reduceToNat, hw]) | (with_reducible refine WW (by decide) ?_))
            exact ⟨i + 1, rfl, ⟨by omega, ⟨all_succ (p := fun x => x.Fl false) hall.out hx (hb.1 rfl)⟩⟩, by omega⟩
        | true =>
          by_cases h5 : k = 5
          · have e : dd = false := by rw [← hdd.out, h5]; rfl
            subst e
            refine raw ?_
            repeat (first | (with_reducible refine unr ?_; try simp only [YY, ↓reduceIte, Nat.reduceEqDiff, Nat.reduceAdd, Nat.reduceLeDiff, reduceCtorEq, Int.reduceEq, Int.reduceLT, Int.reduceLE, Int.reduceNeg, Int.reduceAdd, Int.reduceSub, Int.reduceToNat, g1, hil', hg, Cr.len, Cr.take9, h5]) | (with_reducible refine WW (by decide) ?_))
            refine (hcall _).mono ?_
            rintro _ s1 ⟨⟨b, rfl, hb⟩, rfl⟩
            cases b with
            | false =>
              refine raw ?_
              repeat (first | (with_reducible refine unr ?_; try simp only [YY, ↓reduceIte, Nat.reduceEqDiff, Nat.reduceAdd, Nat.reduceLeDiff, reduceCtorEq, Int.reduceEq, Int.reduceLT, Int.reduceLE, Int.reduceNeg, Int.reduceAdd, Int.reduceSub, Int.reduceToNat]) | (with_reducible refine WW (by decide) ?_))
              exact FP.same k1 (RE.f (hgx _ hb rfl)) (.bool _)
            | true =>
              refine raw ?_
              repeat (first | (with_reducible refine unr ?_; try simp only [YY, ↓reduceIte, Nat.reduceEqDiff, Nat.reduceAdd, Nat.reduceLeDiff, reduceCtorEq, Int.reduceEq, Int.reduceLT, Int.reduceLE, Int.reduceNeg, Int.reduceAdd, Int.reduceSub, Int.reduceToNat, hw]) | (with_reducible refine WW (by decide) ?_))
              exact ⟨i + 1, rfl, ⟨by omega, ⟨all_succ (p := fun x => x.Fl false) hall.out hx (hb.1 rfl)⟩⟩, by omega⟩
          · have e : dd = true := by rw [← hdd.out, decide_eq_false h5]; rfl
            subst e
            refine raw ?_
            repeat (first | (with_reducible refine unr ?_; try simp only [YY, ↓reduceIte, Nat.reduceEqDiff, Nat.reduceAdd, Nat.reduceLeDiff, reduceCtorEq, Int.reduceEq, Int.reduceLT, Int.reduceLE, Int.reduceNeg, Int.reduceAdd, Int.reduceSub, Int.reduceToNat, g1, hil', hg, Cr.len, Cr.take9, h5]) | (with_reducible refine WW (by decide) ?_))
            refine (hcall _).mono ?_
            rintro _ s1 ⟨⟨b, rfl, hb⟩, rfl⟩
            cases b with
            | false =>
              refine raw ?_
              repeat (first | (with_reducible refine unr ?_; try simp only [YY, ↓reduceIte, Nat.reduceEqDiff, Nat.reduceAdd, Nat.reduceLeDiff, reduceCtorEq, Int.reduceEq, Int.reduceLT, Int.reduceLE, Int.reduceNeg, Int.reduceAdd, Int.reduceSub, Int.reduceToNat]) | (with_reducible refine WW (by decide) ?_))
              exact FP.same k1 (RE.f (hgx _ hb rfl)) (.bool _)
            | true =>
              refine raw ?_
              repeat (first | (with_reducible refine unr ?_; try simp only [YY, ↓reduceIte, Nat.reduceEqDiff, Nat.reduceAdd, Nat.reduceLeDiff, reduceCtorEq, Int.reduceEq, Int.reduceLT, Int.reduceLE, Int.reduceNeg, Int.reduceAdd, Int.reduceSub, Int.reduceToNat, hw]) | (with_reducible refine WW (by decide) ?_))
              exact ⟨i + 1, rfl, ⟨by omega, ⟨all_succ (p := fun x => x.Fl true) hall.out hx (hb.1 rfl)⟩⟩, by omega⟩
      have hil' : ¬ (i : Int) < (gs.length : Int) := by omega
      have hall := hall.out
      rw [List.take_of_length_le (by omega)] at hall
      refine raw ?_
      repeat (first | (with_reducible refine unr ?_; try simp only [YY, ↓reduceIte, Nat.reduceEqDiff, Nat.reduceAdd, Nat.reduceLeDiff, reduceCtorEq, Int.reduceEq, Int.reduceLT, Int.reduceLE, Int.reduceNeg, Int.reduceAdd, Int.reduceSub, Int.reduceToNat, g1, hil']) | (with_reducible refine WW (by decide) ?_))
      exact ⟨(), ⟨hall⟩⟩
    rintro _ _ ⟨rfl, q1⟩
    refine AWP_cut [1, 2] (fun _ : Unit => [.bool now, .ptr σ.next 0 0 0]) (fun _ s => s1 = s ∧ Hid (∀ x, x ∈ al → x.2.Fl now)) ?_ ?_
    · refine raw ?_
      repeat (first | (with_reducible refine unr ?_; try simp only [YY, ↓reduceIte, Nat.reduceEqDiff, Nat.reduceAdd, Nat.reduceLeDiff, reduceCtorEq, Int.reduceEq, Int.reduceLT, Int.reduceLE, Int.reduceNeg, Int.reduceAdd, Int.reduceSub, Int.reduceToNat]) | (with_reducible refine WW (by decide) ?_))
      refine AWP_while [1, 2, 6] (fun i : Nat => al.length - i) (fun i => [.bool now, .ptr σ.next 0 0 0, .int .i64 i]) (fun i t => s1 = t ∧ i ≤ al.length ∧ Hid (∀ x, x ∈ al.take i → x.2.Fl now)) 0 ⟨rfl, by simp, ⟨by simp⟩⟩ ?_ ?_
      · refine raw ?_
        repeat (first | (with_reducible refine unr ?_; try simp only [YY, ↓reduceIte, Nat.reduceEqDiff, Nat.reduceAdd, Nat.reduceLeDiff, reduceCtorEq, Int.reduceEq, Int.reduceLT, Int.reduceLE, Int.reduceNeg, Int.reduceAdd, Int.reduceSub, Int.reduceToNat]) | (with_reducible refine WW (by decide) ?_))
        rfl
      rintro i _ ⟨rfl, hi, hall⟩
      have hw := wrap_succ (i := i) (by omega)
      by_cases hil : i < al.length
      · have hil' : (i : Int) < (al.length : Int) := by omega
        obtain ⟨x, hx⟩ : ∃ x, al[i]? = some x := ⟨_, List.getElem?_eq_getElem hil⟩
        have hg : (al.map altC)[i]? = some (altC x) := by simp [hx]
        have hxm := List.mem_of_getElem? hx
        refine raw ?_
        repeat (first | (with_reducible refine unr ?_; try simp only [YY, ↓reduceIte, Nat.reduceEqDiff, Nat.reduceAdd, Nat.reduceLeDiff, reduceCtorEq, Int.reduceEq, Int.reduceLT, Int.reduceLE, Int.reduceNeg, Int.reduceAdd, Int.reduceSub, Int.reduceToNat, g1, hil', hg, altC, AltH.cells, Cr.len, Cr.take9]) | (with_reducible refine WW (by decide) ?_))
        refine (i2 x hxm now _).mono ?_
        rintro _ s1 ⟨⟨b, rfl, hb⟩, rfl⟩
        cases b with
        | false =>
          refine raw ?_
          repeat (first | (with_reducible refine unr ?_; try simp only [YY, ↓reduceIte, Nat.reduceEqDiff, Nat.reduceAdd, Nat.reduceLeDiff, reduceCtorEq, Int.reduceEq, Int.reduceLT, Int.reduceLE, Int.reduceNeg, Int.reduceAdd, Int.reduceSub, Int.reduceToNat]) | (with_reducible refine WW (by decide) ?_))
          exact FP.same k1 (RE.f fun hh => iff_f hb rfl ((fl_iff.1 hh).g2 x hxm)) (.bool _)
        | true =>
          refine raw ?_
          repeat (first | (with_reducible refine unr ?_; try simp only [YY, ↓reduceIte, Nat.reduceEqDiff, Nat.reduceAdd, Nat.reduceLeDiff, reduceCtorEq, Int.reduceEq, Int.reduceLT, Int.reduceLE, Int.reduceNeg, Int.reduceAdd, Int.reduceSub, Int.reduceToNat, hw]) | (with_reducible refine WW (by decide) ?_))
          exact ⟨i + 1, rfl, ⟨by omega, ⟨all_succ (p := fun x => x.2.Fl now) hall.out hx (hb.1 rfl)⟩⟩, by omega⟩
      have hil' : ¬ (i : Int) < (al.length : Int) := by omega
      have hall := hall.out
      rw [List.take_of_length_le (by omega)] at hall
      refine raw ?_
      repeat (first | (with_reducible refine unr ?_; try simp only [YY, ↓reduceIte, Nat.reduceEqDiff, Nat.reduceAdd, Nat.reduceLeDiff, reduceCtorEq, Int.reduceEq, Int.reduceLT, Int.reduceLE, Int.reduceNeg, Int.reduceAdd, Int.reduceSub, Int.reduceToNat, g1, hil']) | (with_reducible refine WW (by decide) ?_))
      exact ⟨(), ⟨hall⟩⟩
    rintro _ _ ⟨rfl, q2⟩
    refine AWP_cut [1, 2] (fun _ : Unit => [.bool now, .ptr σ.next 0 0 0]) (fun _ s => s1 = s ∧ Hid (∀ x, x ∈ bs → x.2.Fl false)) ?_ ?_
    · refine raw ?_
      repeat (first | (with_reducible refine unr ?_; try simp only [YY, ↓reduceIte, Nat.reduceEqDiff, Nat.reduceAdd, Nat.reduceLeDiff, reduceCtorEq, Int.reduceEq, Int.reduceLT, Int.reduceLE, Int.reduceNeg, Int.reduceAdd, Int.reduceSub, Int.reduceToNat]) | (with_reducible refine WW (by decide) ?_))
      refine AWP_while [1, 2, 7] (fun i : Nat => bs.length - i) (fun i => [.bool now, .ptr σ.next 0 0 0, .int .i64 i]) (fun i t => s1 = t ∧ i ≤ bs.length ∧ Hid (∀ x, x ∈ bs.take i → x.2.Fl false)) 0 ⟨rfl, by simp, ⟨by simp⟩⟩ ?_ ?_
      · refine raw ?_
        repeat (first | (with_reducible refine unr ?_; try simp only [YY, ↓reduceIte, Nat.reduceEqDiff, Nat.reduceAdd, Nat.reduceLeDiff, reduceCtorEq, Int.reduceEq, Int.reduceLT, Int.reduceLE, Int.reduceNeg, Int.reduceAdd, Int.reduceSub, Int.reduceToNat]) | (with_reducible refine WW (by decide) ?_))
        rfl
      rintro i _ ⟨rfl, hi, hall⟩
      have hw := wrap_succ (i := i) (by omega)
      by_cases hil : i < bs.length
      · have hil' : (i : Int) < (bs.length : Int) := by omega
        obtain ⟨x, hx⟩ : ∃ x, bs[i]? = some x := ⟨_, List.getElem?_eq_getElem hil⟩
        have hg : (bs.map bindC)[i]? = some (bindC x) := by simp [hx]
        have hxm := List.mem_of_getElem? hx
        refine raw ?_
        repeat (first | (with_reducible refine unr ?_; try simp only [YY, ↓reduceIte, Nat.reduceEqDiff, Nat.reduceAdd, Nat.reduceLeDiff, reduceCtorEq, Int.reduceEq, Int.reduceLT, Int.reduceLE, Int.reduceNeg, Int.reduceAdd, Int.reduceSub, Int.reduceToNat, g1, hil', hg, bindC, Cr.len, Cr.take9]) | (with_reducible refine WW (by decide) ?_))
        refine (i3 x hxm false _).mono ?_
        rintro _ s1 ⟨⟨b, rfl, hb⟩, rfl⟩
        cases b with
        | false =>
          refine raw ?_
          repeat (first | (with_reducible refine unr ?_; try simp only [YY, ↓reduceIte, Nat.reduceEqDiff, Nat.reduceAdd, Nat.reduceLeDiff, reduceCtorEq, Int.reduceEq, Int.reduceLT, Int.reduceLE, Int.reduceNeg, Int.reduceAdd, Int.reduceSub, Int.reduceToNat]) | (with_reducible refine WW (by decide) ?_))
          exact FP.same k1 (RE.f fun hh => iff_f hb rfl ((fl_iff.1 hh).g3 x hxm)) (.bool _)
        | true =>
          refine raw ?_
          repeat (first | (with_reducible refine unr ?_; try simp only [YY, ↓reduceIte, Nat.reduceEqDiff, Nat.reduceAdd, Nat.reduceLeDiff, reduceCtorEq, Int.reduceEq, Int.reduceLT, Int.reduceLE, Int.reduceNeg, Int.reduceAdd, Int.reduceSub, Int.reduceToNat, hw]) | (with_reducible refine WW (by decide) ?_))
          exact ⟨i + 1, rfl, ⟨by omega, ⟨all_succ (p := fun x => x.2.Fl false) hall.out hx (hb.1 rfl)⟩⟩, by omega⟩
      have hil' : ¬ (i : Int) < (bs.length : Int) := by omega
      have hall := hall.out
      rw [List.take_of_length_le (by omega)] at hall
      refine raw ?_
      repeat (first | (with_reducible refine unr ?_; try simp only [YY, ↓reduceIte, Nat.reduceEqDiff, Nat.reduceAdd, Nat.reduceLeDiff, reduceCtorEq, Int.reduceEq, Int.reduceLT, Int.reduceLE, Int.reduceNeg, Int.reduceAdd, Int.reduceSub, Int.reduceToNat, g1, hil']) | (with_reducible refine WW (by decide) ?_))
      exact ⟨(), ⟨hall⟩⟩
    rintro _ _ ⟨rfl, q3⟩
    refine raw ?_
    repeat (first | (with_reducible refine unr ?_; try simp only [YY, ↓reduceIte, Nat.reduceEqDiff, Nat.reduceAdd, Nat.reduceLeDiff, reduceCtorEq, Int.reduceEq, Int.reduceLT, Int.reduceLE, Int.reduceNeg, Int.reduceAdd, Int.reduceSub, Int.reduceToNat]) | (with_reducible refine WW (by decide) ?_))
    refine AWP_while [1, 2, 8] (fun i : Nat => pk.length - i) (fun i => [.bool now, .ptr σ.next 0 0 0, .int .i64 i]) (fun i t => s1 = t ∧ i ≤ pk.length ∧ Hid (∀ x, x ∈ pk.take i → x.2.Fl now)) 0 ⟨rfl, by simp, ⟨by simp⟩⟩ ?_ ?_
    · refine raw ?_
      repeat (first | (with_reducible refine unr ?_; try simp only [YY, ↓reduceIte, Nat.reduceEqDiff, Nat.reduceAdd, Nat.reduceLeDiff, reduceCtorEq, Int.reduceEq, Int.reduceLT, Int.reduceLE, Int.reduceNeg, Int.reduceAdd, Int.reduceSub, Int.reduceToNat]) | (with_reducible refine WW (by decide) ?_))
      rfl
    rintro i _ ⟨rfl, hi, hall⟩
    have hw := wrap_succ (i := i) (by omega)
    by_cases hil : i < pk.length
    · have hil' : (i : Int) < (pk.length : Int) := by omega
      obtain ⟨x, hx⟩ : ∃ x, pk[i]? = some x := ⟨_, List.getElem?_eq_getElem hil⟩
      have hg : (pk.map pickC)[i]? = some (pickC x) := by simp [hx]
      have hxm := List.mem_of_getElem? hx
      refine raw ?_
      repeat (first | (with_reducible refine unr ?_; try simp only [YY, ↓reduceIte, Nat.reduceEqDiff, Nat.reduceAdd, Nat.reduceLeDiff, reduceCtorEq, Int.reduceEq, Int.reduceLT, Int.reduceLE, Int.reduceNeg, Int.reduceAdd, Int.reduceSub, Int.reduceToNat, g1, hil', hg, pickC, Cr.len, Cr.take9]) | (with_reducible refine WW (by decide) ?_))
      refine (i4 x hxm now _).mono ?_
      rintro _ s1 ⟨⟨b, rfl, hb⟩, rfl⟩
      cases b with
      | false =>
        refine raw ?_
        repeat (first | (with_reducible refine unr ?_; try simp only [YY, ↓reduceIte, Nat.reduceEqDiff, Nat.reduceAdd, Nat.reduceLeDiff, reduceCtorEq, Int.reduceEq, Int.reduceLT, Int.reduceLE, Int.reduceNeg, Int.reduceAdd, Int.reduceSub, Int.reduceToNat]) | (with_reducible refine WW (by decide) ?_))
        exact FP.same k1 (RE.f fun hh => iff_f hb rfl ((fl_iff.1 hh).g4 x hxm)) (.bool _)
      | true =>
        refine raw ?_
        repeat (first | (with_reducible refine unr ?_; try simp only [YY, ↓reduceIte, Nat.reduceEqDiff, Nat.reduceAdd, Nat.reduceLeDiff, reduceCtorEq, Int.reduceEq, Int.reduceLT, Int.reduceLE, Int.reduceNeg, Int.reduceAdd, Int.reduceSub, Int.reduceToNat, hw]) | (with_reducible refine WW (by decide) ?_))
        exact ⟨i + 1, rfl, ⟨by omega, ⟨all_succ (p := fun x => x.2.Fl now) hall.out hx (hb.1 rfl)⟩⟩, by omega⟩
    have hil' : ¬ (i : Int) < (pk.length : Int) := by omega
    have hall := hall.out
    rw [List.take_of_length_le (by omega)] at hall
    refine raw ?_
    repeat (first | (with_reducible refine unr ?_; try simp only [YY, ↓reduceIte, Nat.reduceEqDiff, Nat.reduceAdd, Nat.reduceLeDiff, reduceCtorEq, Int.reduceEq, Int.reduceLT, Int.reduceLE, Int.reduceNeg, Int.reduceAdd, Int.reduceSub, Int.reduceToNat, g1, hil']) | (with_reducible refine WW (by decide) ?_))
    exact FP.same k1 (RE.t (fl_iff.2 ⟨hkk.out.1, hkk.out.2, q1.out, q2.out, q3.out, hall⟩)) (.bool _)
theorem bulkS_mem {l : List Sup} {x : Sup} (h : x ∈ l) : x.ps.length + x.bd.bulk ≤ bulkS l := by have := bulkS_le h; omega
set_option maxHeartbeats 1000000 in
theorem rightSD (l : List Sup) (hb : bulkS l ≤ 40000000) (σ : Store) : ACalls Try.prog 155 [.list (l.map supC)] σ fun r s => (∃ b : Bool, r = .bool b ∧ (b = true ↔ FlatE l)) ∧ s = σ := by
  have hll := lenS l
  refine in155 (by simp) ?_
  unfold c155
  refine raw ?_
  repeat (first | (with_reducible refine unr ?_; try simp only [YY, ↓reduceIte, Nat.reduceEqDiff, Nat.reduceAdd, Nat.reduceLeDiff, reduceCtorEq, Int.reduceEq, Int.reduceLT, Int.reduceLE, Int.reduceNeg, Int.reduceAdd, Int.reduceSub, Int.reduceToNat]) | (with_reducible refine WW (by decide) ?_))
  refine (namesS15 l (by omega) _).mono ?_
  rintro _ s0 ⟨rfl, rfl⟩
  refine raw ?_
  repeat (first | (with_reducible refine unr ?_; try simp only [YY, ↓reduceIte, Nat.reduceEqDiff, Nat.reduceAdd, Nat.reduceLeDiff, reduceCtorEq, Int.reduceEq, Int.reduceLT, Int.reduceLE, Int.reduceNeg, Int.reduceAdd, Int.reduceSub, Int.reduceToNat]) | (with_reducible refine WW (by decide) ?_))
  refine AWP_while [0, 3, 4] (fun i : Nat => l.length - i) (fun i => [.list (l.map supC), strs (l.map Sup.nm), .int .i64 i]) (fun i t => s0 = t ∧ i ≤ l.length ∧ Hid ((∀ x, x ∈ l.take i → NameQ x ∧ BodyQ (l.map (·.nm)) x) ∧ ((l.take i).map (·.nm)).Nodup)) 0 ⟨rfl, by simp, ⟨by simp⟩⟩ ?_ ?_
  · refine raw ?_
    repeat (first | (with_reducible refine unr ?_; try simp only [YY, ↓reduceIte, Nat.reduceEqDiff, Nat.reduceAdd, Nat.reduceLeDiff, reduceCtorEq, Int.reduceEq, Int.reduceLT, Int.reduceLE, Int.reduceNeg, Int.reduceAdd, Int.reduceSub, Int.reduceToNat]) | (with_reducible refine WW (by decide) ?_))
    rfl
  rintro i _ ⟨rfl, hi, hall⟩
  have hw := wrap_succ (i := i) (by omega)
  by_cases hil : i < l.length
  · have hil' : (i : Int) < (l.length : Int) := by omega
    obtain ⟨x, hx⟩ : ∃ x, l[i]? = some x := ⟨_, List.getElem?_eq_getElem hil⟩
    have hg : (l.map supC)[i]? = some (supC x) := by simp [hx]
    have hxm := List.mem_of_getElem? hx
    have hxb := bulkS_mem hxm
    have hsl := supC_len x
    have hc1 : (i : Int) ≤ (l.length : Int) := by omega
    have hmt : (l.map Sup.nm).take i = (l.take i).map (·.nm) := by rw [List.map_take]
    have hsn : ((l.take (i + 1)).map (·.nm)).Nodup ↔ x.nm ∉ (l.take i).map (·.nm) := by
      have := nodup_succ (l := l.map Sup.nm) (i := i) (x := x.nm) (by simp [hx]) (by rw [hmt]; exact hall.out.2)
      rw [hmt] at this
      rw [List.map_take]
      exact this
    replace hx : Hid (l[i]? = some x) := ⟨hx⟩
    replace hsn : Hid (((l.take (i + 1)).map (·.nm)).Nodup ↔ x.nm ∉ (l.take i).map (·.nm)) := ⟨hsn⟩
    have hlen : ∀ q, q ∈ l.map Sup.nm → q = q := fun _ _ => rfl
    refine raw ?_
    repeat' (first | (with_reducible refine unr ?_; try simp only [YY, ↓reduceIte, Nat.reduceEqDiff, Nat.reduceAdd, Nat.reduceLeDiff, reduceCtorEq, Int.reduceEq, Int.reduceLT, Int.reduceLE, Int.reduceNeg, Int.reduceAdd, Int.reduceSub, Int.reduceToNat, hil', hg, supC, Cr.len, Cr.take9, Cr.drop9, all_strs, map_take', map_drop', hc1, str_nil, *]) | (with_reducible first | refine WW (by decide) ?_ | refine ok_idx (by first | assumption | omega) (fun b hb => raw ?_) | refine ok_iad (by first | assumption | omega) (fun x hx hxm => raw ?_) | refine And.intro (by omega) (raw ?_) | (refine guardW_b (fun h => raw ?_) (fun h => raw ?_) <;> try simp only [Ty] at h) | (refine ePick_b (fun h => raw ?_) (fun h => raw ?_) <;> try simp only [Ty] at h) | (refine condW_b (fun h => raw ?_) (fun h => raw ?_) <;> try simp only [Ty] at h) | (refine (opE2 _ _).mono ?_; rintro _ _ ⟨⟨b, rfl, hb⟩, rfl⟩; refine raw ?_) | (refine (localsE2 _ (by omega) _).mono ?_; rintro _ _ ⟨⟨b, rfl, hb⟩, rfl⟩; refine raw ?_) | (refine (flatDE x.bd (by omega) true _).mono ?_; rintro _ _ ⟨⟨b, rfl, hb⟩, rfl⟩; refine raw ?_) | (refine (rightDE x.bd _ _ _ (by simp; omega) (by omega)).mono ?_; rintro _ _ ⟨⟨b, rfl, hb⟩, rfl⟩; refine raw ?_) | (refine (has2E ((l.take i).map (fun x => x.nm)) (by simp; omega) _ _).mono ?_; rintro _ _ ⟨⟨b, rfl, hb⟩, rfl⟩; refine raw ?_)))
    · exact ⟨false, rfl, (by intro e; cases e), fun hh => absurd (by assumption) (hh.1.1 x hxm).1⟩
    · exact ⟨false, rfl, (by intro e; cases e), fun hh => absurd (by assumption) (hh.1.1 x hxm).2.1⟩
    · exact ⟨false, rfl, (by intro e; cases e), fun hh => by
        have hnd2 := nodup_takeS (n := i + 1) hh.1.2
        exact (hsn.out.1 hnd2 (hb.1 h)).elim⟩
    · exact ⟨false, rfl, (by intro e; cases e), fun hh => (iff_f hb h (hh.1.1 x hxm).2.2).elim⟩
    · exact ⟨false, rfl, (by intro e; cases e), fun hh => (iff_f hb h (hh.2 x hxm).1).elim⟩
    · exact ⟨false, rfl, (by intro e; cases e), fun hh => (iff_f hb h (hh.2 x hxm).2).elim⟩
    · rename_i n0 _ _ n1 bc hbc ebc bl hbl ebl bf hbf ebf _
      exact ⟨i + 1, rfl, ⟨by omega, ⟨all_succ (p := fun x => NameQ x ∧ BodyQ (l.map (·.nm)) x) hall.out.1 hx.out ⟨⟨n0, n1, hbl.1 ebl⟩, hbf.1 ebf, hb.1 h⟩, hsn.out.2 (iff_f hbc ebc)⟩⟩, by omega⟩
  · have hil' : ¬ (i : Int) < (l.length : Int) := by omega
    have hall := hall.out
    rw [List.take_of_length_le (by omega)] at hall
    refine raw ?_
    repeat (first | (with_reducible refine unr ?_; try simp only [YY, ↓reduceIte, Nat.reduceEqDiff, Nat.reduceAdd, Nat.reduceLeDiff, reduceCtorEq, Int.reduceEq, Int.reduceLT, Int.reduceLE, Int.reduceNeg, Int.reduceAdd, Int.reduceSub, Int.reduceToNat, hil']) | (with_reducible refine WW (by decide) ?_))
    exact ⟨true, rfl, fun _ => ⟨⟨fun x hx => (hall.1 x hx).1, hall.2⟩, fun x hx => (hall.1 x hx).2⟩, fun _ => rfl⟩
end Go.Proofs.Ytjjbjibbjbbeaaa
/- Which expressions' constructors are known, exactly: the program's answer. -/
set_option linter.unusedVariables false
set_option linter.unusedSimpArgs false
namespace Go.AL
/-- There is such a constructor, with so many fields. -/
def FitsE (g : Gl) (s : ByteArray) (n : Int) : Prop := ∃ i c, idx (g.con.map (·.1)) s = some i ∧ g.con[i]? = some c ∧ (c.2 : Int) = n
inductive Cr.Kn (g : Gl) : Cr → Prop
  | mk {k : Int} {nm : ByteArray} {n ar : Int} {ps : List ByteArray} {gs : List Cr} {al : List (AltH × Cr)} {bs : List (ByteArray × Cr)} {pk : List (Int × Cr)} (h4 : k = 4 → FitsE g nm ar)
    (g1 : ∀ x, x ∈ gs → Cr.Kn g x) (ga : ∀ x, x ∈ al → x.1.k = 1 → FitsE g x.1.nm x.1.ps.length) (g2 : ∀ x, x ∈ al → Cr.Kn g x.2) (g3 : ∀ x, x ∈ bs → Cr.Kn g x.2) (g4 : ∀ x, x ∈ pk → Cr.Kn g x.2) : Cr.Kn g (.mk k nm n ar ps gs al bs pk)
def KnA (g : Gl) (x : AltH × Cr) : Prop := (x.1.k = 1 → FitsE g x.1.nm x.1.ps.length) ∧ x.2.Kn g
structure KnParts (g : Gl) (k : Int) (nm : ByteArray) (ar : Int) (gs : List Cr) (al : List (AltH × Cr)) (bs : List (ByteArray × Cr)) (pk : List (Int × Cr)) : Prop where
  h4 : k = 4 → FitsE g nm ar
  g1 : ∀ x, x ∈ gs → Cr.Kn g x
  g2 : ∀ x, x ∈ al → KnA g x
  g3 : ∀ x, x ∈ bs → Cr.Kn g x.2
  g4 : ∀ x, x ∈ pk → Cr.Kn g x.2
theorem kn_iff {g : Gl} {k : Int} {nm : ByteArray} {n ar : Int} {ps : List ByteArray} {gs : List Cr} {al : List (AltH × Cr)} {bs : List (ByteArray × Cr)} {pk : List (Int × Cr)} :
    (Cr.mk k nm n ar ps gs al bs pk).Kn g ↔ KnParts g k nm ar gs al bs pk :=
  ⟨fun h => by cases h with | mk a b c d e f => exact ⟨a, b, fun x hx => ⟨c x hx, d x hx⟩, e, f⟩, fun ⟨a, b, c, e, f⟩ => .mk a b (fun x hx => (c x hx).1) (fun x hx => (c x hx).2) e f⟩
end Go.AL
namespace Go.Proofs.Ytjjbjibbjbbeaaa
open Go.AL
theorem fitsE {σ : Store} {T tid : Nat} {g : Gl} (ht : TAt σ T tid g) (s : ByteArray) (n : Int) : ACalls Try.prog 113 [.ptr tid 0 0 0, .str s, .int .i64 n] σ fun r s' => (∃ b : Bool, r = .bool b ∧ (b = true ↔ FitsE g s n)) ∧ s' = σ := by
  refine in113 (by simp) ?_
  unfold c113
  obtain ⟨⟨sm, cm, fv, sme, cme, t1, t2, t3, t4, t5, t6, t7, t8, t9, t10, t11⟩, hsm⟩ := ht
  rcases t6 s with ⟨hi, hf⟩ | ⟨i, j, hi, hf⟩
  · refine raw ?_
    repeat (first | (with_reducible refine unr ?_; try simp only [YY, ↓reduceIte, Nat.reduceEqDiff, Nat.reduceAdd, Nat.reduceLeDiff, reduceCtorEq, Int.reduceEq, Int.reduceLT, Int.reduceLE, Int.reduceNeg, Int.reduceAdd, Int.reduceSub, Int.reduceToNat, t1, t3, hf, findVal]) | (with_reducible refine WW (by decide) ?_))
    refine ⟨_, rfl, by simp, ?_⟩
    rintro ⟨i, c, h, _⟩
    rw [hi] at h; cases h
  · have hlt := idx_lt hi
    simp only [List.length_map] at hlt
    obtain ⟨c, hc⟩ : ∃ c, g.con[i]? = some c := ⟨_, List.getElem?_eq_getElem hlt⟩
    obtain ⟨q, hq, hep⟩ := t7.rds.iad i [.int .i64 (c.2 : Int)] (by simp [hc])
    have hld := hep.load none
    refine raw ?_
    repeat (first | (with_reducible refine unr ?_; try simp only [YY, ↓reduceIte, Nat.reduceEqDiff, Nat.reduceAdd, Nat.reduceLeDiff, reduceCtorEq, Int.reduceEq, Int.reduceLT, Int.reduceLE, Int.reduceNeg, Int.reduceAdd, Int.reduceSub, Int.reduceToNat, t1, t3, hf, findVal, hq, hld]) | (with_reducible refine WW (by decide) ?_))
    refine ⟨_, rfl, ?_⟩
    rw [decide_eq_true_iff]
    refine ⟨fun e => ⟨i, c, hi, hc, e⟩, ?_⟩
    rintro ⟨i', c', h1, h2, h3⟩
    rw [hi] at h1; cases h1
    rw [hc] at h2; cases h2
    exact h3
abbrev KnownCE (x : Cr) : Prop := ∀ (σ : Store) (T tid : Nat) (g : Gl), TAt σ T tid g → T ≤ σ.next → ACalls Try.prog 64 [.ptr tid 0 0 0, .agg x.cells] σ fun r s => (∃ b : Bool, r = .bool b ∧ (b = true ↔ x.Kn g)) ∧ s = σ
set_option maxHeartbeats 1000000 in
theorem knownE : ∀ x : Cr, x.bulk ≤ 10000000 → KnownCE x := by
  intro x
  induction x using Cr.ind with
  | _ k nm n ar ps gs al bs pk ih1 ih2 ih3 ih4 =>
    intro hb σ T tid g ht hT
    rw [Cr.bulk] at hb
    have l1 := Cr.lenL gs; have l2 := Cr.lenA al; have l3 := Cr.lenB bs; have l4 := Cr.lenP pk
    have i1 := fun (x : Cr) (hx : x ∈ gs) => ih1 x hx (by have := Cr.bulkL_le hx; omega)
    have i2 := fun (x : AltH × Cr) (hx : x ∈ al) => ih2 x hx (by have := Cr.bulkA_le hx; omega)
    have i3 := fun (x : ByteArray × Cr) (hx : x ∈ bs) => ih3 x hx (by have := Cr.bulkB_le hx; omega)
    have i4 := fun (x : Int × Cr) (hx : x ∈ pk) => ih4 x hx (by have := Cr.bulkP_le hx; omega)
    refine ACalls_fp (p := RE ((Cr.mk k nm n ar ps gs al bs pk).Kn g)) ?_
    refine in64 (by simp) ?_
    unfold c64
    rw [Cr.cells_eq]
    try simp only [YY, ↓reduceIte, Nat.reduceEqDiff, Nat.reduceAdd, Nat.reduceLeDiff, reduceCtorEq, Int.reduceEq, Int.reduceLT, Int.reduceLE, Int.reduceNeg, Int.reduceAdd, Int.reduceSub, Int.reduceToNat]
    iterate 2 ((with_reducible refine WW (by decide) ?_); refine unr ?_; try simp only [YY, ↓reduceIte, Nat.reduceEqDiff, Nat.reduceAdd, Nat.reduceLeDiff, reduceCtorEq, Int.reduceEq, Int.reduceLT, Int.reduceLE, Int.reduceNeg, Int.reduceAdd, Int.reduceSub, Int.reduceToNat])
    generalize hs : Store.push _ _ = s1
    have k1 : Kp σ s1 := by rw [← hs]; exact .pushed _ _
    have g1 : s1.get σ.next = some (.cells 54 0 9 [[.int .i64 k, .str nm, .int .i64 n, .int .i64 ar, strs ps, .list (gs.map Cr.cells), .list (al.map altC), .list (bs.map bindC), .list (pk.map pickC)]]) := by rw [← hs]; simp [Store.push_get, Store.push_next]
    clear hs
    have he1 := g1
    have ht1 := ht.kp hT k1
    have hT1 : T ≤ s1.next := by have := k1.next; omega
    refine AWP_cut [0, 3] (fun _ : Unit => [.ptr tid 0 0 0, .ptr σ.next 0 0 0]) (fun _ s => s1 = s ∧ Hid (k = 4 → FitsE g nm ar)) ?_ ?_
    · refine raw ?_
      repeat' (first | (with_reducible refine unr ?_; try simp only [YY, ↓reduceIte, Nat.reduceEqDiff, Nat.reduceAdd, Nat.reduceLeDiff, reduceCtorEq, Int.reduceEq, Int.reduceLT, Int.reduceLE, Int.reduceNeg, Int.reduceAdd, Int.reduceSub, Int.reduceToNat, g1, str_nil, *]) | (with_reducible first | refine WW (by decide) ?_ | refine ok_idx (by first | assumption | omega) (fun b hb => raw ?_) | refine ok_iad (by first | assumption | omega) (fun x hx hxm => raw ?_) | refine And.intro (by omega) (raw ?_) | (refine guardW_b (fun h => raw ?_) (fun h => raw ?_) <;> try simp only [Ty] at h) | (refine ePick_b (fun h => raw ?_) (fun h => raw ?_) <;> try simp only [Ty] at h) | (refine condW_b (fun h => raw ?_) (fun h => raw ?_) <;> try simp only [Ty] at h) | (refine (fitsE ht1 _ _).mono ?_; rintro _ _ ⟨⟨b, rfl, hb⟩, rfl⟩; refine raw ?_)))
      all_goals first
        | exact FP.same k1 (RE.f fun hh => iff_f hb h ((kn_iff.1 hh).h4 (by first | rfl | assumption))) (.bool _)
        | exact ⟨(), ⟨fun e => e.elim⟩⟩
        | exact ⟨(), ⟨fun _ => hb.1 h⟩⟩
        | exact ⟨(), ⟨fun e => absurd e (by assumption)⟩⟩
    rintro _ _ ⟨rfl, h4⟩
    refine AWP_cut [0, 3] (fun _ : Unit => [.ptr tid 0 0 0, .ptr σ.next 0 0 0]) (fun _ s => Kp s1 s ∧ Hid (∀ x, x ∈ gs → x.Kn g)) ?_ ?_
    · refine raw ?_
      repeat (first | (with_reducible refine unr ?_; try simp only [YY, ↓reduceIte, Nat.reduceEqDiff, Nat.reduceAdd, Nat.reduceLeDiff, reduceCtorEq, Int.reduceEq, Int.reduceLT, Int.reduceLE, Int.reduceNeg, Int.reduceAdd, Int.reduceSub, Int.reduceToNat, he1]) | (with_reducible refine WW (by decide) ?_))
      refine AWP_while [0, 3, 26, 27, 28] (fun i : Nat => gs.length - i) (fun i => [.ptr tid 0 0 0, .ptr σ.next 0 0 0, .list (gs.map Cr.cells), .int .i64 gs.length, .int .i64 i]) (fun i t => Kp s1 t ∧ i ≤ gs.length ∧ Hid (∀ x, x ∈ gs.take i → x.Kn g)) 0 ⟨.refl _, by simp, ⟨by simp⟩⟩ ?_ ?_
      · refine raw ?_
        repeat (first | (with_reducible refine unr ?_; try simp only [YY, ↓reduceIte, Nat.reduceEqDiff, Nat.reduceAdd, Nat.reduceLeDiff, reduceCtorEq, Int.reduceEq, Int.reduceLT, Int.reduceLE, Int.reduceNeg, Int.reduceAdd, Int.reduceSub, Int.reduceToNat]) | (with_reducible refine WW (by decide) ?_))
        rfl
      rintro i t ⟨k2, hi, hall⟩
      have he1 := k2.get g1
      have hq1 := lt_ne (t.lt he1)
      have kk := k1.trans k2
      have hw := wrap_succ (i := i) (by omega)
      by_cases hil : i < gs.length
      · have hil' : (i : Int) < (gs.length : Int) := by omega
        obtain ⟨x, hx⟩ : ∃ x, gs[i]? = some x := ⟨_, List.getElem?_eq_getElem hil⟩
        have hg : (gs.map Cr.cells)[i]? = some (Cr.cells x) := by simp [hx]
        have hxm := List.mem_of_getElem? hx
        have htp := fun o => ht1.kp hT1 (k2.push o)
        have hTp := fun o => (show T ≤ (t.push o).next by rw [Store.push_next]; have := k2.next; omega)
        refine raw ?_
        repeat' (first | (with_reducible refine unr ?_; try simp only [YY, ↓reduceIte, Nat.reduceEqDiff, Nat.reduceAdd, Nat.reduceLeDiff, reduceCtorEq, Int.reduceEq, Int.reduceLT, Int.reduceLE, Int.reduceNeg, Int.reduceAdd, Int.reduceSub, Int.reduceToNat, he1, hil', hg, Cr.len, Cr.take9, hq1, str_nil, *]) | (with_reducible first | refine WW (by decide) ?_ | refine ok_idx (by first | assumption | omega) (fun b hb => raw ?_) | refine ok_iad (by first | assumption | omega) (fun x hx hxm => raw ?_) | refine And.intro (by omega) (raw ?_) | (refine guardW_b (fun h => raw ?_) (fun h => raw ?_) <;> try simp only [Ty] at h) | (refine ePick_b (fun h => raw ?_) (fun h => raw ?_) <;> try simp only [Ty] at h) | (refine condW_b (fun h => raw ?_) (fun h => raw ?_) <;> try simp only [Ty] at h) | (refine (i1 x hxm _ T tid g (htp _) (hTp _)).mono ?_; rintro _ _ ⟨⟨b, rfl, hb⟩, rfl⟩; refine raw ?_)))
        all_goals first
          | exact FP.same (k1.trans (k2.push _)) (RE.f fun hh => iff_f hb h ((kn_iff.1 hh).g1 x hxm)) (.bool _)
          | exact ⟨i + 1, rfl, ⟨k2.push _, by omega, ⟨all_succ (p := fun x => x.Kn g) hall.out hx (hb.1 h)⟩⟩, by omega⟩
      · have hil' : ¬ (i : Int) < (gs.length : Int) := by omega
        have hall := hall.out
        rw [List.take_of_length_le (by omega)] at hall
        refine raw ?_
        repeat (first | (with_reducible refine unr ?_; try simp only [YY, ↓reduceIte, Nat.reduceEqDiff, Nat.reduceAdd, Nat.reduceLeDiff, reduceCtorEq, Int.reduceEq, Int.reduceLT, Int.reduceLE, Int.reduceNeg, Int.reduceAdd, Int.reduceSub, Int.reduceToNat, he1, hil']) | (with_reducible refine WW (by decide) ?_))
        exact ⟨(), k2, ⟨hall⟩⟩
    rintro _ s2 ⟨k2, q1⟩
    have he1 := k2.get g1
    refine AWP_cut [0, 3] (fun _ : Unit => [.ptr tid 0 0 0, .ptr σ.next 0 0 0]) (fun _ s => Kp s1 s ∧ Hid (∀ x, x ∈ al → KnA g x)) ?_ ?_
    · refine raw ?_
      repeat (first | (with_reducible refine unr ?_; try simp only [YY, ↓reduceIte, Nat.reduceEqDiff, Nat.reduceAdd, Nat.reduceLeDiff, reduceCtorEq, Int.reduceEq, Int.reduceLT, Int.reduceLE, Int.reduceNeg, Int.reduceAdd, Int.reduceSub, Int.reduceToNat, he1]) | (with_reducible refine WW (by decide) ?_))
      refine AWP_while [0, 3, 38, 39, 40] (fun i : Nat => al.length - i) (fun i => [.ptr tid 0 0 0, .ptr σ.next 0 0 0, .list (al.map altC), .int .i64 al.length, .int .i64 i]) (fun i t => Kp s1 t ∧ i ≤ al.length ∧ Hid (∀ x, x ∈ al.take i → KnA g x)) 0 ⟨k2, by simp, ⟨by simp⟩⟩ ?_ ?_
      · refine raw ?_
        repeat (first | (with_reducible refine unr ?_; try simp only [YY, ↓reduceIte, Nat.reduceEqDiff, Nat.reduceAdd, Nat.reduceLeDiff, reduceCtorEq, Int.reduceEq, Int.reduceLT, Int.reduceLE, Int.reduceNeg, Int.reduceAdd, Int.reduceSub, Int.reduceToNat]) | (with_reducible refine WW (by decide) ?_))
        rfl
      rintro i t ⟨k2, hi, hall⟩
      have he1 := k2.get g1
      have hq1 := lt_ne (t.lt he1)
      have kk := k1.trans k2
      have hw := wrap_succ (i := i) (by omega)
      by_cases hil : i < al.length
      · have hil' : (i : Int) < (al.length : Int) := by omega
        obtain ⟨x, hx⟩ : ∃ x, al[i]? = some x := ⟨_, List.getElem?_eq_getElem hil⟩
        have hg : (al.map altC)[i]? = some (altC x) := by simp [hx]
        have hxm := List.mem_of_getElem? hx
        have htp := fun o => ht1.kp hT1 (k2.push o)
        have hTp := fun o => (show T ≤ (t.push o).next by rw [Store.push_next]; have := k2.next; omega)
        refine raw ?_
        repeat' (first | (with_reducible refine unr ?_; try simp only [YY, ↓reduceIte, Nat.reduceEqDiff, Nat.reduceAdd, Nat.reduceLeDiff, reduceCtorEq, Int.reduceEq, Int.reduceLT, Int.reduceLE, Int.reduceNeg, Int.reduceAdd, Int.reduceSub, Int.reduceToNat, he1, hil', hg, altC, AltH.cells, Cr.len, Cr.take9, hq1, str_nil, *]) | (with_reducible first | refine WW (by decide) ?_ | refine ok_idx (by first | assumption | omega) (fun b hb => raw ?_) | refine ok_iad (by first | assumption | omega) (fun x hx hxm => raw ?_) | refine And.intro (by omega) (raw ?_) | (refine guardW_b (fun h => raw ?_) (fun h => raw ?_) <;> try simp only [Ty] at h) | (refine ePick_b (fun h => raw ?_) (fun h => raw ?_) <;> try simp only [Ty] at h) | (refine condW_b (fun h => raw ?_) (fun h => raw ?_) <;> try simp only [Ty] at h) | (refine (i2 x hxm _ T tid g (htp _) (hTp _)).mono ?_; rintro _ _ ⟨⟨b, rfl, hb⟩, rfl⟩; refine raw ?_) | (refine (fitsE (htp _) _ _).mono ?_; rintro _ _ ⟨⟨b, rfl, hb⟩, rfl⟩; refine raw ?_)))
        all_goals first
          | exact FP.same (k1.trans (k2.push _)) (RE.f fun hh => iff_f hb h (((kn_iff.1 hh).g2 x hxm).1 (by assumption))) (.bool _)
          | exact FP.same (k1.trans (k2.push _)) (RE.f fun hh => iff_f hb h ((kn_iff.1 hh).g2 x hxm).2) (.bool _)
          | (rename_i hb1 h1; exact ⟨i + 1, rfl, ⟨k2.push _, by omega, ⟨all_succ (p := KnA g) hall.out hx ⟨fun _ => hb1.1 h1, hb.1 h⟩⟩⟩, by omega⟩)
          | exact ⟨i + 1, rfl, ⟨k2.push _, by omega, ⟨all_succ (p := KnA g) hall.out hx ⟨fun e => absurd e (by assumption), hb.1 h⟩⟩⟩, by omega⟩
      · have hil' : ¬ (i : Int) < (al.length : Int) := by omega
        have hall := hall.out
        rw [List.take_of_length_le (by omega)] at hall
        refine raw ?_
        repeat (first | (with_reducible refine unr ?_; try simp only [YY, ↓reduceIte, Nat.reduceEqDiff, Nat.reduceAdd, Nat.reduceLeDiff, reduceCtorEq, Int.reduceEq, Int.reduceLT, Int.reduceLE, Int.reduceNeg, Int.reduceAdd, Int.reduceSub, Int.reduceToNat, he1, hil']) | (with_reducible refine WW (by decide) ?_))
        exact ⟨(), k2, ⟨hall⟩⟩
    rintro _ s2 ⟨k2, q2⟩
    have he1 := k2.get g1
    refine AWP_cut [0, 3] (fun _ : Unit => [.ptr tid 0 0 0, .ptr σ.next 0 0 0]) (fun _ s => Kp s1 s ∧ Hid (∀ x, x ∈ bs → x.2.Kn g)) ?_ ?_
    · refine raw ?_
      repeat (first | (with_reducible refine unr ?_; try simp only [YY, ↓reduceIte, Nat.reduceEqDiff, Nat.reduceAdd, Nat.reduceLeDiff, reduceCtorEq, Int.reduceEq, Int.reduceLT, Int.reduceLE, Int.reduceNeg, Int.reduceAdd, Int.reduceSub, Int.reduceToNat, he1]) | (with_reducible refine WW (by decide) ?_))
      refine AWP_while [0, 3, 66, 67, 68] (fun i : Nat => bs.length - i) (fun i => [.ptr tid 0 0 0, .ptr σ.next 0 0 0, .list (bs.map bindC), .int .i64 bs.length, .int .i64 i]) (fun i t => Kp s1 t ∧ i ≤ bs.length ∧ Hid (∀ x, x ∈ bs.take i → x.2.Kn g)) 0 ⟨k2, by simp, ⟨by simp⟩⟩ ?_ ?_
      · refine raw ?_
        repeat (first | (with_reducible refine unr ?_; try simp only [YY, ↓reduceIte, Nat.reduceEqDiff, Nat.reduceAdd, Nat.reduceLeDiff, reduceCtorEq, Int.reduceEq, Int.reduceLT, Int.reduceLE, Int.reduceNeg, Int.reduceAdd, Int.reduceSub, Int.reduceToNat]) | (with_reducible refine WW (by decide) ?_))
        rfl
      rintro i t ⟨k2, hi, hall⟩
      have he1 := k2.get g1
      have hq1 := lt_ne (t.lt he1)
      have kk := k1.trans k2
      have hw := wrap_succ (i := i) (by omega)
      by_cases hil : i < bs.length
      · have hil' : (i : Int) < (bs.length : Int) := by omega
        obtain ⟨x, hx⟩ : ∃ x, bs[i]? = some x := ⟨_, List.getElem?_eq_getElem hil⟩
        have hg : (bs.map bindC)[i]? = some (bindC x) := by simp [hx]
        have hxm := List.mem_of_getElem? hx
        have htp := fun o => ht1.kp hT1 (k2.push o)
        have hTp := fun o => (show T ≤ (t.push o).next by rw [Store.push_next]; have := k2.next; omega)
        refine raw ?_
        repeat' (first | (with_reducible refine unr ?_; try simp only [YY, ↓reduceIte, Nat.reduceEqDiff, Nat.reduceAdd, Nat.reduceLeDiff, reduceCtorEq, Int.reduceEq, Int.reduceLT, Int.reduceLE, Int.reduceNeg, Int.reduceAdd, Int.reduceSub, Int.reduceToNat, he1, hil', hg, bindC, Cr.len, Cr.take9, hq1, str_nil, *]) | (with_reducible first | refine WW (by decide) ?_ | refine ok_idx (by first | assumption | omega) (fun b hb => raw ?_) | refine ok_iad (by first | assumption | omega) (fun x hx hxm => raw ?_) | refine And.intro (by omega) (raw ?_) | (refine guardW_b (fun h => raw ?_) (fun h => raw ?_) <;> try simp only [Ty] at h) | (refine ePick_b (fun h => raw ?_) (fun h => raw ?_) <;> try simp only [Ty] at h) | (refine condW_b (fun h => raw ?_) (fun h => raw ?_) <;> try simp only [Ty] at h) | (refine (i3 x hxm _ T tid g (htp _) (hTp _)).mono ?_; rintro _ _ ⟨⟨b, rfl, hb⟩, rfl⟩; refine raw ?_)))
        all_goals first
          | exact FP.same (k1.trans (k2.push _)) (RE.f fun hh => iff_f hb h ((kn_iff.1 hh).g3 x hxm)) (.bool _)
          | exact ⟨i + 1, rfl, ⟨k2.push _, by omega, ⟨all_succ (p := fun x => x.2.Kn g) hall.out hx (hb.1 h)⟩⟩, by omega⟩
      · have hil' : ¬ (i : Int) < (bs.length : Int) := by omega
        have hall := hall.out
        rw [List.take_of_length_le (by omega)] at hall
        refine raw ?_
        repeat (first | (with_reducible refine unr ?_; try simp only [YY, ↓reduceIte, Nat.reduceEqDiff, Nat.reduceAdd, Nat.reduceLeDiff, reduceCtorEq, Int.reduceEq, Int.reduceLT, Int.reduceLE, Int.reduceNeg, Int.reduceAdd, Int.reduceSub, Int.reduceToNat, he1, hil']) | (with_reducible refine WW (by decide) ?_))
        exact ⟨(), k2, ⟨hall⟩⟩
    rintro _ s2 ⟨k2, q3⟩
    have he1 := k2.get g1
    refine raw ?_
    repeat (first | (with_reducible refine unr ?_; try simp only [YY, ↓reduceIte, Nat.reduceEqDiff, Nat.reduceAdd, Nat.reduceLeDiff, reduceCtorEq, Int.reduceEq, Int.reduceLT, Int.reduceLE, Int.reduceNeg, Int.reduceAdd, Int.reduceSub, Int.reduceToNat, he1]) | (with_reducible refine WW (by decide) ?_))
    refine AWP_while [0, 3, 79, 80, 81] (fun i : Nat => pk.length - i) (fun i => [.ptr tid 0 0 0, .ptr σ.next 0 0 0, .list (pk.map pickC), .int .i64 pk.length, .int .i64 i]) (fun i t => Kp s1 t ∧ i ≤ pk.length ∧ Hid (∀ x, x ∈ pk.take i → x.2.Kn g)) 0 ⟨k2, by simp, ⟨by simp⟩⟩ ?_ ?_
    · refine raw ?_
      repeat (first | (with_reducible refine unr ?_; try simp only [YY, ↓reduceIte, Nat.reduceEqDiff, Nat.reduceAdd, Nat.reduceLeDiff, reduceCtorEq, Int.reduceEq, Int.reduceLT, Int.reduceLE, Int.reduceNeg, Int.reduceAdd, Int.reduceSub, Int.reduceToNat]) | (with_reducible refine WW (by decide) ?_))
      rfl
    rintro i t ⟨k2, hi, hall⟩
    have he1 := k2.get g1
    have hq1 := lt_ne (t.lt he1)
    have kk := k1.trans k2
    have hw := wrap_succ (i := i) (by omega)
    by_cases hil : i < pk.length
    · have hil' : (i : Int) < (pk.length : Int) := by omega
      obtain ⟨x, hx⟩ : ∃ x, pk[i]? = some x := ⟨_, List.getElem?_eq_getElem hil⟩
      have hg : (pk.map pickC)[i]? = some (pickC x) := by simp [hx]
      have hxm := List.mem_of_getElem? hx
      have htp := fun o => ht1.kp hT1 (k2.push o)
      have hTp := fun o => (show T ≤ (t.push o).next by rw [Store.push_next]; have := k2.next; omega)
      refine raw ?_
      repeat' (first | (with_reducible refine unr ?_; try simp only [YY, ↓reduceIte, Nat.reduceEqDiff, Nat.reduceAdd, Nat.reduceLeDiff, reduceCtorEq, Int.reduceEq, Int.reduceLT, Int.reduceLE, Int.reduceNeg, Int.reduceAdd, Int.reduceSub, Int.reduceToNat, he1, hil', hg, pickC, Cr.len, Cr.take9, hq1, str_nil, *]) | (with_reducible first | refine WW (by decide) ?_ | refine ok_idx (by first | assumption | omega) (fun b hb => raw ?_) | refine ok_iad (by first | assumption | omega) (fun x hx hxm => raw ?_) | refine And.intro (by omega) (raw ?_) | (refine guardW_b (fun h => raw ?_) (fun h => raw ?_) <;> try simp only [Ty] at h) | (refine ePick_b (fun h => raw ?_) (fun h => raw ?_) <;> try simp only [Ty] at h) | (refine condW_b (fun h => raw ?_) (fun h => raw ?_) <;> try simp only [Ty] at h) | (refine (i4 x hxm _ T tid g (htp _) (hTp _)).mono ?_; rintro _ _ ⟨⟨b, rfl, hb⟩, rfl⟩; refine raw ?_)))
      all_goals first
          | exact FP.same (k1.trans (k2.push _)) (RE.f fun hh => iff_f hb h ((kn_iff.1 hh).g4 x hxm)) (.bool _)
          | exact ⟨i + 1, rfl, ⟨k2.push _, by omega, ⟨all_succ (p := fun x => x.2.Kn g) hall.out hx (hb.1 h)⟩⟩, by omega⟩
    · have hil' : ¬ (i : Int) < (pk.length : Int) := by omega
      have hall := hall.out
      rw [List.take_of_length_le (by omega)] at hall
      refine raw ?_
      repeat (first | (with_reducible refine unr ?_; try simp only [YY, ↓reduceIte, Nat.reduceEqDiff, Nat.reduceAdd, Nat.reduceLeDiff, reduceCtorEq, Int.reduceEq, Int.reduceLT, Int.reduceLE, Int.reduceNeg, Int.reduceAdd, Int.reduceSub, Int.reduceToNat, he1, hil']) | (with_reducible refine WW (by decide) ?_))
      exact FP.same kk (RE.t (kn_iff.2 ⟨h4.out, q1.out, q2.out, q3.out, hall⟩)) (.bool _)
end Go.Proofs.Ytjjbjibbjbbeaaa
/- What is opened, exactly: the program's answer. -/
set_option linter.unusedVariables false
set_option linter.unusedSimpArgs false
namespace Go.AL
/-- Constructors' names. -/
def ConsQ (l : List Con5) : Prop := (∀ c, c ∈ l → c.nm.size ≠ 0) ∧ (l.map (·.nm)).Nodup
/-- The constructors that must be there. -/
def TF (g : Gl) : Prop := FitsE g ⟨#[70, 97, 108, 115, 101]⟩ 0 ∧ FitsE g ⟨#[84, 114, 117, 101]⟩ 0
/-- What may be compiled. -/
def OpenE (l : List Sup) (cons : List Con5) : Prop := FlatE l ∧ (ConsQ cons ∧ TF (glOf l cons)) ∧ ∀ x, x ∈ l → x.bd.Kn (glOf l cons)
theorem consQ_snoc {l : List Con5} {i : Nat} {x : Con5} (hx : l[i]? = some x) (h : ConsQ (l.take i)) (h0 : ¬ x.nm.size = 0) (hn : x.nm ∉ (l.take i).map (·.nm)) : ConsQ (l.take (i + 1)) := by
  refine ⟨all_succ (p := fun c => c.nm.size ≠ 0) h.1 hx h0, ?_⟩
  rw [take_succ_at hx, List.map_append]
  exact List.nodup_append.2 ⟨h.2, by simp, by intro a ha b hb e; simp at hb; subst hb; subst e; exact hn ha⟩
theorem consQ_dup {l : List Con5} {i : Nat} {x : Con5} (hx : l[i]? = some x) (hm : x.nm ∈ (l.take i).map (·.nm)) : ¬ ConsQ l := by
  intro h
  have e := split_at hx
  have h2 := h.2
  rw [e, List.map_append, List.map_cons] at h2
  exact (List.nodup_append.1 h2).2.2 _ hm _ (by simp) rfl
end Go.AL
namespace Go.Proofs.Ytjjbjibbjbbeaaa
open Go.AL
theorem tableOfE (l : List Sup) (hnd : (l.map (·.nm)).Nodup) (cons : List Con5) (hl : l.length + cons.length ≤ 100000000) (σ : Store) :
    ACalls Try.prog 105 [.list (l.map supC), .list (cons.map con5C)] σ fun r s => ((¬ ConsQ cons ∧ r = .tuple [.nilp, .bool false]) ∨ ∃ tid b, r = .tuple [.ptr tid 0 0 0, .bool b] ∧ TAt s s.next tid (glOf l cons) ∧ (b = true ↔ ConsQ cons ∧ TF (glOf l cons))) ∧ Kp σ s := by
  refine in105 (by simp) ?_
  unfold c105
  try simp only [YY, ↓reduceIte, Nat.reduceEqDiff, Nat.reduceAdd, Nat.reduceLeDiff, reduceCtorEq, Int.reduceEq, Int.reduceLT, Int.reduceLE, Int.reduceNeg, Int.reduceAdd, Int.reduceSub, Int.reduceToNat]
  iterate 4 ((with_reducible refine WW (by decide) ?_); refine unr ?_; try simp only [YY, ↓reduceIte, Nat.reduceEqDiff, Nat.reduceAdd, Nat.reduceLeDiff, reduceCtorEq, Int.reduceEq, Int.reduceLT, Int.reduceLE, Int.reduceNeg, Int.reduceAdd, Int.reduceSub, Int.reduceToNat])
  generalize hs : Store.push _ _ = s1
  have k1 : Kp σ s1 := by rw [← hs]; exact ((Kp.pushed _ _).push _).push _
  have n1 : s1.next = σ.next + 3 := by rw [← hs]; rfl
  have e1 : s1.get σ.next = some (.map []) := by rw [← hs]; simp [Store.push_get, Store.push_next]; intro h; omega
  have e2 : s1.get (σ.next + 1) = some (.map []) := by rw [← hs]; simp [Store.push_get, Store.push_next]
  have e3 : s1.get (σ.next + 2) = some (.cells 223 0 3 [[.map σ.next, .map (σ.next + 1), .nils]]) := by rw [← hs]; simp [Store.push_get, Store.push_next]
  clear hs
  refine AWP_cut [1, 6] (fun _ : Unit => [.list (cons.map con5C), .ptr (σ.next + 2) 0 0 0]) (fun _ s => Kp σ s ∧ s.get σ.next = some (.map (ents 0 (l.map (·.nm)))) ∧ s.get (σ.next + 1) = some (.map []) ∧ s.get (σ.next + 2) = some (.cells 223 0 3 [[.map σ.next, .map (σ.next + 1), .nils]])) ?_ ?_
  · refine raw ?_
    repeat (first | (with_reducible refine unr ?_; try simp only [YY, ↓reduceIte, Nat.reduceEqDiff, Nat.reduceAdd, Nat.reduceLeDiff, reduceCtorEq, Int.reduceEq, Int.reduceLT, Int.reduceLE, Int.reduceNeg, Int.reduceAdd, Int.reduceSub, Int.reduceToNat]) | (with_reducible refine WW (by decide) ?_))
    refine AWP_while [1, 6, 17, 18, 19] (fun i : Nat => l.length - i) (fun i => [.list (cons.map con5C), .ptr (σ.next + 2) 0 0 0, .list (l.map supC), .int .i64 l.length, .int .i64 i])
      (fun i s => i ≤ l.length ∧ Kp σ s ∧ s.get σ.next = some (.map (ents 0 ((l.take i).map (·.nm)))) ∧ s.get (σ.next + 1) = some (.map []) ∧ s.get (σ.next + 2) = some (.cells 223 0 3 [[.map σ.next, .map (σ.next + 1), .nils]])) 0 ⟨by simp, k1, by simpa [ents] using e1, e2, e3⟩ ?_ ?_
    · refine raw ?_
      repeat (first | (with_reducible refine unr ?_; try simp only [YY, ↓reduceIte, Nat.reduceEqDiff, Nat.reduceAdd, Nat.reduceLeDiff, reduceCtorEq, Int.reduceEq, Int.reduceLT, Int.reduceLE, Int.reduceNeg, Int.reduceAdd, Int.reduceSub, Int.reduceToNat]) | (with_reducible refine WW (by decide) ?_))
      rfl
    rintro i s ⟨hi, k2, f1, f2, f3⟩
    have hw := wrap_succ (i := i) (by omega)
    by_cases hil : i < l.length
    · have hil' : (i : Int) < (l.length : Int) := by omega
      obtain ⟨x, hx⟩ : ∃ x, l[i]? = some x := ⟨_, List.getElem?_eq_getElem hil⟩
      have hg : (l.map supC)[i]? = some (supC x) := by simp [hx]
      have q1 := lt_ne (s.lt f1)
      have q2 := lt_ne (s.lt f2)
      have q3 := lt_ne (s.lt f3)
      have hnm : x.nm ∉ (l.take i).map (·.nm) := by
        intro hm
        have e := split_at hx
        rw [e, List.map_append, List.map_cons] at hnd
        exact (List.nodup_append.1 hnd).2.2 _ hm _ (by simp) rfl
      have hfn := aFind_new hnm
      refine raw ?_
      repeat (first | (with_reducible refine unr ?_; try simp only [YY, ↓reduceIte, Nat.reduceEqDiff, Nat.reduceAdd, Nat.reduceLeDiff, reduceCtorEq, Int.reduceEq, Int.reduceLT, Int.reduceLE, Int.reduceNeg, Int.reduceAdd, Int.reduceSub, Int.reduceToNat, hil', hg, supC, Cr.len, Cr.take9, Cr.drop9, f1, f3, q1, q2, q3, hfn, mapPut, hw]) | (with_reducible refine WW (by decide) ?_))
      have et : (l.take (i + 1)).map (·.nm) = (l.take i).map (·.nm) ++ [x.nm] := by rw [take_succ_at hx]; simp
      have hli : ((l.take i).map (·.nm)).length = i := by simp; omega
      refine ⟨i + 1, rfl, ⟨by omega, (k2.upd (Nat.le_refl _) _).push _, ?_, ?_, ?_⟩, by omega⟩
      · rw [Store.get_upd_self _ _ (s.lt f1), et, ents_app, hli, Nat.zero_add]
        rfl
      · rw [Store.get_upd_ne _ _ (by omega)]; exact f2
      · rw [Store.get_upd_ne _ _ (by omega)]; exact f3
    · have hil' : ¬ (i : Int) < (l.length : Int) := by omega
      rw [List.take_of_length_le (by omega)] at f1
      refine raw ?_
      repeat (first | (with_reducible refine unr ?_; try simp only [YY, ↓reduceIte, Nat.reduceEqDiff, Nat.reduceAdd, Nat.reduceLeDiff, reduceCtorEq, Int.reduceEq, Int.reduceLT, Int.reduceLE, Int.reduceNeg, Int.reduceAdd, Int.reduceSub, Int.reduceToNat, hil']) | (with_reducible refine WW (by decide) ?_))
      exact ⟨(), k2, f1, f2, f3⟩
  rintro _ s ⟨k2, f1, f2, f3⟩
  refine AWP_cut [6] (fun _ : Unit => [.ptr (σ.next + 2) 0 0 0]) (fun _ s => Kp σ s ∧ TAt s s.next (σ.next + 2) (glOf l cons) ∧ Hid (ConsQ cons)) ?_ ?_
  · refine raw ?_
    repeat (first | (with_reducible refine unr ?_; try simp only [YY, ↓reduceIte, Nat.reduceEqDiff, Nat.reduceAdd, Nat.reduceLeDiff, reduceCtorEq, Int.reduceEq, Int.reduceLT, Int.reduceLE, Int.reduceNeg, Int.reduceAdd, Int.reduceSub, Int.reduceToNat]) | (with_reducible refine WW (by decide) ?_))
    refine AWP_while [6, 32, 33, 34] (fun y : AV × Nat => cons.length - y.2) (fun y => [.ptr (σ.next + 2) 0 0 0, .list (cons.map con5C), .int .i64 cons.length, .int .i64 y.2])
      (fun y s => y.2 ≤ cons.length ∧ Kp σ s ∧ s.get σ.next = some (.map (ents 0 (l.map (·.nm)))) ∧ s.get (σ.next + 1) = some (.map (ents 0 ((cons.take y.2).map (·.nm)))) ∧ s.get (σ.next + 2) = some (.cells 223 0 3 [[.map σ.next, .map (σ.next + 1), y.1]]) ∧
        SliceAt s y.1 3 1 ((cons.take y.2).map fun c => [.int .i64 (c.fs.length : Int)]) ∧ (∀ j, j ∈ slIds y.1 → σ.next + 3 ≤ j) ∧ Hid (ConsQ (cons.take y.2))) (.nils, 0) ⟨by simp, k2, f1, by simpa [ents] using f2, f3, by simpa using SliceAt.nil s 3 1, by simp [slIds], ⟨by simp [ConsQ]⟩⟩ ?_ ?_
    · refine raw ?_
      repeat (first | (with_reducible refine unr ?_; try simp only [YY, ↓reduceIte, Nat.reduceEqDiff, Nat.reduceAdd, Nat.reduceLeDiff, reduceCtorEq, Int.reduceEq, Int.reduceLT, Int.reduceLE, Int.reduceNeg, Int.reduceAdd, Int.reduceSub, Int.reduceToNat]) | (with_reducible refine WW (by decide) ?_))
      rfl
    clear k2 f1 f2 f3
    rintro ⟨fv, i⟩ s ⟨hi, k2, f1, f2, f3, hsl, hfv, hcq⟩
    simp only at hi f2 f3 hsl hfv hcq
    have hw := wrap_succ (i := i) (by omega)
    have q1 := lt_ne (s.lt f1)
    have q2 := lt_ne (s.lt f2)
    have q3 := lt_ne (s.lt f3)
    by_cases hil : i < cons.length
    · have hil' : (i : Int) < (cons.length : Int) := by omega
      obtain ⟨x, hx⟩ : ∃ x, cons[i]? = some x := ⟨_, List.getElem?_eq_getElem hil⟩
      have hg : (cons.map con5C)[i]? = some (con5C x) := by simp [hx]
      have kp := (k2.push (.cells 87 0 5 [con5C x]))
      by_cases hm : x.nm ∈ (cons.take i).map (·.nm)
      · obtain ⟨m, j, _, hf⟩ : ∃ m j, idx ((cons.take i).map (·.nm)) x.nm = some m ∧ aFind .str (.str x.nm) (ents 0 ((cons.take i).map (·.nm))) 0 = some (some (j, .int .i64 ((0 + m : Nat) : Int))) := by
          rcases aFind_ents x.nm ((cons.take i).map (·.nm)) 0 0 with ⟨h1, _⟩ | ⟨m, j, h1, h2⟩
          · exact absurd hm (idx_none.1 h1)
          · exact ⟨m, j, h1, h2⟩
        refine raw ?_
        repeat' (first | (with_reducible refine unr ?_; try simp only [YY, ↓reduceIte, Nat.reduceEqDiff, Nat.reduceAdd, Nat.reduceLeDiff, reduceCtorEq, Int.reduceEq, Int.reduceLT, Int.reduceLE, Int.reduceNeg, Int.reduceAdd, Int.reduceSub, Int.reduceToNat, hil', hg, con5C, f2, f3, q2, q3, hf, findVal, str_nil, *]) | (with_reducible first | refine WW (by decide) ?_ | refine ok_idx (by first | assumption | omega) (fun b hb => raw ?_) | refine ok_iad (by first | assumption | omega) (fun x hx hxm => raw ?_) | refine And.intro (by omega) (raw ?_) | (refine guardW_b (fun h => raw ?_) (fun h => raw ?_) <;> try simp only [Ty] at h) | (refine ePick_b (fun h => raw ?_) (fun h => raw ?_) <;> try simp only [Ty] at h) | (refine condW_b (fun h => raw ?_) (fun h => raw ?_) <;> try simp only [Ty] at h)))
        exact ⟨.inl (consQ_dup hx hm), kp⟩
      · have hf := aFind_new hm
        have hu2 : ∀ o, (s.upd (σ.next + 1) o).get (σ.next + 2) = some (.cells 223 0 3 [[.map σ.next, .map (σ.next + 1), fv]]) := fun o => by rw [Store.get_upd_ne _ _ (by omega)]; exact f3
        refine raw ?_
        repeat' (first | (with_reducible refine unr ?_; try simp only [YY, ↓reduceIte, Nat.reduceEqDiff, Nat.reduceAdd, Nat.reduceLeDiff, reduceCtorEq, Int.reduceEq, Int.reduceLT, Int.reduceLE, Int.reduceNeg, Int.reduceAdd, Int.reduceSub, Int.reduceToNat, hil', hg, con5C, f2, f3, q2, q3, hf, findVal, mapPut, hu2, str_nil, *]) | (with_reducible first | refine WW (by decide) ?_ | refine ok_idx (by first | assumption | omega) (fun b hb => raw ?_) | refine ok_iad (by first | assumption | omega) (fun x hx hxm => raw ?_) | refine And.intro (by omega) (raw ?_) | (refine guardW_b (fun h => raw ?_) (fun h => raw ?_) <;> try simp only [Ty] at h) | (refine ePick_b (fun h => raw ?_) (fun h => raw ?_) <;> try simp only [Ty] at h) | (refine condW_b (fun h => raw ?_) (fun h => raw ?_) <;> try simp only [Ty] at h)))
        · exact ⟨.inl (fun hh => hh.1 x (List.mem_of_getElem? hx) (by assumption)), kp⟩
        have hnz : ¬ x.nm.size = 0 := by assumption
        generalize hs4 : Store.push _ _ = s4
        have k4 : Kp σ s4 := by rw [← hs4]; exact (k2.upd (by omega) _).push _
        have n4 : s4.next = s.next + 1 := by rw [← hs4]; rfl
        have g1 : s4.get σ.next = some (.map (ents 0 (l.map (·.nm)))) := by rw [← hs4, Store.push_get, if_neg (by rw [Store.upd_next]; simpa using q1), Store.get_upd_ne _ _ (by omega)]; exact f1
        have et : (cons.take (i + 1)).map (·.nm) = (cons.take i).map (·.nm) ++ [x.nm] := by rw [take_succ_at hx]; simp
        have hli : ((cons.take i).map (·.nm)).length = i := by simp; omega
        have g2 : s4.get (σ.next + 1) = some (.map (ents 0 ((cons.take (i + 1)).map (·.nm)))) := by
          rw [← hs4, Store.push_get, if_neg (by rw [Store.upd_next]; simpa using q2), Store.get_upd_self _ _ (s.lt f2), et, ents_app, hli, Nat.zero_add]
          rfl
        have g3 : s4.get (σ.next + 2) = some (.cells 223 0 3 [[.map σ.next, .map (σ.next + 1), fv]]) := by rw [← hs4, Store.push_get, if_neg (by rw [Store.upd_next]; simpa using q3), Store.get_upd_ne _ _ (by omega)]; exact f3
        have hsl4 : SliceAt s4 fv 3 1 ((cons.take i).map fun c => [.int .i64 (c.fs.length : Int)]) := hsl.keep fun j hj => by
          have h1 := hfv j hj
          have h2 := hsl.lt hj
          rw [← hs4, Store.push_get, if_neg (by rw [Store.upd_next]; omega), Store.get_upd_ne _ _ (by omega)]
        clear hs4
        refine ok_app hsl4 (es2 := [[.int .i64 (x.fs.length : Int)]]) (by simp) (by simp; omega) (by simp [maxLen]; omega) ?_
        intro fv5 s5 hsl5 hfr
        have l3 := s.lt f3
        have m1 := hfr.keep σ.next (by omega) (fun hm => by have := hfv _ hm; omega)
        have m2 := hfr.keep (σ.next + 1) (by omega) (fun hm => by have := hfv _ hm; omega)
        have m3 := hfr.keep (σ.next + 2) (by omega) (fun hm => by have := hfv _ hm; omega)
        rw [g1] at m1
        rw [g2] at m2
        rw [g3] at m3
        have hfv5 : ∀ j, j ∈ slIds fv5 → σ.next + 3 ≤ j := fun j hj => (hfr.fresh j hj).elim (hfv j) (fun q => by have := k2.next; have := s.lt f3; omega)
        have k5 : Kp σ s5 := ⟨by have := k4.next; have := hfr.next; omega, fun j hj => by rw [hfr.keep j (by have := k4.next; omega) (fun hm => by have := hfv _ hm; omega), k4.keep j hj]⟩
        refine raw ?_
        repeat (first | (with_reducible refine unr ?_; try simp only [YY, ↓reduceIte, Nat.reduceEqDiff, Nat.reduceAdd, Nat.reduceLeDiff, reduceCtorEq, Int.reduceEq, Int.reduceLT, Int.reduceLE, Int.reduceNeg, Int.reduceAdd, Int.reduceSub, Int.reduceToNat, m3, hsl5.co, hw]) | (with_reducible refine WW (by decide) ?_))
        refine ⟨(fv5, i + 1), rfl, ⟨by simp only; omega, k5.upd (by omega) _, ?_, ?_, Store.get_upd_self _ _ (s5.lt m3), ?_, hfv5, ⟨consQ_snoc hx hcq.out hnz hm⟩⟩, by simp only; omega⟩
        · rw [Store.get_upd_ne _ _ (by omega)]; exact m1
        · rw [Store.get_upd_ne _ _ (by omega)]; exact m2
        · have e : ((cons.take (i + 1)).map fun c => [AV.int .i64 (c.fs.length : Int)]) = ((cons.take i).map fun c => [AV.int .i64 (c.fs.length : Int)]) ++ [[AV.int .i64 (x.fs.length : Int)]] := by rw [take_succ_at hx]; simp
          simp only [e]
          exact hsl5.keep fun j hj => Store.get_upd_ne _ _ (by have := hfv5 j hj; omega)
    · have hil' : ¬ (i : Int) < (cons.length : Int) := by omega
      have hcq := hcq.out
      rw [List.take_of_length_le (by omega)] at f2 hsl hcq
      refine raw ?_
      repeat (first | (with_reducible refine unr ?_; try simp only [YY, ↓reduceIte, Nat.reduceEqDiff, Nat.reduceAdd, Nat.reduceLeDiff, reduceCtorEq, Int.reduceEq, Int.reduceLT, Int.reduceLE, Int.reduceNeg, Int.reduceAdd, Int.reduceSub, Int.reduceToNat, hil']) | (with_reducible refine WW (by decide) ?_))
      refine ⟨(), k2, ⟨⟨σ.next, σ.next + 1, fv, _, _, f3, f1, f2, ?_, ?_, ?_, ?_, s.lt f3, s.lt f1, s.lt f2, fun j hj => hsl.lt hj⟩, ?_⟩, ⟨hcq⟩⟩
      · rw [ents_len]; rfl
      · intro k
        rcases aFind_ents k (l.map (·.nm)) 0 0 with h | ⟨m, j, h1, h2⟩
        · exact .inl h
        · exact .inr ⟨m, j, h1, by simpa using h2⟩
      · intro k
        have e : (glOf l cons).con.map (·.1) = cons.map (·.nm) := by simp [glOf, Function.comp_def]
        rw [e]
        rcases aFind_ents k (cons.map (·.nm)) 0 0 with h | ⟨m, j, h1, h2⟩
        · exact .inl h
        · exact .inr ⟨m, j, h1, by simpa using h2⟩
      · have e : ((glOf l cons).con.map fun c => [AV.int .i64 (c.2 : Int)]) = cons.map fun c => [AV.int .i64 (c.fs.length : Int)] := by simp [glOf, Function.comp_def]
        rw [e]; exact hsl
      · simp [glOf]; omega
  rintro _ s ⟨k2, ht, hcq⟩
  refine raw ?_
  repeat (first | (with_reducible refine unr ?_; try simp only [YY, ↓reduceIte, Nat.reduceEqDiff, Nat.reduceAdd, Nat.reduceLeDiff, reduceCtorEq, Int.reduceEq, Int.reduceLT, Int.reduceLE, Int.reduceNeg, Int.reduceAdd, Int.reduceSub, Int.reduceToNat]) | (with_reducible refine WW (by decide) ?_))
  refine (fitsE ht _ _).mono ?_
  rintro _ _ ⟨⟨b1, rfl, hb1⟩, rfl⟩
  rename_i s
  cases b1 with
  | true =>
    refine raw ?_
    repeat (first | (with_reducible refine unr ?_; try simp only [YY, ↓reduceIte, Nat.reduceEqDiff, Nat.reduceAdd, Nat.reduceLeDiff, reduceCtorEq, Int.reduceEq, Int.reduceLT, Int.reduceLE, Int.reduceNeg, Int.reduceAdd, Int.reduceSub, Int.reduceToNat]) | (with_reducible refine WW (by decide) ?_))
    refine (fitsE ht _ _).mono ?_
    rintro _ _ ⟨⟨b2, rfl, hb2⟩, rfl⟩
    rename_i s
    refine raw ?_
    repeat (first | (with_reducible refine unr ?_; try simp only [YY, ↓reduceIte, Nat.reduceEqDiff, Nat.reduceAdd, Nat.reduceLeDiff, reduceCtorEq, Int.reduceEq, Int.reduceLT, Int.reduceLE, Int.reduceNeg, Int.reduceAdd, Int.reduceSub, Int.reduceToNat]) | (with_reducible refine WW (by decide) ?_))
    exact ⟨.inr ⟨_, _, rfl, ht, fun e => ⟨hcq.out, hb1.1 rfl, hb2.1 e⟩, fun h => hb2.2 h.2.2⟩, k2⟩
  | false =>
    refine raw ?_
    repeat (first | (with_reducible refine unr ?_; try simp only [YY, ↓reduceIte, Nat.reduceEqDiff, Nat.reduceAdd, Nat.reduceLeDiff, reduceCtorEq, Int.reduceEq, Int.reduceLT, Int.reduceLE, Int.reduceNeg, Int.reduceAdd, Int.reduceSub, Int.reduceToNat]) | (with_reducible refine WW (by decide) ?_))
    exact ⟨.inr ⟨_, _, rfl, ht, fun e => by (first | cases e | simp at e), fun h => absurd h.2.1 (iff_f hb1 rfl)⟩, k2⟩
theorem openE (l : List Sup) (cons : List Con5) (hb : bulkS l ≤ 9000000) (hl : l.length + cons.length ≤ 100000000) (σ : Store) :
    ACalls Try.prog 56 [.list (l.map supC), .list (cons.map con5C)] σ fun r s => ((¬ OpenE l cons ∧ r = .tuple [.nilp, .bool false]) ∨ ∃ tid, r = .tuple [.ptr tid 0 0 0, .bool true] ∧ TAt s s.next tid (glOf l cons) ∧ OpenE l cons) ∧ Kp σ s := by
  refine in56 (by simp) ?_
  unfold c56
  refine raw ?_
  repeat (first | (with_reducible refine unr ?_; try simp only [YY, ↓reduceIte, Nat.reduceEqDiff, Nat.reduceAdd, Nat.reduceLeDiff, reduceCtorEq, Int.reduceEq, Int.reduceLT, Int.reduceLE, Int.reduceNeg, Int.reduceAdd, Int.reduceSub, Int.reduceToNat]) | (with_reducible refine WW (by decide) ?_))
  refine (flatSE l hb _).mono ?_
  rintro _ _ ⟨⟨b, rfl, hF⟩, rfl⟩
  rename_i σ
  cases b with
  | false =>
    refine raw ?_
    repeat (first | (with_reducible refine unr ?_; try simp only [YY, ↓reduceIte, Nat.reduceEqDiff, Nat.reduceAdd, Nat.reduceLeDiff, reduceCtorEq, Int.reduceEq, Int.reduceLT, Int.reduceLE, Int.reduceNeg, Int.reduceAdd, Int.reduceSub, Int.reduceToNat]) | (with_reducible refine WW (by decide) ?_))
    exact ⟨.inl fun h => iff_f hF rfl h.1, .refl _⟩
  | true =>
    have hF := hF.1 rfl
    refine raw ?_
    repeat (first | (with_reducible refine unr ?_; try simp only [YY, ↓reduceIte, Nat.reduceEqDiff, Nat.reduceAdd, Nat.reduceLeDiff, reduceCtorEq, Int.reduceEq, Int.reduceLT, Int.reduceLE, Int.reduceNeg, Int.reduceAdd, Int.reduceSub, Int.reduceToNat]) | (with_reducible refine WW (by decide) ?_))
    refine (tableOfE l hF.1.2 cons hl _).mono ?_
    rintro _ s1 ⟨⟨hnc, rfl⟩ | ⟨tid, b, rfl, ht, hne⟩, k1⟩
    · refine raw ?_
      repeat (first | (with_reducible refine unr ?_; try simp only [YY, ↓reduceIte, Nat.reduceEqDiff, Nat.reduceAdd, Nat.reduceLeDiff, reduceCtorEq, Int.reduceEq, Int.reduceLT, Int.reduceLE, Int.reduceNeg, Int.reduceAdd, Int.reduceSub, Int.reduceToNat]) | (with_reducible refine WW (by decide) ?_))
      exact ⟨.inl fun h => hnc h.2.1.1, k1⟩
    · cases b with
      | false =>
        refine raw ?_
        repeat (first | (with_reducible refine unr ?_; try simp only [YY, ↓reduceIte, Nat.reduceEqDiff, Nat.reduceAdd, Nat.reduceLeDiff, reduceCtorEq, Int.reduceEq, Int.reduceLT, Int.reduceLE, Int.reduceNeg, Int.reduceAdd, Int.reduceSub, Int.reduceToNat]) | (with_reducible refine WW (by decide) ?_))
        exact ⟨.inl fun h => iff_f hne rfl h.2.1, k1⟩
      | true =>
        refine raw ?_
        repeat (first | (with_reducible refine unr ?_; try simp only [YY, ↓reduceIte, Nat.reduceEqDiff, Nat.reduceAdd, Nat.reduceLeDiff, reduceCtorEq, Int.reduceEq, Int.reduceLT, Int.reduceLE, Int.reduceNeg, Int.reduceAdd, Int.reduceSub, Int.reduceToNat]) | (with_reducible refine WW (by decide) ?_))
        refine AWP_while [0, 6, 21, 22, 23] (fun i : Nat => l.length - i) (fun i => [.list (l.map supC), .ptr tid 0 0 0, .list (l.map supC), .int .i64 l.length, .int .i64 i]) (fun i t => Kp s1 t ∧ i ≤ l.length ∧ Hid (∀ x, x ∈ l.take i → x.bd.Kn (glOf l cons))) 0 ⟨.refl _, by simp, ⟨by simp⟩⟩ ?_ ?_
        · refine raw ?_
          repeat (first | (with_reducible refine unr ?_; try simp only [YY, ↓reduceIte, Nat.reduceEqDiff, Nat.reduceAdd, Nat.reduceLeDiff, reduceCtorEq, Int.reduceEq, Int.reduceLT, Int.reduceLE, Int.reduceNeg, Int.reduceAdd, Int.reduceSub, Int.reduceToNat]) | (with_reducible refine WW (by decide) ?_))
          rfl
        rintro i t ⟨k2, hi, hall⟩
        have hw := wrap_succ (i := i) (by omega)
        by_cases hil : i < l.length
        · have hil' : (i : Int) < (l.length : Int) := by omega
          obtain ⟨x, hx⟩ : ∃ x, l[i]? = some x := ⟨_, List.getElem?_eq_getElem hil⟩
          have hg : (l.map supC)[i]? = some (supC x) := by simp [hx]
          have hxm := List.mem_of_getElem? hx
          have hxb := bulkS_le hxm
          have htp := fun o => ht.kp (Nat.le_refl _) (k2.push o)
          have hTp := fun o => (show s1.next ≤ (t.push o).next by rw [Store.push_next]; have := k2.next; omega)
          refine raw ?_
          repeat' (first | (with_reducible refine unr ?_; try simp only [YY, ↓reduceIte, Nat.reduceEqDiff, Nat.reduceAdd, Nat.reduceLeDiff, reduceCtorEq, Int.reduceEq, Int.reduceLT, Int.reduceLE, Int.reduceNeg, Int.reduceAdd, Int.reduceSub, Int.reduceToNat, hil', hg, supC, Cr.len, Cr.take9, Cr.drop9, str_nil, *]) | (with_reducible first | refine WW (by decide) ?_ | refine ok_idx (by first | assumption | omega) (fun b hb => raw ?_) | refine ok_iad (by first | assumption | omega) (fun x hx hxm => raw ?_) | refine And.intro (by omega) (raw ?_) | (refine guardW_b (fun h => raw ?_) (fun h => raw ?_) <;> try simp only [Ty] at h) | (refine ePick_b (fun h => raw ?_) (fun h => raw ?_) <;> try simp only [Ty] at h) | (refine condW_b (fun h => raw ?_) (fun h => raw ?_) <;> try simp only [Ty] at h) | (refine (knownE x.bd (by omega) _ _ _ _ (htp _) (hTp _)).mono ?_; rintro _ _ ⟨⟨b, rfl, hb⟩, rfl⟩; refine raw ?_)))
          · exact ⟨.inl fun hh => iff_f hb h (hh.2.2 x hxm), k1.trans (k2.push _)⟩
          · exact ⟨i + 1, rfl, ⟨k2.push _, by omega, ⟨all_succ (p := fun x => x.bd.Kn (glOf l cons)) hall.out hx (hb.1 h)⟩⟩, by omega⟩
        · have hil' : ¬ (i : Int) < (l.length : Int) := by omega
          have hall := hall.out
          rw [List.take_of_length_le (by omega)] at hall
          refine raw ?_
          repeat (first | (with_reducible refine unr ?_; try simp only [YY, ↓reduceIte, Nat.reduceEqDiff, Nat.reduceAdd, Nat.reduceLeDiff, reduceCtorEq, Int.reduceEq, Int.reduceLT, Int.reduceLE, Int.reduceNeg, Int.reduceAdd, Int.reduceSub, Int.reduceToNat, hil']) | (with_reducible refine WW (by decide) ?_))
          exact ⟨.inr ⟨tid, rfl, (ht.kp (Nat.le_refl _) k2).up k2.next, hF, hne.1 rfl, hall⟩, k1.trans k2⟩
end Go.Proofs.Ytjjbjibbjbbeaaa
/- The globals: exactly, the document's answer. -/
set_option linter.unusedVariables false
set_option linter.unusedSimpArgs false
namespace Go.AL
theorem ACalls_fp2 {P : Program} {f : FuncId} {args : List AV} {σ : Store} {p : AV → Prop} (h : ACalls P f args σ fun r s => ∃ v ty sz es r', SliceAt s v ty sz es ∧ Sub v (.list es) r r' ∧ ∀ s2 : Store, s2.next = s.next → (∀ i, i ∉ slIds v → s2.get i = s.get i) → FP σ p r' s2) : ACalls P f args σ fun r σ' => p r ∧ σ' = σ :=
  ACalls_fp (ACalls_froze h)
def glR (g : Gl) : List AV := [strs g.sup, strs (g.con.map (·.1)), intsC (g.con.map fun c => (c.2 : Int))]
/-- The globals that are made. -/
structure OfS (σ t : Store) (nm v1 v2 : AV) (a : List ByteArray) (b : List Int) : Prop where
  hd : t.get (σ.next + 1) = some (.cells 162 0 3 [[nm, v1, v2]])
  s1 : SliceAt t v1 9 1 (a.map fun s => [.str s])
  s2 : SliceAt t v2 3 1 (b.map fun n => [.int .i64 n])
  f1 : ∀ j, j ∈ slIds v1 → σ.next + 2 ≤ j
  f2 : ∀ j, j ∈ slIds v2 → σ.next + 2 ≤ j
  dj : ∀ j, j ∈ slIds v1 → j ∉ slIds v2
  kp : Kp σ t
theorem OfS.app1 {σ t t' : Store} {nm v1 v2 v1' : AV} {a : List ByteArray} {b : List Int} {x : ByteArray} (h : OfS σ t nm v1 v2 a b) (hs : SliceAt t' v1' 9 1 ((a.map fun s => [.str s]) ++ [[.str x]])) (hf : Fr t t' (slIds v1) (slIds v1')) :
    OfS σ (t'.upd (σ.next + 1) (.cells 162 0 3 [[nm, v1', v2]])) nm v1' v2 (a ++ [x]) b ∧ t'.get (σ.next + 1) = some (.cells 162 0 3 [[nm, v1, v2]]) := by
  have hlt := t.lt h.hd
  have h0 : t'.get (σ.next + 1) = some (.cells 162 0 3 [[nm, v1, v2]]) := by rw [hf.keep _ hlt (fun hm => by have := h.f1 _ hm; omega)]; exact h.hd
  have hn := hf.next
  have hne : ∀ j, j ∈ slIds v1' → σ.next + 2 ≤ j := fun j hj => (hf.fresh j hj).elim (h.f1 j) (fun q => by omega)
  refine ⟨⟨Store.get_upd_self _ _ (t'.lt h0), ?_, ?_, hne, h.f2, fun j hj hm => ?_, ⟨?_, fun j hj => ?_⟩⟩, h0⟩
  · rw [List.map_append]
    exact hs.keep fun j hj => Store.get_upd_ne _ _ (by have := hne j hj; omega)
  · refine h.s2.keep fun j hj => ?_
    have := h.f2 j hj
    rw [Store.get_upd_ne _ _ (by omega), hf.keep j (h.s2.lt hj) (fun hm => h.dj j hm hj)]
  · rcases hf.fresh j hj with q | q
    · exact h.dj j q hm
    · have := h.s2.lt hm; omega
  · have := h.kp.next; rw [Store.upd_next]; omega
  · have := h.kp.next
    rw [Store.get_upd_ne _ _ (by omega), hf.keep j (by omega) (fun hm => by have := h.f1 j hm; omega), h.kp.keep j hj]
theorem OfS.app2 {σ t t' : Store} {nm v1 v2 v2' : AV} {a : List ByteArray} {b : List Int} {x : Int} (h : OfS σ t nm v1 v2 a b) (hs : SliceAt t' v2' 3 1 ((b.map fun n => [.int .i64 n]) ++ [[.int .i64 x]])) (hf : Fr t t' (slIds v2) (slIds v2')) :
    OfS σ (t'.upd (σ.next + 1) (.cells 162 0 3 [[nm, v1, v2']])) nm v1 v2' a (b ++ [x]) ∧ t'.get (σ.next + 1) = some (.cells 162 0 3 [[nm, v1, v2]]) := by
  have hlt := t.lt h.hd
  have h0 : t'.get (σ.next + 1) = some (.cells 162 0 3 [[nm, v1, v2]]) := by rw [hf.keep _ hlt (fun hm => by have := h.f2 _ hm; omega)]; exact h.hd
  have hn := hf.next
  have hne : ∀ j, j ∈ slIds v2' → σ.next + 2 ≤ j := fun j hj => (hf.fresh j hj).elim (h.f2 j) (fun q => by omega)
  refine ⟨⟨Store.get_upd_self _ _ (t'.lt h0), ?_, ?_, h.f1, hne, fun j hj hm => ?_, ⟨?_, fun j hj => ?_⟩⟩, h0⟩
  · refine h.s1.keep fun j hj => ?_
    have := h.f1 j hj
    rw [Store.get_upd_ne _ _ (by omega), hf.keep j (h.s1.lt hj) (fun hm => h.dj j hj hm)]
  · rw [List.map_append]
    exact hs.keep fun j hj => Store.get_upd_ne _ _ (by have := hne j hj; omega)
  · rcases hf.fresh j hm with q | q
    · exact h.dj j hj q
    · have := h.s1.lt hj; omega
  · have := h.kp.next; rw [Store.upd_next]; omega
  · have := h.kp.next
    rw [Store.get_upd_ne _ _ (by omega), hf.keep j (by omega) (fun hm => by have := h.f2 j hm; omega), h.kp.keep j hj]
theorem cln_ints {n : Nat} (l : List Int) : Cln n (intsC l) := .list' fun e he c hc => by
  simp at he
  obtain ⟨y, hy, rfl⟩ := he
  simp at hc
  subst hc
  exact .int _ _
theorem glR_cln {n : Nat} (g : Gl) : Cln n (.agg (glR g)) := by
  refine .agg' fun c hc => ?_
  simp only [glR, List.mem_cons, List.not_mem_nil, or_false] at hc
  rcases hc with rfl | rfl | rfl
  · exact cln_strs _
  · exact cln_strs _
  · exact cln_ints _
end Go.AL
namespace Go.Proofs.Ytjjbjibbjbbeaaa
open Go.AL
theorem of_ok (l : List Sup) (cons : List Con5) (hl : l.length + cons.length ≤ 100000000) (σ : Store) : ACalls Try.prog 70 [.list (l.map supC), .list (cons.map con5C)] σ fun r s => r = .agg (glR (glOf l cons)) ∧ s = σ := by
  refine ACalls_fp2 (p := fun r => r = .agg (glR (glOf l cons))) ?_
  refine in70 (by simp) ?_
  unfold c70
  refine raw ?_
  repeat (first | (with_reducible refine unr ?_; try simp only [YY, ↓reduceIte, Nat.reduceEqDiff, Nat.reduceAdd, Nat.reduceLeDiff, reduceCtorEq, Int.reduceEq, Int.reduceLT, Int.reduceLE, Int.reduceNeg, Int.reduceAdd, Int.reduceSub, Int.reduceToNat]) | (with_reducible refine WW (by decide) ?_))
  refine (namesS15 l (by omega) _).mono ?_
  rintro _ s0 ⟨rfl, rfl⟩
  try simp only [YY, ↓reduceIte, Nat.reduceEqDiff, Nat.reduceAdd, Nat.reduceLeDiff, reduceCtorEq, Int.reduceEq, Int.reduceLT, Int.reduceLE, Int.reduceNeg, Int.reduceAdd, Int.reduceSub, Int.reduceToNat]
  iterate 4 ((with_reducible refine WW (by decide) ?_); refine unr ?_; try simp only [YY, ↓reduceIte, Nat.reduceEqDiff, Nat.reduceAdd, Nat.reduceLeDiff, reduceCtorEq, Int.reduceEq, Int.reduceLT, Int.reduceLE, Int.reduceNeg, Int.reduceAdd, Int.reduceSub, Int.reduceToNat])
  generalize hs : Store.push _ _ = s1
  have k1 : Kp σ s1 := by rw [← hs]; exact (Kp.pushed _ _).push _
  have n1 : s1.next = σ.next + 2 := by rw [← hs]; rfl
  have e1 : s1.get σ.next = some (.cells 162 0 3 [[.nils, .nils, .nils]]) := by rw [← hs]; simp [Store.push_get, Store.push_next]
  have e2 : s1.get (σ.next + 1) = some (.cells 162 0 3 [[strs (l.map Sup.nm), .nils, .nils]]) := by rw [← hs]; simp [Store.push_get, Store.push_next]
  clear hs
  refine raw ?_
  repeat (first | (with_reducible refine unr ?_; try simp only [YY, ↓reduceIte, Nat.reduceEqDiff, Nat.reduceAdd, Nat.reduceLeDiff, reduceCtorEq, Int.reduceEq, Int.reduceLT, Int.reduceLE, Int.reduceNeg, Int.reduceAdd, Int.reduceSub, Int.reduceToNat]) | (with_reducible refine WW (by decide) ?_))
  refine AWP_while [1, 4, 5, 6] (fun i : Nat => cons.length - i) (fun i => [.list (cons.map con5C), .ptr σ.next 0 0 0, .ptr (σ.next + 1) 0 0 0, .int .i64 i]) (fun i t => i ≤ cons.length ∧ t.get σ.next = some (.cells 162 0 3 [[.nils, .nils, .nils]]) ∧ ∃ v1 v2, OfS σ t (strs (l.map Sup.nm)) v1 v2 ((cons.take i).map (·.nm)) ((cons.take i).map fun c => (c.fs.length : Int))) 0
    ⟨by simp, e1, .nils, .nils, e2, by simpa using SliceAt.nil s1 9 1, by simpa using SliceAt.nil s1 3 1, by simp [slIds], by simp [slIds], by simp [slIds], k1⟩ ?_ ?_
  · refine raw ?_
    repeat (first | (with_reducible refine unr ?_; try simp only [YY, ↓reduceIte, Nat.reduceEqDiff, Nat.reduceAdd, Nat.reduceLeDiff, reduceCtorEq, Int.reduceEq, Int.reduceLT, Int.reduceLE, Int.reduceNeg, Int.reduceAdd, Int.reduceSub, Int.reduceToNat]) | (with_reducible refine WW (by decide) ?_))
    rfl
  clear e1 e2 k1 n1
  rintro i t ⟨hi, e1, v1, v2, hO⟩
  have hw := wrap_succ (i := i) (by omega)
  have hd := hO.hd
  by_cases hil : i < cons.length
  · have hil' : (i : Int) < (cons.length : Int) := by omega
    obtain ⟨x, hx⟩ : ∃ x, cons[i]? = some x := ⟨_, List.getElem?_eq_getElem hil⟩
    have hg : (cons.map con5C)[i]? = some (con5C x) := by simp [hx]
    refine raw ?_
    repeat (first | (with_reducible refine unr ?_; try simp only [YY, ↓reduceIte, Nat.reduceEqDiff, Nat.reduceAdd, Nat.reduceLeDiff, reduceCtorEq, Int.reduceEq, Int.reduceLT, Int.reduceLE, Int.reduceNeg, Int.reduceAdd, Int.reduceSub, Int.reduceToNat, hil', hg, hd, con5C]) | (with_reducible refine WW (by decide) ?_))
    refine ok_app hO.s1 (es2 := [[.str x.nm]]) (by simp) (by simp; omega) (by simp [maxLen]; omega) ?_
    intro v1' t1 hs1 hf1
    obtain ⟨hO1, hd1⟩ := hO.app1 hs1 hf1
    have e11 : (t1.upd (σ.next + 1) (.cells 162 0 3 [[strs (l.map Sup.nm), v1', v2]])).get σ.next = some (.cells 162 0 3 [[.nils, .nils, .nils]]) := by
      rw [Store.get_upd_ne _ _ (by omega), hf1.keep _ (t.lt e1) (fun hm => by have := hO.f1 _ hm; omega)]; exact e1
    have hdd := hO1.hd
    refine raw ?_
    repeat (first | (with_reducible refine unr ?_; try simp only [YY, ↓reduceIte, Nat.reduceEqDiff, Nat.reduceAdd, Nat.reduceLeDiff, reduceCtorEq, Int.reduceEq, Int.reduceLT, Int.reduceLE, Int.reduceNeg, Int.reduceAdd, Int.reduceSub, Int.reduceToNat, hd1, hs1.co]) | (with_reducible refine WW (by decide) ?_))
    generalize Store.upd t1 _ _ = t2 at hO1 e11 hdd
    refine raw ?_
    repeat (first | (with_reducible refine unr ?_; try simp only [YY, ↓reduceIte, Nat.reduceEqDiff, Nat.reduceAdd, Nat.reduceLeDiff, reduceCtorEq, Int.reduceEq, Int.reduceLT, Int.reduceLE, Int.reduceNeg, Int.reduceAdd, Int.reduceSub, Int.reduceToNat, hdd, hg, con5C]) | (with_reducible refine WW (by decide) ?_))
    refine ok_app hO1.s2 (es2 := [[.int .i64 (x.fs.length : Int)]]) (by simp) (by simp; omega) (by simp [maxLen]; omega) ?_
    intro v2' t3 hs2 hf2
    obtain ⟨hO2, hd2⟩ := hO1.app2 hs2 hf2
    have e12 : (t3.upd (σ.next + 1) (.cells 162 0 3 [[strs (l.map Sup.nm), v1', v2']])).get σ.next = some (.cells 162 0 3 [[.nils, .nils, .nils]]) := by
      rw [Store.get_upd_ne _ _ (by omega), hf2.keep _ (t2.lt e11) (fun hm => by have := hO1.f2 _ hm; omega)]; exact e11
    refine raw ?_
    repeat (first | (with_reducible refine unr ?_; try simp only [YY, ↓reduceIte, Nat.reduceEqDiff, Nat.reduceAdd, Nat.reduceLeDiff, reduceCtorEq, Int.reduceEq, Int.reduceLT, Int.reduceLE, Int.reduceNeg, Int.reduceAdd, Int.reduceSub, Int.reduceToNat, hd2, hs2.co, hw]) | (with_reducible refine WW (by decide) ?_))
    refine ⟨i + 1, rfl, ⟨by omega, e12, v1', v2', ?_⟩, by omega⟩
    simp only [take_succ_at hx, List.map_append, List.map_cons, List.map_nil]
    exact hO2
  · have hil' : ¬ (i : Int) < (cons.length : Int) := by omega
    rw [List.take_of_length_le (by omega)] at hO
    have hu : ∀ o, (t.upd σ.next o).get σ.next = some o := fun o => Store.get_upd_self _ _ (t.lt e1)
    refine raw ?_
    repeat (first | (with_reducible refine unr ?_; try simp only [YY, ↓reduceIte, Nat.reduceEqDiff, Nat.reduceAdd, Nat.reduceLeDiff, reduceCtorEq, Int.reduceEq, Int.reduceLT, Int.reduceLE, Int.reduceNeg, Int.reduceAdd, Int.reduceSub, Int.reduceToNat, hil', e1, hd, hu]) | (with_reducible refine WW (by decide) ?_))
    have hk : Kp σ (t.upd σ.next (.cells 162 0 3 [[strs (l.map Sup.nm), v1, v2]])) := hO.kp.upd (id := σ.next) (Nat.le_refl _) _
    refine ⟨v1, 9, 1, _, .agg [strs (l.map Sup.nm), .list ((cons.map (·.nm)).map fun s => [.str s]), v2], hO.s1.keep fun j hj => Store.get_upd_ne _ _ (by have := hO.f1 j hj; omega), .agg (.cons (.refl _) (.cons .here (.cons (.refl _) .nil))), fun s2 hn2 hg2 => ?_⟩
    have h2 : SliceAt s2 v2 3 1 ((cons.map fun c => (c.fs.length : Int)).map fun n => [.int .i64 n]) := hO.s2.keep fun j hj => by
      rw [hg2 j (fun hm => hO.dj j hm hj), Store.get_upd_ne _ _ (by have := hO.f2 j hj; omega)]
    refine FP.mk (.agg (glR (glOf l cons))) h2 ?_ rfl (glR_cln _) ⟨by rw [hn2]; exact hO.kp.next, fun j hj => ?_⟩ (fun j hj => by have := hO.f2 j hj; omega)
    · have e : glR (glOf l cons) = [strs (l.map Sup.nm), .list ((cons.map (·.nm)).map fun s => [.str s]), .list ((cons.map fun c => (c.fs.length : Int)).map fun n => [.int .i64 n])] := by
        simp [glR, glOf, intsC, strs, Function.comp_def]
      rw [e]
      exact .agg (.cons (.refl _) (.cons (.refl _) (.cons .here .nil)))
    · rw [hg2 j (fun hm => by have := hO.f1 j hm; omega), hk.keep j hj]
theorem fitsD (g : Gl) (hg : g.con.length ≤ 100000000) (s : ByteArray) (n : Int) (σ : Store) : ACalls Try.prog 156 [.agg (glR g), .str s, .int .i64 n] σ fun r s' => (∃ b : Bool, r = .bool b ∧ (b = true ↔ FitsE g s n)) ∧ s' = σ := by
  refine ACalls_fp (p := RE (FitsE g s n)) ?_
  refine in156 (by simp) ?_
  unfold c156 glR
  refine raw ?_
  repeat (first | (with_reducible refine unr ?_; try simp only [YY, ↓reduceIte, Nat.reduceEqDiff, Nat.reduceAdd, Nat.reduceLeDiff, reduceCtorEq, Int.reduceEq, Int.reduceLT, Int.reduceLE, Int.reduceNeg, Int.reduceAdd, Int.reduceSub, Int.reduceToNat]) | (with_reducible refine WW (by decide) ?_))
  refine (place_ok (g.con.map (·.1)) (by simp; omega) s _).mono ?_
  rintro _ s1 ⟨rfl, rfl⟩
  cases hi : idx (g.con.map (·.1)) s with
  | none =>
    have hp : placeS (g.con.map (·.1)) s = -1 := by rw [placeS, hi]
    refine raw ?_
    repeat (first | (with_reducible refine unr ?_; try simp only [YY, ↓reduceIte, Nat.reduceEqDiff, Nat.reduceAdd, Nat.reduceLeDiff, reduceCtorEq, Int.reduceEq, Int.reduceLT, Int.reduceLE, Int.reduceNeg, Int.reduceAdd, Int.reduceSub, Int.reduceToNat, hp]) | (with_reducible refine WW (by decide) ?_))
    exact FP.same (.pushed _ _) (RE.f fun ⟨i, c, h1, _⟩ => by rw [hi] at h1; cases h1) (.bool _)
  | some i =>
    have hp : placeS (g.con.map (·.1)) s = i := by rw [placeS, hi]
    have hlt := idx_lt hi
    rw [List.length_map] at hlt
    obtain ⟨c, hc⟩ : ∃ c, g.con[i]? = some c := ⟨_, List.getElem?_eq_getElem hlt⟩
    have hgi := ints_get (l := g.con.map fun c => (c.2 : Int)) (i := i) (x := c.2) (by simp [hc])
    refine raw ?_
    repeat (first | (with_reducible refine unr ?_; try simp only [YY, ↓reduceIte, Nat.reduceEqDiff, Nat.reduceAdd, Nat.reduceLeDiff, reduceCtorEq, Int.reduceEq, Int.reduceLT, Int.reduceLE, Int.reduceNeg, Int.reduceAdd, Int.reduceSub, Int.reduceToNat, hp, intsC, hgi]) | (with_reducible refine WW (by decide) ?_))
    refine FP.same (.pushed _ _) (RE.mk ?_) (.bool _)
    rw [decide_eq_true_iff]
    refine ⟨fun e => ⟨i, c, hi, hc, e⟩, ?_⟩
    rintro ⟨i', c', h1, h2, h3⟩
    rw [hi] at h1; cases h1
    rw [hc] at h2; cases h2
    exact h3
end Go.Proofs.Ytjjbjibbjbbeaaa
/- Which constructors are known, what may be compiled: exactly, the document's answer. -/
set_option linter.unusedVariables false
set_option linter.unusedSimpArgs false
namespace Go.AL
theorem glR_len (g : Gl) : (glR g).length = 3 := rfl
theorem glR_t3 (g : Gl) : List.take 3 (glR g) = glR g := rfl
/-- In a list without two the same, each stands where it is found. -/
theorem place_nodup {l : List ByteArray} : (∀ (i : Nat) s, l[i]? = some s → placeS l s = (i : Int)) ↔ l.Nodup := by
  constructor
  · intro h
    refine List.pairwise_iff_getElem.2 ?_
    intro i j hi hj hij e
    have h1 := h i _ (List.getElem?_eq_getElem hi)
    have h2 := h j _ (List.getElem?_eq_getElem hj)
    rw [e, h2] at h1
    omega
  · intro h i s hs
    refine placeS_at hs fun hm => ?_
    have e := split_at hs
    rw [e] at h
    exact (List.nodup_append.1 h).2.2 _ hm s (by simp) rfl
end Go.AL
namespace Go.Proofs.Ytjjbjibbjbbeaaa
open Go.AL
abbrev KnownD (g : Gl) (x : Cr) : Prop := ∀ (σ : Store), ACalls Try.prog 119 [.agg (glR g), .agg x.cells] σ fun r s => (∃ b : Bool, r = .bool b ∧ (b = true ↔ x.Kn g)) ∧ s = σ
set_option maxHeartbeats 1000000 in
theorem knownDE (g : Gl) (hgl : g.con.length ≤ 100000000) : ∀ x : Cr, x.bulk ≤ 50000000 → KnownD g x := by
  intro x
  induction x using Cr.ind with
  | _ k nm n ar ps gs al bs pk ih1 ih2 ih3 ih4 =>
    intro hbx σ
    rw [Cr.bulk] at hbx
    have l1 := Cr.lenL gs; have l2 := Cr.lenA al; have l3 := Cr.lenB bs; have l4 := Cr.lenP pk
    have i1 := fun (x : Cr) (hx : x ∈ gs) => ih1 x hx (by have := Cr.bulkL_le hx; omega)
    have i2 := fun (x : AltH × Cr) (hx : x ∈ al) => ih2 x hx (by have := Cr.bulkA_le hx; omega)
    have i3 := fun (x : ByteArray × Cr) (hx : x ∈ bs) => ih3 x hx (by have := Cr.bulkB_le hx; omega)
    have i4 := fun (x : Int × Cr) (hx : x ∈ pk) => ih4 x hx (by have := Cr.bulkP_le hx; omega)
    refine ACalls_fp (p := RE ((Cr.mk k nm n ar ps gs al bs pk).Kn g)) ?_
    refine in119 (by simp) ?_
    unfold c119
    rw [Cr.cells_eq]
    try simp only [YY, ↓reduceIte, Nat.reduceEqDiff, Nat.reduceAdd, Nat.reduceLeDiff, reduceCtorEq, Int.reduceEq, Int.reduceLT, Int.reduceLE, Int.reduceNeg, Int.reduceAdd, Int.reduceSub, Int.reduceToNat, glR_len]
    iterate 2 ((with_reducible refine WW (by decide) ?_); refine unr ?_; try simp only [YY, ↓reduceIte, Nat.reduceEqDiff, Nat.reduceAdd, Nat.reduceLeDiff, reduceCtorEq, Int.reduceEq, Int.reduceLT, Int.reduceLE, Int.reduceNeg, Int.reduceAdd, Int.reduceSub, Int.reduceToNat, glR_len])
    generalize hs : Store.push _ _ = s1
    have k1 : Kp σ s1 := by rw [← hs]; exact (Kp.pushed _ _).push _
    have g1 : s1.get σ.next = some (.cells 162 0 3 [glR g]) := by rw [← hs]; simp [Store.push_get, Store.push_next]
    have g2 : s1.get (σ.next + 1) = some (.cells 54 0 9 [[.int .i64 k, .str nm, .int .i64 n, .int .i64 ar, strs ps, .list (gs.map Cr.cells), .list (al.map altC), .list (bs.map bindC), .list (pk.map pickC)]]) := by rw [← hs]; simp [Store.push_get, Store.push_next]
    clear hs
    refine AWP_cut [2, 3] (fun _ : Unit => [.ptr σ.next 0 0 0, .ptr (σ.next + 1) 0 0 0]) (fun _ s => s1 = s ∧ Hid (k = 4 → FitsE g nm ar)) ?_ ?_
    · by_cases h4 : k = 4
      · refine raw ?_
        repeat (first | (with_reducible refine unr ?_; try simp only [YY, ↓reduceIte, Nat.reduceEqDiff, Nat.reduceAdd, Nat.reduceLeDiff, reduceCtorEq, Int.reduceEq, Int.reduceLT, Int.reduceLE, Int.reduceNeg, Int.reduceAdd, Int.reduceSub, Int.reduceToNat, g1, g2, h4, glR_len, glR_t3]) | (with_reducible refine WW (by decide) ?_))
        refine (fitsD g hgl nm ar _).mono ?_
        rintro _ s1 ⟨⟨b, rfl, hb⟩, rfl⟩
        cases b with
        | false =>
          refine raw ?_
          repeat (first | (with_reducible refine unr ?_; try simp only [YY, ↓reduceIte, Nat.reduceEqDiff, Nat.reduceAdd, Nat.reduceLeDiff, reduceCtorEq, Int.reduceEq, Int.reduceLT, Int.reduceLE, Int.reduceNeg, Int.reduceAdd, Int.reduceSub, Int.reduceToNat]) | (with_reducible refine WW (by decide) ?_))
          exact FP.same k1 (RE.f fun hh => iff_f hb rfl ((kn_iff.1 hh).h4 (by first | rfl | exact h4))) (.bool _)
        | true =>
          refine raw ?_
          repeat (first | (with_reducible refine unr ?_; try simp only [YY, ↓reduceIte, Nat.reduceEqDiff, Nat.reduceAdd, Nat.reduceLeDiff, reduceCtorEq, Int.reduceEq, Int.reduceLT, Int.reduceLE, Int.reduceNeg, Int.reduceAdd, Int.reduceSub, Int.reduceToNat]) | (with_reducible refine WW (by decide) ?_))
          exact ⟨(), ⟨fun _ => hb.1 rfl⟩⟩
      · refine raw ?_
        repeat (first | (with_reducible refine unr ?_; try simp only [YY, ↓reduceIte, Nat.reduceEqDiff, Nat.reduceAdd, Nat.reduceLeDiff, reduceCtorEq, Int.reduceEq, Int.reduceLT, Int.reduceLE, Int.reduceNeg, Int.reduceAdd, Int.reduceSub, Int.reduceToNat, g1, g2, h4]) | (with_reducible refine WW (by decide) ?_))
        exact ⟨(), ⟨fun e => (by first | exact e.elim | exact absurd e h4)⟩⟩
    rintro _ _ ⟨rfl, h4⟩
    have k2 := Kp.refl s1
    refine AWP_cut [2, 3] (fun _ : Unit => [.ptr σ.next 0 0 0, .ptr (σ.next + 1) 0 0 0]) (fun _ s => Kp s1 s ∧ Hid (∀ x, x ∈ gs → x.Kn g)) ?_ ?_
    · refine raw ?_
      repeat (first | (with_reducible refine unr ?_; try simp only [YY, ↓reduceIte, Nat.reduceEqDiff, Nat.reduceAdd, Nat.reduceLeDiff, reduceCtorEq, Int.reduceEq, Int.reduceLT, Int.reduceLE, Int.reduceNeg, Int.reduceAdd, Int.reduceSub, Int.reduceToNat]) | (with_reducible refine WW (by decide) ?_))
      refine AWP_while [2, 3, 5] (fun i : Nat => gs.length - i) (fun i => [.ptr σ.next 0 0 0, .ptr (σ.next + 1) 0 0 0, .int .i64 i]) (fun i t => Kp s1 t ∧ i ≤ gs.length ∧ Hid (∀ x, x ∈ gs.take i → x.Kn g)) 0 ⟨k2, by simp, ⟨by simp⟩⟩ ?_ ?_
      · refine raw ?_
        repeat (first | (with_reducible refine unr ?_; try simp only [YY, ↓reduceIte, Nat.reduceEqDiff, Nat.reduceAdd, Nat.reduceLeDiff, reduceCtorEq, Int.reduceEq, Int.reduceLT, Int.reduceLE, Int.reduceNeg, Int.reduceAdd, Int.reduceSub, Int.reduceToNat]) | (with_reducible refine WW (by decide) ?_))
        rfl
      clear k2
      rintro i t ⟨k2, hi, hall⟩
      have hw := wrap_succ (i := i) (by omega)
      have e1 := k2.get g1
      have e2 := k2.get g2
      by_cases hil : i < gs.length
      · have hil' : (i : Int) < (gs.length : Int) := by omega
        obtain ⟨x, hx⟩ : ∃ x, gs[i]? = some x := ⟨_, List.getElem?_eq_getElem hil⟩
        have hgx : (gs.map Cr.cells)[i]? = some (Cr.cells x) := by simp [hx]
        have hxm := List.mem_of_getElem? hx
        refine raw ?_
        repeat (first | (with_reducible refine unr ?_; try simp only [YY, ↓reduceIte, Nat.reduceEqDiff, Nat.reduceAdd, Nat.reduceLeDiff, reduceCtorEq, Int.reduceEq, Int.reduceLT, Int.reduceLE, Int.reduceNeg, Int.reduceAdd, Int.reduceSub, Int.reduceToNat, e1, e2, hil', hgx, Cr.len, Cr.len, Cr.take9, glR_len, glR_t3]) | (with_reducible refine WW (by decide) ?_))
        refine (i1 x hxm _).mono ?_
        rintro _ t ⟨⟨b, rfl, hb⟩, rfl⟩
        cases b with
        | false =>
          refine raw ?_
          repeat (first | (with_reducible refine unr ?_; try simp only [YY, ↓reduceIte, Nat.reduceEqDiff, Nat.reduceAdd, Nat.reduceLeDiff, reduceCtorEq, Int.reduceEq, Int.reduceLT, Int.reduceLE, Int.reduceNeg, Int.reduceAdd, Int.reduceSub, Int.reduceToNat]) | (with_reducible refine WW (by decide) ?_))
          exact FP.same (k1.trans k2) (RE.f fun hh => iff_f hb rfl ((kn_iff.1 hh).g1 x hxm)) (.bool _)
        | true =>
          refine raw ?_
          repeat (first | (with_reducible refine unr ?_; try simp only [YY, ↓reduceIte, Nat.reduceEqDiff, Nat.reduceAdd, Nat.reduceLeDiff, reduceCtorEq, Int.reduceEq, Int.reduceLT, Int.reduceLE, Int.reduceNeg, Int.reduceAdd, Int.reduceSub, Int.reduceToNat, hw]) | (with_reducible refine WW (by decide) ?_))
          exact ⟨i + 1, rfl, ⟨k2, by omega, ⟨all_succ (p := fun x => x.Kn g) hall.out hx (hb.1 rfl)⟩⟩, by omega⟩
      have hil' : ¬ (i : Int) < (gs.length : Int) := by omega
      have hall := hall.out
      rw [List.take_of_length_le (by omega)] at hall
      refine raw ?_
      repeat (first | (with_reducible refine unr ?_; try simp only [YY, ↓reduceIte, Nat.reduceEqDiff, Nat.reduceAdd, Nat.reduceLeDiff, reduceCtorEq, Int.reduceEq, Int.reduceLT, Int.reduceLE, Int.reduceNeg, Int.reduceAdd, Int.reduceSub, Int.reduceToNat, e2, hil']) | (with_reducible refine WW (by decide) ?_))
      exact ⟨(), k2, ⟨hall⟩⟩
    clear k2
    rintro _ s2 ⟨k2, q1⟩
    refine AWP_cut [2, 3] (fun _ : Unit => [.ptr σ.next 0 0 0, .ptr (σ.next + 1) 0 0 0]) (fun _ s => Kp s1 s ∧ Hid (∀ x, x ∈ al → KnA g x)) ?_ ?_
    · refine raw ?_
      repeat (first | (with_reducible refine unr ?_; try simp only [YY, ↓reduceIte, Nat.reduceEqDiff, Nat.reduceAdd, Nat.reduceLeDiff, reduceCtorEq, Int.reduceEq, Int.reduceLT, Int.reduceLE, Int.reduceNeg, Int.reduceAdd, Int.reduceSub, Int.reduceToNat]) | (with_reducible refine WW (by decide) ?_))
      refine AWP_while [2, 3, 6] (fun i : Nat => al.length - i) (fun i => [.ptr σ.next 0 0 0, .ptr (σ.next + 1) 0 0 0, .int .i64 i]) (fun i t => Kp s1 t ∧ i ≤ al.length ∧ Hid (∀ x, x ∈ al.take i → KnA g x)) 0 ⟨k2, by simp, ⟨by simp⟩⟩ ?_ ?_
      · refine raw ?_
        repeat (first | (with_reducible refine unr ?_; try simp only [YY, ↓reduceIte, Nat.reduceEqDiff, Nat.reduceAdd, Nat.reduceLeDiff, reduceCtorEq, Int.reduceEq, Int.reduceLT, Int.reduceLE, Int.reduceNeg, Int.reduceAdd, Int.reduceSub, Int.reduceToNat]) | (with_reducible refine WW (by decide) ?_))
        rfl
      clear k2
      rintro i t ⟨k2, hi, hall⟩
      have hw := wrap_succ (i := i) (by omega)
      have e1 := k2.get g1
      have e2 := k2.get g2
      have q1 := lt_ne (t.lt e1)
      have q2 := lt_ne (t.lt e2)
      by_cases hil : i < al.length
      · have hil' : (i : Int) < (al.length : Int) := by omega
        obtain ⟨x, hx⟩ : ∃ x, al[i]? = some x := ⟨_, List.getElem?_eq_getElem hil⟩
        have hgx : (al.map altC)[i]? = some (altC x) := by simp [hx]
        have hxm := List.mem_of_getElem? hx
        by_cases hk1 : x.1.k = 1
        · refine raw ?_
          repeat (first | (with_reducible refine unr ?_; try simp only [YY, ↓reduceIte, Nat.reduceEqDiff, Nat.reduceAdd, Nat.reduceLeDiff, reduceCtorEq, Int.reduceEq, Int.reduceLT, Int.reduceLE, Int.reduceNeg, Int.reduceAdd, Int.reduceSub, Int.reduceToNat, e1, e2, hil', hgx, altC, AltH.cells, Cr.len, Cr.take9, glR_len, glR_t3, q1, q2, hk1]) | (with_reducible refine WW (by decide) ?_))
          refine (fitsD g hgl x.1.nm x.1.ps.length _).mono ?_
          rintro _ t2 ⟨⟨b, rfl, hb⟩, rfl⟩
          cases b with
          | false =>
            refine raw ?_
            repeat (first | (with_reducible refine unr ?_; try simp only [YY, ↓reduceIte, Nat.reduceEqDiff, Nat.reduceAdd, Nat.reduceLeDiff, reduceCtorEq, Int.reduceEq, Int.reduceLT, Int.reduceLE, Int.reduceNeg, Int.reduceAdd, Int.reduceSub, Int.reduceToNat]) | (with_reducible refine WW (by decide) ?_))
            exact FP.same (k1.trans (k2.push _)) (RE.f fun hh => iff_f hb rfl (((kn_iff.1 hh).g2 x hxm).1 hk1)) (.bool _)
          | true =>
            refine raw ?_
            repeat (first | (with_reducible refine unr ?_; try simp only [YY, ↓reduceIte, Nat.reduceEqDiff, Nat.reduceAdd, Nat.reduceLeDiff, reduceCtorEq, Int.reduceEq, Int.reduceLT, Int.reduceLE, Int.reduceNeg, Int.reduceAdd, Int.reduceSub, Int.reduceToNat, e1, e2, hil', hgx, altC, AltH.cells, Cr.len, Cr.take9, glR_len, glR_t3, q1, q2, hk1]) | (with_reducible refine WW (by decide) ?_))
            refine (i2 x hxm _).mono ?_
            rintro _ t2 ⟨⟨b, rfl, hb2⟩, rfl⟩
            cases b with
            | false =>
              refine raw ?_
              repeat (first | (with_reducible refine unr ?_; try simp only [YY, ↓reduceIte, Nat.reduceEqDiff, Nat.reduceAdd, Nat.reduceLeDiff, reduceCtorEq, Int.reduceEq, Int.reduceLT, Int.reduceLE, Int.reduceNeg, Int.reduceAdd, Int.reduceSub, Int.reduceToNat]) | (with_reducible refine WW (by decide) ?_))
              exact FP.same (k1.trans (k2.push _)) (RE.f fun hh => iff_f hb2 rfl ((kn_iff.1 hh).g2 x hxm).2) (.bool _)
            | true =>
              refine raw ?_
              repeat (first | (with_reducible refine unr ?_; try simp only [YY, ↓reduceIte, Nat.reduceEqDiff, Nat.reduceAdd, Nat.reduceLeDiff, reduceCtorEq, Int.reduceEq, Int.reduceLT, Int.reduceLE, Int.reduceNeg, Int.reduceAdd, Int.reduceSub, Int.reduceToNat, hw]) | (with_reducible refine WW (by decide) ?_))
              exact ⟨i + 1, rfl, ⟨k2.push _, by omega, ⟨all_succ (p := KnA g) hall.out hx ⟨fun _ => hb.1 rfl, hb2.1 rfl⟩⟩⟩, by omega⟩
        · refine raw ?_
          repeat (first | (with_reducible refine unr ?_; try simp only [YY, ↓reduceIte, Nat.reduceEqDiff, Nat.reduceAdd, Nat.reduceLeDiff, reduceCtorEq, Int.reduceEq, Int.reduceLT, Int.reduceLE, Int.reduceNeg, Int.reduceAdd, Int.reduceSub, Int.reduceToNat, e1, e2, hil', hgx, altC, AltH.cells, Cr.len, Cr.take9, glR_len, glR_t3, q1, q2, hk1]) | (with_reducible refine WW (by decide) ?_))
          refine (i2 x hxm _).mono ?_
          rintro _ t2 ⟨⟨b, rfl, hb2⟩, rfl⟩
          cases b with
          | false =>
            refine raw ?_
            repeat (first | (with_reducible refine unr ?_; try simp only [YY, ↓reduceIte, Nat.reduceEqDiff, Nat.reduceAdd, Nat.reduceLeDiff, reduceCtorEq, Int.reduceEq, Int.reduceLT, Int.reduceLE, Int.reduceNeg, Int.reduceAdd, Int.reduceSub, Int.reduceToNat]) | (with_reducible refine WW (by decide) ?_))
            exact FP.same (k1.trans (k2.push _)) (RE.f fun hh => iff_f hb2 rfl ((kn_iff.1 hh).g2 x hxm).2) (.bool _)
          | true =>
            refine raw ?_
            repeat (first | (with_reducible refine unr ?_; try simp only [YY, ↓reduceIte, Nat.reduceEqDiff, Nat.reduceAdd, Nat.reduceLeDiff, reduceCtorEq, Int.reduceEq, Int.reduceLT, Int.reduceLE, Int.reduceNeg, Int.reduceAdd, Int.reduceSub, Int.reduceToNat, hw]) | (with_reducible refine WW (by decide) ?_))
            exact ⟨i + 1, rfl, ⟨k2.push _, by omega, ⟨all_succ (p := KnA g) hall.out hx ⟨fun e => absurd e hk1, hb2.1 rfl⟩⟩⟩, by omega⟩
      have hil' : ¬ (i : Int) < (al.length : Int) := by omega
      have hall := hall.out
      rw [List.take_of_length_le (by omega)] at hall
      refine raw ?_
      repeat (first | (with_reducible refine unr ?_; try simp only [YY, ↓reduceIte, Nat.reduceEqDiff, Nat.reduceAdd, Nat.reduceLeDiff, reduceCtorEq, Int.reduceEq, Int.reduceLT, Int.reduceLE, Int.reduceNeg, Int.reduceAdd, Int.reduceSub, Int.reduceToNat, e2, hil']) | (with_reducible refine WW (by decide) ?_))
      exact ⟨(), k2, ⟨hall⟩⟩
    clear k2
    rintro _ s2 ⟨k2, q2⟩
    refine AWP_cut [2, 3] (fun _ : Unit => [.ptr σ.next 0 0 0, .ptr (σ.next + 1) 0 0 0]) (fun _ s => Kp s1 s ∧ Hid (∀ x, x ∈ bs → x.2.Kn g)) ?_ ?_
    · refine raw ?_
      repeat (first | (with_reducible refine unr ?_; try simp only [YY, ↓reduceIte, Nat.reduceEqDiff, Nat.reduceAdd, Nat.reduceLeDiff, reduceCtorEq, Int.reduceEq, Int.reduceLT, Int.reduceLE, Int.reduceNeg, Int.reduceAdd, Int.reduceSub, Int.reduceToNat]) | (with_reducible refine WW (by decide) ?_))
      refine AWP_while [2, 3, 8] (fun i : Nat => bs.length - i) (fun i => [.ptr σ.next 0 0 0, .ptr (σ.next + 1) 0 0 0, .int .i64 i]) (fun i t => Kp s1 t ∧ i ≤ bs.length ∧ Hid (∀ x, x ∈ bs.take i → x.2.Kn g)) 0 ⟨k2, by simp, ⟨by simp⟩⟩ ?_ ?_
      · refine raw ?_
        repeat (first | (with_reducible refine unr ?_; try simp only [YY, ↓reduceIte, Nat.reduceEqDiff, Nat.reduceAdd, Nat.reduceLeDiff, reduceCtorEq, Int.reduceEq, Int.reduceLT, Int.reduceLE, Int.reduceNeg, Int.reduceAdd, Int.reduceSub, Int.reduceToNat]) | (with_reducible refine WW (by decide) ?_))
        rfl
      clear k2
      rintro i t ⟨k2, hi, hall⟩
      have hw := wrap_succ (i := i) (by omega)
      have e1 := k2.get g1
      have e2 := k2.get g2
      by_cases hil : i < bs.length
      · have hil' : (i : Int) < (bs.length : Int) := by omega
        obtain ⟨x, hx⟩ : ∃ x, bs[i]? = some x := ⟨_, List.getElem?_eq_getElem hil⟩
        have hgx : (bs.map bindC)[i]? = some (bindC x) := by simp [hx]
        have hxm := List.mem_of_getElem? hx
        refine raw ?_
        repeat (first | (with_reducible refine unr ?_; try simp only [YY, ↓reduceIte, Nat.reduceEqDiff, Nat.reduceAdd, Nat.reduceLeDiff, reduceCtorEq, Int.reduceEq, Int.reduceLT, Int.reduceLE, Int.reduceNeg, Int.reduceAdd, Int.reduceSub, Int.reduceToNat, e1, e2, hil', hgx, bindC, Cr.len, Cr.take9, glR_len, glR_t3]) | (with_reducible refine WW (by decide) ?_))
        refine (i3 x hxm _).mono ?_
        rintro _ t ⟨⟨b, rfl, hb⟩, rfl⟩
        cases b with
        | false =>
          refine raw ?_
          repeat (first | (with_reducible refine unr ?_; try simp only [YY, ↓reduceIte, Nat.reduceEqDiff, Nat.reduceAdd, Nat.reduceLeDiff, reduceCtorEq, Int.reduceEq, Int.reduceLT, Int.reduceLE, Int.reduceNeg, Int.reduceAdd, Int.reduceSub, Int.reduceToNat]) | (with_reducible refine WW (by decide) ?_))
          exact FP.same (k1.trans k2) (RE.f fun hh => iff_f hb rfl ((kn_iff.1 hh).g3 x hxm)) (.bool _)
        | true =>
          refine raw ?_
          repeat (first | (with_reducible refine unr ?_; try simp only [YY, ↓reduceIte, Nat.reduceEqDiff, Nat.reduceAdd, Nat.reduceLeDiff, reduceCtorEq, Int.reduceEq, Int.reduceLT, Int.reduceLE, Int.reduceNeg, Int.reduceAdd, Int.reduceSub, Int.reduceToNat, hw]) | (with_reducible refine WW (by decide) ?_))
          exact ⟨i + 1, rfl, ⟨k2, by omega, ⟨all_succ (p := fun x => x.2.Kn g) hall.out hx (hb.1 rfl)⟩⟩, by omega⟩
      have hil' : ¬ (i : Int) < (bs.length : Int) := by omega
      have hall := hall.out
      rw [List.take_of_length_le (by omega)] at hall
      refine raw ?_
      repeat (first | (with_reducible refine unr ?_; try simp only [YY, ↓reduceIte, Nat.reduceEqDiff, Nat.reduceAdd, Nat.reduceLeDiff, reduceCtorEq, Int.reduceEq, Int.reduceLT, Int.reduceLE, Int.reduceNeg, Int.reduceAdd, Int.reduceSub, Int.reduceToNat, e2, hil']) | (with_reducible refine WW (by decide) ?_))
      exact ⟨(), k2, ⟨hall⟩⟩
    clear k2
    rintro _ s2 ⟨k2, q3⟩
    refine raw ?_
    repeat (first | (with_reducible refine unr ?_; try simp only [YY, ↓reduceIte, Nat.reduceEqDiff, Nat.reduceAdd, Nat.reduceLeDiff, reduceCtorEq, Int.reduceEq, Int.reduceLT, Int.reduceLE, Int.reduceNeg, Int.reduceAdd, Int.reduceSub, Int.reduceToNat]) | (with_reducible refine WW (by decide) ?_))
    refine AWP_while [2, 3, 9] (fun i : Nat => pk.length - i) (fun i => [.ptr σ.next 0 0 0, .ptr (σ.next + 1) 0 0 0, .int .i64 i]) (fun i t => Kp s1 t ∧ i ≤ pk.length ∧ Hid (∀ x, x ∈ pk.take i → x.2.Kn g)) 0 ⟨k2, by simp, ⟨by simp⟩⟩ ?_ ?_
    · refine raw ?_
      repeat (first | (with_reducible refine unr ?_; try simp only [YY, ↓reduceIte, Nat.reduceEqDiff, Nat.reduceAdd, Nat.reduceLeDiff, reduceCtorEq, Int.reduceEq, Int.reduceLT, Int.reduceLE, Int.reduceNeg, Int.reduceAdd, Int.reduceSub, Int.reduceToNat]) | (with_reducible refine WW (by decide) ?_))
      rfl
    clear k2
    rintro i t ⟨k2, hi, hall⟩
    have hw := wrap_succ (i := i) (by omega)
    have e1 := k2.get g1
    have e2 := k2.get g2
    by_cases hil : i < pk.length
    · have hil' : (i : Int) < (pk.length : Int) := by omega
      obtain ⟨x, hx⟩ : ∃ x, pk[i]? = some x := ⟨_, List.getElem?_eq_getElem hil⟩
      have hgx : (pk.map pickC)[i]? = some (pickC x) := by simp [hx]
      have hxm := List.mem_of_getElem? hx
      refine raw ?_
      repeat (first | (with_reducible refine unr ?_; try simp only [YY, ↓reduceIte, Nat.reduceEqDiff, Nat.reduceAdd, Nat.reduceLeDiff, reduceCtorEq, Int.reduceEq, Int.reduceLT, Int.reduceLE, Int.reduceNeg, Int.reduceAdd, Int.reduceSub, Int.reduceToNat, e1, e2, hil', hgx, pickC, Cr.len, Cr.take9, glR_len, glR_t3]) | (with_reducible refine WW (by decide) ?_))
      refine (i4 x hxm _).mono ?_
      rintro _ t ⟨⟨b, rfl, hb⟩, rfl⟩
      cases b with
      | false =>
        refine raw ?_
        repeat (first | (with_reducible refine unr ?_; try simp only [YY, ↓reduceIte, Nat.reduceEqDiff, Nat.reduceAdd, Nat.reduceLeDiff, reduceCtorEq, Int.reduceEq, Int.reduceLT, Int.reduceLE, Int.reduceNeg, Int.reduceAdd, Int.reduceSub, Int.reduceToNat]) | (with_reducible refine WW (by decide) ?_))
        exact FP.same (k1.trans k2) (RE.f fun hh => iff_f hb rfl ((kn_iff.1 hh).g4 x hxm)) (.bool _)
      | true =>
        refine raw ?_
        repeat (first | (with_reducible refine unr ?_; try simp only [YY, ↓reduceIte, Nat.reduceEqDiff, Nat.reduceAdd, Nat.reduceLeDiff, reduceCtorEq, Int.reduceEq, Int.reduceLT, Int.reduceLE, Int.reduceNeg, Int.reduceAdd, Int.reduceSub, Int.reduceToNat, hw]) | (with_reducible refine WW (by decide) ?_))
        exact ⟨i + 1, rfl, ⟨k2, by omega, ⟨all_succ (p := fun x => x.2.Kn g) hall.out hx (hb.1 rfl)⟩⟩, by omega⟩
    have hil' : ¬ (i : Int) < (pk.length : Int) := by omega
    have hall := hall.out
    rw [List.take_of_length_le (by omega)] at hall
    refine raw ?_
    repeat (first | (with_reducible refine unr ?_; try simp only [YY, ↓reduceIte, Nat.reduceEqDiff, Nat.reduceAdd, Nat.reduceLeDiff, reduceCtorEq, Int.reduceEq, Int.reduceLT, Int.reduceLE, Int.reduceNeg, Int.reduceAdd, Int.reduceSub, Int.reduceToNat, e2, hil']) | (with_reducible refine WW (by decide) ?_))
    exact FP.same (k1.trans k2) (RE.t (kn_iff.2 ⟨h4.out, q1.out, q2.out, q3.out, hall⟩)) (.bool _)
set_option maxHeartbeats 1000000 in
theorem rightCD (l : List Sup) (cons : List Con5) (hb : bulkS l ≤ 40000000) (hl : l.length + cons.length ≤ 100000000) (σ : Store) : ACalls Try.prog 118 [.list (l.map supC), .list (cons.map con5C)] σ fun r s => (∃ b : Bool, r = .bool b ∧ (b = true ↔ OpenE l cons)) ∧ s = σ := by
  have hll := lenS l
  have hgc : (glOf l cons).con.length ≤ 100000000 := by simp [glOf]; omega
  have hgn : (glOf l cons).con.map (·.1) = cons.map (·.nm) := by simp [glOf, Function.comp_def]
  refine ACalls_fp (p := RE (OpenE l cons)) ?_
  refine in118 (by simp) ?_
  unfold c118
  refine raw ?_
  repeat (first | (with_reducible refine unr ?_; try simp only [YY, ↓reduceIte, Nat.reduceEqDiff, Nat.reduceAdd, Nat.reduceLeDiff, reduceCtorEq, Int.reduceEq, Int.reduceLT, Int.reduceLE, Int.reduceNeg, Int.reduceAdd, Int.reduceSub, Int.reduceToNat]) | (with_reducible refine WW (by decide) ?_))
  refine (of_ok l cons hl _).mono ?_
  rintro _ σ ⟨rfl, rfl⟩
  try simp only [YY, ↓reduceIte, Nat.reduceEqDiff, Nat.reduceAdd, Nat.reduceLeDiff, reduceCtorEq, Int.reduceEq, Int.reduceLT, Int.reduceLE, Int.reduceNeg, Int.reduceAdd, Int.reduceSub, Int.reduceToNat, glR_len]
  iterate 0 ((with_reducible refine WW (by decide) ?_); refine unr ?_; try simp only [YY, ↓reduceIte, Nat.reduceEqDiff, Nat.reduceAdd, Nat.reduceLeDiff, reduceCtorEq, Int.reduceEq, Int.reduceLT, Int.reduceLE, Int.reduceNeg, Int.reduceAdd, Int.reduceSub, Int.reduceToNat, glR_len])
  generalize hs : Store.push _ _ = s1
  have k1 : Kp σ s1 := by rw [← hs]; exact Kp.pushed _ _
  have g1 : s1.get σ.next = some (.cells 162 0 3 [glR (glOf l cons)]) := by rw [← hs]; simp [Store.push_get, Store.push_next]
  clear hs
  have hkn := fun x hx s => knownDE (glOf l cons) hgc x hx s
  have hft := fun a n s => fitsD (glOf l cons) hgc a n s
  have hg1 : (glR (glOf l cons)) = [strs (l.map (·.nm)), strs (cons.map (·.nm)), intsC (cons.map fun c => (c.fs.length : Int))] := by simp [glR, glOf, Function.comp_def]
  unfold KnownD at hkn
  simp only [hg1] at hkn hft g1
  refine AWP_cut [0, 5] (fun _ : Unit => [.list (l.map supC), .ptr σ.next 0 0 0]) (fun _ s => s1 = s ∧ Hid (FlatE l ∧ TF (glOf l cons))) ?_ ?_
  · refine raw ?_
    repeat (first | (with_reducible refine unr ?_; try simp only [YY, ↓reduceIte, Nat.reduceEqDiff, Nat.reduceAdd, Nat.reduceLeDiff, reduceCtorEq, Int.reduceEq, Int.reduceLT, Int.reduceLE, Int.reduceNeg, Int.reduceAdd, Int.reduceSub, Int.reduceToNat]) | (with_reducible refine WW (by decide) ?_))
    refine (rightSD l hb _).mono ?_
    rintro _ s1 ⟨⟨b, rfl, hb1⟩, rfl⟩
    cases b with
    | false =>
      refine raw ?_
      repeat (first | (with_reducible refine unr ?_; try simp only [YY, ↓reduceIte, Nat.reduceEqDiff, Nat.reduceAdd, Nat.reduceLeDiff, reduceCtorEq, Int.reduceEq, Int.reduceLT, Int.reduceLE, Int.reduceNeg, Int.reduceAdd, Int.reduceSub, Int.reduceToNat]) | (with_reducible refine WW (by decide) ?_))
      exact FP.same k1 (RE.f fun hh => iff_f hb1 rfl hh.1) (.bool _)
    | true =>
    refine raw ?_
    repeat (first | (with_reducible refine unr ?_; try simp only [YY, ↓reduceIte, Nat.reduceEqDiff, Nat.reduceAdd, Nat.reduceLeDiff, reduceCtorEq, Int.reduceEq, Int.reduceLT, Int.reduceLE, Int.reduceNeg, Int.reduceAdd, Int.reduceSub, Int.reduceToNat, g1]) | (with_reducible refine WW (by decide) ?_))
    refine (hft _ 0 _).mono ?_
    rintro _ s1 ⟨⟨b, rfl, hb2⟩, rfl⟩
    cases b with
    | false =>
      refine raw ?_
      repeat (first | (with_reducible refine unr ?_; try simp only [YY, ↓reduceIte, Nat.reduceEqDiff, Nat.reduceAdd, Nat.reduceLeDiff, reduceCtorEq, Int.reduceEq, Int.reduceLT, Int.reduceLE, Int.reduceNeg, Int.reduceAdd, Int.reduceSub, Int.reduceToNat]) | (with_reducible refine WW (by decide) ?_))
      exact FP.same k1 (RE.f fun hh => iff_f hb2 rfl hh.2.1.2.1) (.bool _)
    | true =>
    refine raw ?_
    repeat (first | (with_reducible refine unr ?_; try simp only [YY, ↓reduceIte, Nat.reduceEqDiff, Nat.reduceAdd, Nat.reduceLeDiff, reduceCtorEq, Int.reduceEq, Int.reduceLT, Int.reduceLE, Int.reduceNeg, Int.reduceAdd, Int.reduceSub, Int.reduceToNat, g1]) | (with_reducible refine WW (by decide) ?_))
    refine (hft _ 0 _).mono ?_
    rintro _ s1 ⟨⟨b, rfl, hb3⟩, rfl⟩
    cases b with
    | false =>
      refine raw ?_
      repeat (first | (with_reducible refine unr ?_; try simp only [YY, ↓reduceIte, Nat.reduceEqDiff, Nat.reduceAdd, Nat.reduceLeDiff, reduceCtorEq, Int.reduceEq, Int.reduceLT, Int.reduceLE, Int.reduceNeg, Int.reduceAdd, Int.reduceSub, Int.reduceToNat]) | (with_reducible refine WW (by decide) ?_))
      exact FP.same k1 (RE.f fun hh => iff_f hb3 rfl hh.2.1.2.2) (.bool _)
    | true =>
    refine raw ?_
    repeat (first | (with_reducible refine unr ?_; try simp only [YY, ↓reduceIte, Nat.reduceEqDiff, Nat.reduceAdd, Nat.reduceLeDiff, reduceCtorEq, Int.reduceEq, Int.reduceLT, Int.reduceLE, Int.reduceNeg, Int.reduceAdd, Int.reduceSub, Int.reduceToNat]) | (with_reducible refine WW (by decide) ?_))
    exact ⟨(), ⟨hb1.1 rfl, hb2.1 rfl, hb3.1 rfl⟩⟩
  rintro _ _ ⟨rfl, hFT⟩
  have hcq : ConsQ cons ↔ ∀ (j : Nat) s, (cons.map (·.nm))[j]? = some s → s.size ≠ 0 ∧ placeS (cons.map (·.nm)) s = (j : Int) := by
    unfold ConsQ
    rw [← place_nodup]
    constructor
    · rintro ⟨h1, h2⟩ j s hs
      refine ⟨?_, h2 j s hs⟩
      obtain ⟨c, hc, rfl⟩ := List.mem_map.1 (List.mem_of_getElem? hs)
      exact h1 c hc
    · intro h
      refine ⟨fun c hc => ?_, fun j s hs => (h j s hs).2⟩
      obtain ⟨j, hj⟩ := List.mem_iff_getElem?.1 (List.mem_map_of_mem (f := fun c : Con5 => c.nm) hc)
      exact (h j _ hj).1
  have hpl := fun k s => place_ok (cons.map (·.nm)) (by simp; omega) k s
  refine AWP_cut [0, 5] (fun _ : Unit => [.list (l.map supC), .ptr σ.next 0 0 0]) (fun _ s => s1 = s ∧ Hid (ConsQ cons)) ?_ ?_
  · refine raw ?_
    repeat (first | (with_reducible refine unr ?_; try simp only [YY, ↓reduceIte, Nat.reduceEqDiff, Nat.reduceAdd, Nat.reduceLeDiff, reduceCtorEq, Int.reduceEq, Int.reduceLT, Int.reduceLE, Int.reduceNeg, Int.reduceAdd, Int.reduceSub, Int.reduceToNat]) | (with_reducible refine WW (by decide) ?_))
    refine AWP_while [0, 5, 6] (fun i : Nat => cons.length - i) (fun i => [.list (l.map supC), .ptr σ.next 0 0 0, .int .i64 i]) (fun i t => s1 = t ∧ i ≤ cons.length ∧ Hid (∀ (j : Nat) s, j < i → (cons.map (·.nm))[j]? = some s → s.size ≠ 0 ∧ placeS (cons.map (·.nm)) s = (j : Int))) 0 ⟨rfl, by simp, ⟨by simp⟩⟩ ?_ ?_
    · refine raw ?_
      repeat (first | (with_reducible refine unr ?_; try simp only [YY, ↓reduceIte, Nat.reduceEqDiff, Nat.reduceAdd, Nat.reduceLeDiff, reduceCtorEq, Int.reduceEq, Int.reduceLT, Int.reduceLE, Int.reduceNeg, Int.reduceAdd, Int.reduceSub, Int.reduceToNat]) | (with_reducible refine WW (by decide) ?_))
      rfl
    rintro i _ ⟨rfl, hi, hall⟩
    have hw := wrap_succ (i := i) (by omega)
    by_cases hil : i < cons.length
    · have hil' : (i : Int) < (cons.length : Int) := by omega
      obtain ⟨x, hx⟩ : ∃ x, (cons.map (·.nm))[i]? = some x := ⟨_, List.getElem?_eq_getElem (by simpa using hil)⟩
      have hgx := strs_get hx
      by_cases h0 : x.size = 0
      · refine raw ?_
        repeat (first | (with_reducible refine unr ?_; try simp only [YY, ↓reduceIte, Nat.reduceEqDiff, Nat.reduceAdd, Nat.reduceLeDiff, reduceCtorEq, Int.reduceEq, Int.reduceLT, Int.reduceLE, Int.reduceNeg, Int.reduceAdd, Int.reduceSub, Int.reduceToNat, g1, hil', hgx, str_nil, h0]) | (with_reducible refine WW (by decide) ?_))
        exact FP.same k1 (RE.f fun hh => (hcq.1 hh.2.1.1 i x hx).1 h0) (.bool _)
      · refine raw ?_
        repeat (first | (with_reducible refine unr ?_; try simp only [YY, ↓reduceIte, Nat.reduceEqDiff, Nat.reduceAdd, Nat.reduceLeDiff, reduceCtorEq, Int.reduceEq, Int.reduceLT, Int.reduceLE, Int.reduceNeg, Int.reduceAdd, Int.reduceSub, Int.reduceToNat, g1, hil', hgx, str_nil, h0]) | (with_reducible refine WW (by decide) ?_))
        refine (hpl x _).mono ?_
        rintro _ s1 ⟨rfl, rfl⟩
        by_cases hp : placeS (cons.map (·.nm)) x = (i : Int)
        · refine raw ?_
          repeat (first | (with_reducible refine unr ?_; try simp only [YY, ↓reduceIte, Nat.reduceEqDiff, Nat.reduceAdd, Nat.reduceLeDiff, reduceCtorEq, Int.reduceEq, Int.reduceLT, Int.reduceLE, Int.reduceNeg, Int.reduceAdd, Int.reduceSub, Int.reduceToNat, hp, hw]) | (with_reducible refine WW (by decide) ?_))
          refine ⟨i + 1, rfl, ⟨by omega, ⟨fun j s hj hs => ?_⟩⟩, by omega⟩
          by_cases e : j = i
          · subst e
            rw [hx] at hs
            cases hs
            exact ⟨h0, hp⟩
          · exact hall.out j s (by omega) hs
        · refine raw ?_
          repeat (first | (with_reducible refine unr ?_; try simp only [YY, ↓reduceIte, Nat.reduceEqDiff, Nat.reduceAdd, Nat.reduceLeDiff, reduceCtorEq, Int.reduceEq, Int.reduceLT, Int.reduceLE, Int.reduceNeg, Int.reduceAdd, Int.reduceSub, Int.reduceToNat, hp]) | (with_reducible refine WW (by decide) ?_))
          exact FP.same k1 (RE.f fun hh => hp (hcq.1 hh.2.1.1 i x hx).2) (.bool _)
    · have hil' : ¬ (i : Int) < (cons.length : Int) := by omega
      refine raw ?_
      repeat (first | (with_reducible refine unr ?_; try simp only [YY, ↓reduceIte, Nat.reduceEqDiff, Nat.reduceAdd, Nat.reduceLeDiff, reduceCtorEq, Int.reduceEq, Int.reduceLT, Int.reduceLE, Int.reduceNeg, Int.reduceAdd, Int.reduceSub, Int.reduceToNat, g1, hil']) | (with_reducible refine WW (by decide) ?_))
      exact ⟨(), ⟨hcq.2 fun j s hs => hall.out j s (by have := (List.getElem?_eq_some_iff.1 hs).1; rw [List.length_map] at this; omega) hs⟩⟩
  rintro _ _ ⟨rfl, hC⟩
  refine raw ?_
  repeat (first | (with_reducible refine unr ?_; try simp only [YY, ↓reduceIte, Nat.reduceEqDiff, Nat.reduceAdd, Nat.reduceLeDiff, reduceCtorEq, Int.reduceEq, Int.reduceLT, Int.reduceLE, Int.reduceNeg, Int.reduceAdd, Int.reduceSub, Int.reduceToNat]) | (with_reducible refine WW (by decide) ?_))
  refine AWP_while [0, 5, 7] (fun i : Nat => l.length - i) (fun i => [.list (l.map supC), .ptr σ.next 0 0 0, .int .i64 i]) (fun i t => s1 = t ∧ i ≤ l.length ∧ Hid (∀ x, x ∈ l.take i → x.bd.Kn (glOf l cons))) 0 ⟨rfl, by simp, ⟨by simp⟩⟩ ?_ ?_
  · refine raw ?_
    repeat (first | (with_reducible refine unr ?_; try simp only [YY, ↓reduceIte, Nat.reduceEqDiff, Nat.reduceAdd, Nat.reduceLeDiff, reduceCtorEq, Int.reduceEq, Int.reduceLT, Int.reduceLE, Int.reduceNeg, Int.reduceAdd, Int.reduceSub, Int.reduceToNat]) | (with_reducible refine WW (by decide) ?_))
    rfl
  rintro i _ ⟨rfl, hi, hall⟩
  have hw := wrap_succ (i := i) (by omega)
  by_cases hil : i < l.length
  · have hil' : (i : Int) < (l.length : Int) := by omega
    obtain ⟨x, hx⟩ : ∃ x, l[i]? = some x := ⟨_, List.getElem?_eq_getElem hil⟩
    have hgx : (l.map supC)[i]? = some (supC x) := by simp [hx]
    have hxm := List.mem_of_getElem? hx
    have hxb := bulkS_mem hxm
    refine raw ?_
    repeat (first | (with_reducible refine unr ?_; try simp only [YY, ↓reduceIte, Nat.reduceEqDiff, Nat.reduceAdd, Nat.reduceLeDiff, reduceCtorEq, Int.reduceEq, Int.reduceLT, Int.reduceLE, Int.reduceNeg, Int.reduceAdd, Int.reduceSub, Int.reduceToNat, g1, hil', hgx, supC, Cr.len, Cr.take9, Cr.drop9]) | (with_reducible refine WW (by decide) ?_))
    refine (hkn x.bd (by omega) _).mono ?_
    rintro _ s1 ⟨⟨b, rfl, hb4⟩, rfl⟩
    cases b with
    | false =>
      refine raw ?_
      repeat (first | (with_reducible refine unr ?_; try simp only [YY, ↓reduceIte, Nat.reduceEqDiff, Nat.reduceAdd, Nat.reduceLeDiff, reduceCtorEq, Int.reduceEq, Int.reduceLT, Int.reduceLE, Int.reduceNeg, Int.reduceAdd, Int.reduceSub, Int.reduceToNat]) | (with_reducible refine WW (by decide) ?_))
      exact FP.same k1 (RE.f fun hh => iff_f hb4 rfl (hh.2.2 x hxm)) (.bool _)
    | true =>
      refine raw ?_
      repeat (first | (with_reducible refine unr ?_; try simp only [YY, ↓reduceIte, Nat.reduceEqDiff, Nat.reduceAdd, Nat.reduceLeDiff, reduceCtorEq, Int.reduceEq, Int.reduceLT, Int.reduceLE, Int.reduceNeg, Int.reduceAdd, Int.reduceSub, Int.reduceToNat, hw]) | (with_reducible refine WW (by decide) ?_))
      exact ⟨i + 1, rfl, ⟨by omega, ⟨all_succ (p := fun x => x.bd.Kn (glOf l cons)) hall.out hx (hb4.1 rfl)⟩⟩, by omega⟩
  · have hil' : ¬ (i : Int) < (l.length : Int) := by omega
    have hall := hall.out
    rw [List.take_of_length_le (by omega)] at hall
    refine raw ?_
    repeat (first | (with_reducible refine unr ?_; try simp only [YY, ↓reduceIte, Nat.reduceEqDiff, Nat.reduceAdd, Nat.reduceLeDiff, reduceCtorEq, Int.reduceEq, Int.reduceLT, Int.reduceLE, Int.reduceNeg, Int.reduceAdd, Int.reduceSub, Int.reduceToNat, hil']) | (with_reducible refine WW (by decide) ?_))
    exact FP.same k1 (RE.t ⟨hFT.out.1, ⟨hC.out, hFT.out.2⟩, hall⟩) (.bool _)
end Go.Proofs.Ytjjbjibbjbbeaaa
/- The probe; what is closed: exactly. -/
set_option linter.unusedVariables false
set_option linter.unusedSimpArgs false
namespace Go.AL
def pbAcc (l : List Sup) : ByteArray := l.foldl (fun a x => a ++ x.nm) ⟨#[35]⟩
def pbName (l : List Sup) : ByteArray := pbAcc l ++ ⟨#[35]⟩
theorem pbAcc_snoc (l : List Sup) (x : Sup) : pbAcc (l ++ [x]) = pbAcc l ++ x.nm := by simp [pbAcc]
theorem size_app (a b : ByteArray) : (a ++ b).size = a.size + b.size := by rw [← bl_len, bl_app, List.length_append, bl_len, bl_len]
theorem pbAcc_size : ∀ l : List Sup, (pbAcc l).size ≤ 1 + bulkS l := by
  have key : ∀ (l : List Sup) (a : ByteArray), (l.foldl (fun a x => a ++ x.nm) a).size ≤ a.size + bulkS l := by
    intro l
    induction l with
    | nil => intro a; simp [bulkS]
    | cons x r ih => intro a; rw [List.foldl_cons, bulkS]; have := ih (a ++ x.nm); rw [size_app] at this; omega
  intro l
  exact key l _
theorem bulkS_take (l : List Sup) (i : Nat) : bulkS (l.take i) ≤ bulkS l := by
  induction l generalizing i with
  | nil => simp
  | cons x r ih =>
    cases i with
    | zero => simp [bulkS]
    | succ i => rw [List.take_succ_cons, bulkS, bulkS]; have := ih i; omega
def zeroI : Cr := .mk 3 ⟨#[]⟩ 0 0 [] [] [] [] []
def probeS (e : Cr) (l : List Sup) : Sup := ⟨pbName l, [], .mk 5 ⟨#[]⟩ 0 0 [] [zeroI, e] [] [] []⟩
def rawProbe (e : Cr) (l : List Sup) : List AV := [.str (pbName l), .nils, .int .i64 5, .str ⟨#[]⟩, .int .i64 0, .int .i64 0, .nils, .list [[.int .i64 3, .str ⟨#[]⟩, .int .i64 0, .int .i64 0, .nils, .nils, .nils, .nils, .nils], e.cells], .nils, .nils, .nils]
theorem zeroI_cells : zeroI.cells = [.int .i64 3, .str ⟨#[]⟩, .int .i64 0, .int .i64 0, strs [], .list [], .list [], .list [], .list []] := by rw [zeroI, Cr.cells_eq]; rfl
theorem leD_probe (e : Cr) (l : List Sup) : LeDL (rawProbe e l) (supC (probeS e l)) := by
  have : supC (probeS e l) = [.str (pbName l), .list [], .int .i64 5, .str ⟨#[]⟩, .int .i64 0, .int .i64 0, .list [], .list [[.int .i64 3, .str ⟨#[]⟩, .int .i64 0, .int .i64 0, .list [], .list [], .list [], .list [], .list []], e.cells], .list [], .list [], .list []] := by
    rw [supC, probeS, Cr.cells_eq]
    simp only [List.map_cons, List.map_nil, zeroI_cells, strs]
  rw [this]
  exact .cons (.refl _) (.cons .nil (.cons (.refl _) (.cons (.refl _) (.cons (.refl _) (.cons (.refl _) (.cons .nil (.cons (.list (.cons (.cons (.refl _) (.cons (.refl _) (.cons (.refl _) (.cons (.refl _) (.cons .nil (.cons .nil (.cons .nil (.cons .nil (.cons .nil .nil))))))))) (.cons (LeDL.refl _) .nil))) (.cons .nil (.cons .nil (.cons .nil .nil))))))))))
/-- No global of that name. -/
inductive Cr.Cl (s : ByteArray) : Cr → Prop
  | mk {k : Int} {nm : ByteArray} {n ar : Int} {ps : List ByteArray} {gs : List Cr} {al : List (AltH × Cr)} {bs : List (ByteArray × Cr)} {pk : List (Int × Cr)} (h : ¬ (k = 2 ∧ nm = s))
    (g1 : ∀ x, x ∈ gs → Cr.Cl s x) (g3 : ∀ x, x ∈ bs → Cr.Cl s x.2) : Cr.Cl s (.mk k nm n ar ps gs al bs pk)
theorem cl_iff {s : ByteArray} {k : Int} {nm : ByteArray} {n ar : Int} {ps : List ByteArray} {gs : List Cr} {al : List (AltH × Cr)} {bs : List (ByteArray × Cr)} {pk : List (Int × Cr)} :
    (Cr.mk k nm n ar ps gs al bs pk).Cl s ↔ ¬ (k = 2 ∧ nm = s) ∧ (∀ x, x ∈ gs → Cr.Cl s x) ∧ ∀ x, x ∈ bs → Cr.Cl s x.2 :=
  ⟨fun h => by cases h with | mk a b c => exact ⟨a, b, c⟩, fun ⟨a, b, c⟩ => .mk a b c⟩
end Go.AL
namespace Go.Proofs.Ytjjbjibbjbbeaaa
open Go.AL
theorem probe_ok (e : Cr) (l : List Sup) (hb : bulkS l ≤ 9000000) (σ : Store) : ACalls Try.prog 63 [.agg e.cells, .list (l.map supC)] σ fun r s => r = .agg (rawProbe e l) ∧ s = σ := by
  have hll := lenS l
  refine ACalls_fp (p := fun r => r = .agg (rawProbe e l)) ?_
  refine in63 (by simp) ?_
  unfold c63
  try simp only [YY, ↓reduceIte, Nat.reduceEqDiff, Nat.reduceAdd, Nat.reduceLeDiff, reduceCtorEq, Int.reduceEq, Int.reduceLT, Int.reduceLE, Int.reduceNeg, Int.reduceAdd, Int.reduceSub, Int.reduceToNat, Cr.len]
  iterate 4 ((with_reducible refine WW (by decide) ?_); refine unr ?_; try simp only [YY, ↓reduceIte, Nat.reduceEqDiff, Nat.reduceAdd, Nat.reduceLeDiff, reduceCtorEq, Int.reduceEq, Int.reduceLT, Int.reduceLE, Int.reduceNeg, Int.reduceAdd, Int.reduceSub, Int.reduceToNat, Cr.len])
  generalize hs : Store.push _ _ = s1
  have k1 : Kp σ s1 := by rw [← hs]; exact (Kp.pushed _ _).push _
  have he : s1.get σ.next = some (.cells 54 0 9 [e.cells]) := by rw [← hs]; simp [Store.push_get, Store.push_next]
  have h4 : s1.get (σ.next + 1) = some (.cells 71 0 11 [[.str ⟨#[]⟩, .nils, .int .i64 0, .str ⟨#[]⟩, .int .i64 0, .int .i64 0, .nils, .nils, .nils, .nils, .nils]]) := by rw [← hs]; simp [Store.push_get, Store.push_next]
  clear hs
  refine AWP_cut [2, 4, 5] (fun _ : Unit => [.ptr σ.next 0 0 0, .ptr (σ.next + 1) 0 0 0, .str (pbAcc l)]) (fun _ t => Kp s1 t) ?_ ?_
  · refine raw ?_
    repeat (first | (with_reducible refine unr ?_; try simp only [YY, ↓reduceIte, Nat.reduceEqDiff, Nat.reduceAdd, Nat.reduceLeDiff, reduceCtorEq, Int.reduceEq, Int.reduceLT, Int.reduceLE, Int.reduceNeg, Int.reduceAdd, Int.reduceSub, Int.reduceToNat]) | (with_reducible refine WW (by decide) ?_))
    refine AWP_while [2, 4, 5, 9, 10, 11] (fun i : Nat => l.length - i) (fun i => [.ptr σ.next 0 0 0, .ptr (σ.next + 1) 0 0 0, .str (pbAcc (l.take i)), .list (l.map supC), .int .i64 l.length, .int .i64 i]) (fun i t => Kp s1 t ∧ i ≤ l.length) 0 ⟨.refl _, by simp⟩ ?_ ?_
    · refine raw ?_
      repeat (first | (with_reducible refine unr ?_; try simp only [YY, ↓reduceIte, Nat.reduceEqDiff, Nat.reduceAdd, Nat.reduceLeDiff, reduceCtorEq, Int.reduceEq, Int.reduceLT, Int.reduceLE, Int.reduceNeg, Int.reduceAdd, Int.reduceSub, Int.reduceToNat]) | (with_reducible refine WW (by decide) ?_))
      rfl
    rintro i t ⟨k2, hi⟩
    have hw := wrap_succ (i := i) (by omega)
    by_cases hil : i < l.length
    · have hil' : (i : Int) < (l.length : Int) := by omega
      obtain ⟨x, hx⟩ : ∃ x, l[i]? = some x := ⟨_, List.getElem?_eq_getElem hil⟩
      have hg : (l.map supC)[i]? = some (supC x) := by simp [hx]
      have hxb := bulkS_le (List.mem_of_getElem? hx)
      have z1 := pbAcc_size (l.take i)
      have z2 := bulkS_take l i
      have z3 : (pbAcc (l.take i)).size + x.nm.size ≤ maxLen := by simp only [maxLen]; omega
      refine raw ?_
      repeat (first | (with_reducible refine unr ?_; try simp only [YY, ↓reduceIte, Nat.reduceEqDiff, Nat.reduceAdd, Nat.reduceLeDiff, reduceCtorEq, Int.reduceEq, Int.reduceLT, Int.reduceLE, Int.reduceNeg, Int.reduceAdd, Int.reduceSub, Int.reduceToNat, hil', hg, supC, Cr.len, Cr.take9, z3, hw]) | (with_reducible refine WW (by decide) ?_))
      exact ⟨i + 1, by rw [take_succ_at hx, pbAcc_snoc], ⟨k2.push _, by omega⟩, by omega⟩
    · have hil' : ¬ (i : Int) < (l.length : Int) := by omega
      rw [List.take_of_length_le (by omega)]
      refine raw ?_
      repeat (first | (with_reducible refine unr ?_; try simp only [YY, ↓reduceIte, Nat.reduceEqDiff, Nat.reduceAdd, Nat.reduceLeDiff, reduceCtorEq, Int.reduceEq, Int.reduceLT, Int.reduceLE, Int.reduceNeg, Int.reduceAdd, Int.reduceSub, Int.reduceToNat, hil']) | (with_reducible refine WW (by decide) ?_))
      exact ⟨(), k2⟩
  rintro _ t k2
  have he2 := k2.get he
  have h42 := k2.get h4
  have z1 := pbAcc_size l
  have zz : (⟨#[35]⟩ : ByteArray).size = 1 := rfl
  have z3 : (pbAcc l).size + 1 ≤ maxLen := by simp only [maxLen]; omega
  have q1 := lt_ne (t.lt he2)
  have q2 := lt_ne (t.lt h42)
  have hlt := t.lt h42
  have hg : ∀ o o', ((t.push o).upd (σ.next + 1) o').get (σ.next + 1) = some o' := fun o o' => Store.get_upd_self _ _ (by rw [Store.push_next]; omega)
  have hg2 : ∀ o', (t.upd (σ.next + 1) o').get (σ.next + 1) = some o' := fun o' => Store.get_upd_self _ _ hlt
  refine raw ?_
  repeat (first | (with_reducible refine unr ?_; try simp only [YY, ↓reduceIte, Nat.reduceEqDiff, Nat.reduceAdd, Nat.reduceLeDiff, reduceCtorEq, Int.reduceEq, Int.reduceLT, Int.reduceLE, Int.reduceNeg, Int.reduceAdd, Int.reduceSub, Int.reduceToNat, he2, h42, q1, q2, Cr.len, Cr.take9, z3, zz, hg, hg2]) | (with_reducible refine WW (by decide) ?_))
  refine FP.same (((k1.trans k2).upd (id := σ.next + 1) (by omega) _).push _) rfl ?_
  refine .agg' fun c hc => ?_
  simp only [List.mem_cons, List.not_mem_nil, or_false] at hc
  rcases hc with rfl | rfl | rfl | rfl | rfl | rfl | rfl | rfl | rfl | rfl | rfl
  all_goals first
    | exact .str _
    | exact .int _ _
    | exact .nils
    | skip
  refine .list' fun x hx c hc => ?_
  simp only [List.mem_cons, List.not_mem_nil, or_false] at hx
  rcases hx with rfl | rfl
  · simp only [List.mem_cons, List.not_mem_nil, or_false] at hc
    rcases hc with rfl | rfl | rfl | rfl | rfl | rfl | rfl | rfl | rfl
    all_goals first
      | exact .str _
      | exact .int _ _
      | exact .nils
  · exact e.cln c hc
abbrev ClosedC (l : List Sup) (x : Cr) : Prop := ∀ (σ : Store), ACalls Try.prog 65 [.agg x.cells, .list (l.map supC)] σ fun r s => (∃ b : Bool, r = .bool b ∧ (b = true ↔ x.Cl (pbName l))) ∧ s = σ
set_option maxHeartbeats 1000000 in
theorem closedE (l : List Sup) (hb : bulkS l ≤ 9000000) : ∀ x : Cr, x.bulk ≤ 10000000 → ClosedC l x := by
  intro x
  induction x using Cr.ind with
  | _ k nm n ar ps gs al bs pk ih1 ih2 ih3 ih4 =>
    intro hbx σ
    rw [Cr.bulk] at hbx
    have l1 := Cr.lenL gs; have l3 := Cr.lenB bs
    have i1 := fun (x : Cr) (hx : x ∈ gs) => ih1 x hx (by have := Cr.bulkL_le hx; omega)
    have i3 := fun (x : ByteArray × Cr) (hx : x ∈ bs) => ih3 x hx (by have := Cr.bulkB_le hx; omega)
    refine ACalls_fp (p := RE ((Cr.mk k nm n ar ps gs al bs pk).Cl (pbName l))) ?_
    have hpr := fun s => probe_ok (.mk k nm n ar ps gs al bs pk) l hb s
    unfold rawProbe at hpr
    rw [Cr.cells_eq] at hpr
    refine in65 (by simp) ?_
    unfold c65
    rw [Cr.cells_eq]
    try simp only [YY, ↓reduceIte, Nat.reduceEqDiff, Nat.reduceAdd, Nat.reduceLeDiff, reduceCtorEq, Int.reduceEq, Int.reduceLT, Int.reduceLE, Int.reduceNeg, Int.reduceAdd, Int.reduceSub, Int.reduceToNat]
    iterate 2 ((with_reducible refine WW (by decide) ?_); refine unr ?_; try simp only [YY, ↓reduceIte, Nat.reduceEqDiff, Nat.reduceAdd, Nat.reduceLeDiff, reduceCtorEq, Int.reduceEq, Int.reduceLT, Int.reduceLE, Int.reduceNeg, Int.reduceAdd, Int.reduceSub, Int.reduceToNat])
    generalize hs : Store.push _ _ = s1
    have k1 : Kp σ s1 := by rw [← hs]; exact .pushed _ _
    have g1 : s1.get σ.next = some (.cells 54 0 9 [[.int .i64 k, .str nm, .int .i64 n, .int .i64 ar, strs ps, .list (gs.map Cr.cells), .list (al.map altC), .list (bs.map bindC), .list (pk.map pickC)]]) := by rw [← hs]; simp [Store.push_get, Store.push_next]
    clear hs
    have he1 := g1
    try simp only [YY, ↓reduceIte, Nat.reduceEqDiff, Nat.reduceAdd, Nat.reduceLeDiff, reduceCtorEq, Int.reduceEq, Int.reduceLT, Int.reduceLE, Int.reduceNeg, Int.reduceAdd, Int.reduceSub, Int.reduceToNat, he1]
    iterate 2 ((with_reducible refine WW (by decide) ?_); refine unr ?_; try simp only [YY, ↓reduceIte, Nat.reduceEqDiff, Nat.reduceAdd, Nat.reduceLeDiff, reduceCtorEq, Int.reduceEq, Int.reduceLT, Int.reduceLE, Int.reduceNeg, Int.reduceAdd, Int.reduceSub, Int.reduceToNat, he1])
    refine (hpr _).mono ?_
    rintro _ s1 ⟨rfl, rfl⟩
    try simp only [YY, ↓reduceIte, Nat.reduceEqDiff, Nat.reduceAdd, Nat.reduceLeDiff, reduceCtorEq, Int.reduceEq, Int.reduceLT, Int.reduceLE, Int.reduceNeg, Int.reduceAdd, Int.reduceSub, Int.reduceToNat]
    iterate 0 ((with_reducible refine WW (by decide) ?_); refine unr ?_; try simp only [YY, ↓reduceIte, Nat.reduceEqDiff, Nat.reduceAdd, Nat.reduceLeDiff, reduceCtorEq, Int.reduceEq, Int.reduceLT, Int.reduceLE, Int.reduceNeg, Int.reduceAdd, Int.reduceSub, Int.reduceToNat])
    refine AWP_cut [1, 2] (fun _ : Unit => [.list (l.map supC), .ptr σ.next 0 0 0]) (fun _ s => s1 = s ∧ Hid (¬ (k = 2 ∧ nm = pbName l))) ?_ ?_
    · by_cases hk : k = 2
      · by_cases hn : nm = pbName l
        · refine raw ?_
          repeat (first | (with_reducible refine unr ?_; try simp only [YY, ↓reduceIte, Nat.reduceEqDiff, Nat.reduceAdd, Nat.reduceLeDiff, reduceCtorEq, Int.reduceEq, Int.reduceLT, Int.reduceLE, Int.reduceNeg, Int.reduceAdd, Int.reduceSub, Int.reduceToNat, he1, hk, hn]) | (with_reducible refine WW (by decide) ?_))
          exact FP.same k1 (RE.f fun hh => (cl_iff.1 hh).1 ⟨hk, hn⟩) (.bool _)
        · refine raw ?_
          repeat (first | (with_reducible refine unr ?_; try simp only [YY, ↓reduceIte, Nat.reduceEqDiff, Nat.reduceAdd, Nat.reduceLeDiff, reduceCtorEq, Int.reduceEq, Int.reduceLT, Int.reduceLE, Int.reduceNeg, Int.reduceAdd, Int.reduceSub, Int.reduceToNat, he1, hk, hn]) | (with_reducible refine WW (by decide) ?_))
          exact ⟨(), ⟨fun h => by first | exact h | exact h.1 | exact hn h.2⟩⟩
      · refine raw ?_
        repeat (first | (with_reducible refine unr ?_; try simp only [YY, ↓reduceIte, Nat.reduceEqDiff, Nat.reduceAdd, Nat.reduceLeDiff, reduceCtorEq, Int.reduceEq, Int.reduceLT, Int.reduceLE, Int.reduceNeg, Int.reduceAdd, Int.reduceSub, Int.reduceToNat, he1, hk]) | (with_reducible refine WW (by decide) ?_))
        exact ⟨(), ⟨fun h => by first | exact h | exact h.1 | exact hk h.1⟩⟩
    rintro _ _ ⟨rfl, h2⟩
    refine AWP_cut [1, 2] (fun _ : Unit => [.list (l.map supC), .ptr σ.next 0 0 0]) (fun _ s => Kp s1 s ∧ Hid (∀ x, x ∈ gs → x.Cl (pbName l))) ?_ ?_
    · refine raw ?_
      repeat (first | (with_reducible refine unr ?_; try simp only [YY, ↓reduceIte, Nat.reduceEqDiff, Nat.reduceAdd, Nat.reduceLeDiff, reduceCtorEq, Int.reduceEq, Int.reduceLT, Int.reduceLE, Int.reduceNeg, Int.reduceAdd, Int.reduceSub, Int.reduceToNat, he1]) | (with_reducible refine WW (by decide) ?_))
      refine AWP_while [1, 2, 24, 25, 26] (fun i : Nat => gs.length - i) (fun i => [.list (l.map supC), .ptr σ.next 0 0 0, .list (gs.map Cr.cells), .int .i64 gs.length, .int .i64 i]) (fun i t => Kp s1 t ∧ i ≤ gs.length ∧ Hid (∀ x, x ∈ gs.take i → x.Cl (pbName l))) 0 ⟨.refl _, by simp, ⟨by simp⟩⟩ ?_ ?_
      · refine raw ?_
        repeat (first | (with_reducible refine unr ?_; try simp only [YY, ↓reduceIte, Nat.reduceEqDiff, Nat.reduceAdd, Nat.reduceLeDiff, reduceCtorEq, Int.reduceEq, Int.reduceLT, Int.reduceLE, Int.reduceNeg, Int.reduceAdd, Int.reduceSub, Int.reduceToNat]) | (with_reducible refine WW (by decide) ?_))
        rfl
      rintro i t ⟨k2, hi, hall⟩
      have he1 := k2.get g1
      have hq1 := lt_ne (t.lt he1)
      have hw := wrap_succ (i := i) (by omega)
      by_cases hil : i < gs.length
      · have hil' : (i : Int) < (gs.length : Int) := by omega
        obtain ⟨x, hx⟩ : ∃ x, gs[i]? = some x := ⟨_, List.getElem?_eq_getElem hil⟩
        have hg : (gs.map Cr.cells)[i]? = some (Cr.cells x) := by simp [hx]
        have hxm := List.mem_of_getElem? hx
        refine raw ?_
        repeat' (first | (with_reducible refine unr ?_; try simp only [YY, ↓reduceIte, Nat.reduceEqDiff, Nat.reduceAdd, Nat.reduceLeDiff, reduceCtorEq, Int.reduceEq, Int.reduceLT, Int.reduceLE, Int.reduceNeg, Int.reduceAdd, Int.reduceSub, Int.reduceToNat, he1, hil', hg, Cr.len, Cr.take9, hq1, str_nil, *]) | (with_reducible first | refine WW (by decide) ?_ | refine ok_idx (by first | assumption | omega) (fun b hb => raw ?_) | refine ok_iad (by first | assumption | omega) (fun x hx hxm => raw ?_) | refine And.intro (by omega) (raw ?_) | (refine guardW_b (fun h => raw ?_) (fun h => raw ?_) <;> try simp only [Ty] at h) | (refine ePick_b (fun h => raw ?_) (fun h => raw ?_) <;> try simp only [Ty] at h) | (refine condW_b (fun h => raw ?_) (fun h => raw ?_) <;> try simp only [Ty] at h) | (refine (i1 x hxm _).mono ?_; rintro _ _ ⟨⟨b, rfl, hb⟩, rfl⟩; refine raw ?_)))
        all_goals first
          | exact FP.same (k1.trans (k2.push _)) (RE.f fun hh => iff_f hb h ((cl_iff.1 hh).2.1 x hxm)) (.bool _)
          | exact ⟨i + 1, rfl, ⟨k2.push _, by omega, ⟨all_succ (p := fun x => x.Cl (pbName l)) hall.out hx (hb.1 h)⟩⟩, by omega⟩
      · have hil' : ¬ (i : Int) < (gs.length : Int) := by omega
        have hall := hall.out
        rw [List.take_of_length_le (by omega)] at hall
        refine raw ?_
        repeat (first | (with_reducible refine unr ?_; try simp only [YY, ↓reduceIte, Nat.reduceEqDiff, Nat.reduceAdd, Nat.reduceLeDiff, reduceCtorEq, Int.reduceEq, Int.reduceLT, Int.reduceLE, Int.reduceNeg, Int.reduceAdd, Int.reduceSub, Int.reduceToNat, he1, hil']) | (with_reducible refine WW (by decide) ?_))
        exact ⟨(), k2, ⟨hall⟩⟩
    rintro _ s2 ⟨k2, q1⟩
    have he1 := k2.get g1
    refine raw ?_
    repeat (first | (with_reducible refine unr ?_; try simp only [YY, ↓reduceIte, Nat.reduceEqDiff, Nat.reduceAdd, Nat.reduceLeDiff, reduceCtorEq, Int.reduceEq, Int.reduceLT, Int.reduceLE, Int.reduceNeg, Int.reduceAdd, Int.reduceSub, Int.reduceToNat, he1]) | (with_reducible refine WW (by decide) ?_))
    refine AWP_while [1, 2, 36, 37, 38] (fun i : Nat => bs.length - i) (fun i => [.list (l.map supC), .ptr σ.next 0 0 0, .list (bs.map bindC), .int .i64 bs.length, .int .i64 i]) (fun i t => Kp s1 t ∧ i ≤ bs.length ∧ Hid (∀ x, x ∈ bs.take i → x.2.Cl (pbName l))) 0 ⟨k2, by simp, ⟨by simp⟩⟩ ?_ ?_
    · refine raw ?_
      repeat (first | (with_reducible refine unr ?_; try simp only [YY, ↓reduceIte, Nat.reduceEqDiff, Nat.reduceAdd, Nat.reduceLeDiff, reduceCtorEq, Int.reduceEq, Int.reduceLT, Int.reduceLE, Int.reduceNeg, Int.reduceAdd, Int.reduceSub, Int.reduceToNat]) | (with_reducible refine WW (by decide) ?_))
      rfl
    rintro i t ⟨k2, hi, hall⟩
    have he1 := k2.get g1
    have hq1 := lt_ne (t.lt he1)
    have hw := wrap_succ (i := i) (by omega)
    by_cases hil : i < bs.length
    · have hil' : (i : Int) < (bs.length : Int) := by omega
      obtain ⟨x, hx⟩ : ∃ x, bs[i]? = some x := ⟨_, List.getElem?_eq_getElem hil⟩
      have hg : (bs.map bindC)[i]? = some (bindC x) := by simp [hx]
      have hxm := List.mem_of_getElem? hx
      refine raw ?_
      repeat' (first | (with_reducible refine unr ?_; try simp only [YY, ↓reduceIte, Nat.reduceEqDiff, Nat.reduceAdd, Nat.reduceLeDiff, reduceCtorEq, Int.reduceEq, Int.reduceLT, Int.reduceLE, Int.reduceNeg, Int.reduceAdd, Int.reduceSub, Int.reduceToNat, he1, hil', hg, bindC, Cr.len, Cr.take9, hq1, str_nil, *]) | (with_reducible first | refine WW (by decide) ?_ | refine ok_idx (by first | assumption | omega) (fun b hb => raw ?_) | refine ok_iad (by first | assumption | omega) (fun x hx hxm => raw ?_) | refine And.intro (by omega) (raw ?_) | (refine guardW_b (fun h => raw ?_) (fun h => raw ?_) <;> try simp only [Ty] at h) | (refine ePick_b (fun h => raw ?_) (fun h => raw ?_) <;> try simp only [Ty] at h) | (refine condW_b (fun h => raw ?_) (fun h => raw ?_) <;> try simp only [Ty] at h) | (refine (i3 x hxm _).mono ?_; rintro _ _ ⟨⟨b, rfl, hb⟩, rfl⟩; refine raw ?_)))
      all_goals first
        | exact FP.same (k1.trans (k2.push _)) (RE.f fun hh => iff_f hb h ((cl_iff.1 hh).2.2 x hxm)) (.bool _)
        | exact ⟨i + 1, rfl, ⟨k2.push _, by omega, ⟨all_succ (p := fun x => x.2.Cl (pbName l)) hall.out hx (hb.1 h)⟩⟩, by omega⟩
    · have hil' : ¬ (i : Int) < (bs.length : Int) := by omega
      have hall := hall.out
      rw [List.take_of_length_le (by omega)] at hall
      refine raw ?_
      repeat (first | (with_reducible refine unr ?_; try simp only [YY, ↓reduceIte, Nat.reduceEqDiff, Nat.reduceAdd, Nat.reduceLeDiff, reduceCtorEq, Int.reduceEq, Int.reduceLT, Int.reduceLE, Int.reduceNeg, Int.reduceAdd, Int.reduceSub, Int.reduceToNat, he1, hil']) | (with_reducible refine WW (by decide) ?_))
      exact FP.same (k1.trans k2) (RE.t (cl_iff.2 ⟨h2.out, q1.out, hall⟩)) (.bool _)
end Go.Proofs.Ytjjbjibbjbbeaaa
