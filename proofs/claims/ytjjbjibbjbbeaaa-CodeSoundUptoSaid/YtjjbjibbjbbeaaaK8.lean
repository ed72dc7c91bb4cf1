/- A part of the proof of the claim: the abstract layer, the contracts of the functions, the law (no condition of its own). -/
import Derived.Test.YtjjbjibbjbbeaaaK7
import Derived.Test.YtjjbjibbjbbeaaaRows
/- The law CodeSound. -/
set_option linter.unusedVariables false
set_option linter.unusedSimpArgs false
namespace Go.AL
/-- The bulk of constructors. -/
def bulkC : List Con5 → Nat
  | [] => 0
  | c :: r => 1 + c.fs.length + bulkC r
theorem bulkC_le {x : Con5} : ∀ {l : List Con5}, x ∈ l → 1 + x.fs.length ≤ bulkC l
  | c :: r, hm => by
    rw [bulkC]
    rcases List.mem_cons.1 hm with rfl | h
    · omega
    · have := bulkC_le h; omega
theorem lenC : ∀ l : List Con5, l.length ≤ bulkC l
  | [] => by simp
  | c :: r => by have := lenC r; rw [bulkC, List.length_cons]; omega
theorem consS_mem {y : Cd} : ∀ {l : List Con5} {k : Nat}, y ∈ consS k l → ∃ i c, c ∈ l ∧ y = conS i (c.nm, c.fs.length)
  | [], k, h => by simp [consS] at h
  | c :: r, k, h => by
    rw [consS] at h
    rcases List.mem_cons.1 h with rfl | h
    · exact ⟨k, c, by simp, rfl⟩
    · obtain ⟨i, c, h1, h2⟩ := consS_mem h
      exact ⟨i, c, by simp [h1], h2⟩
/-- All that is compiled is sound. -/
theorem comp_cert (l : List Sup) (cons : List Con5) (hF : FlatP l) (hne : cons ≠ []) (hb : bulkS l ≤ 3000000) (hc : bulkC cons ≤ 3000000) (y : Cd) (hy : y ∈ compS l cons) : Cert y.ar y.ops ∧ y.ops.length ≤ 50000000 := by
  rw [compS] at hy
  rcases List.mem_append.1 hy with hy | hy
  · rcases List.mem_append.1 hy with hy | hy
    · obtain ⟨p, hp, rfl⟩ := List.mem_map.1 hy
      have hpb := bulkS_le hp
      obtain ⟨hr, hf⟩ := hF.1 p hp
      refine ⟨super_cert _ (by simp [glOf, hne]) p hr hf (by omega), ?_⟩
      have := valS_len (glOf l cons) opS p.bd (withS [] p.ps ((p.ps.length : Int) - 1) (-1)) p.ps.length true 0
      simp only [superS]
      omega
    · obtain ⟨i, c, hm, rfl⟩ := consS_mem hy
      have := bulkC_le hm
      exact ⟨con_cert i _ (by simp only; omega), by simp [conS, endS]⟩
  · obtain ⟨i, _, rfl⟩ := List.mem_map.1 hy
    exact ⟨op_cert _, by simp [opS', endS]⟩
end Go.AL
namespace Go.Proofs.Ytjjbjibbjbbeaaa
open Go.AL
set_option maxHeartbeats 1000000 in
theorem law6 (l : List Sup) (cons : List Con5) (hb : bulkS l + bulkC cons ≤ 1048576) (σ : Store) :
    ACalls Try.prog 6 [.list (l.map supC), .list (cons.map con5C)] σ fun r σ' => r = .bool true ∧ σ' = σ := by
  have hdl := lenS l
  have hdc := lenC cons
  have sl := small_ok l (by omega)
  refine ACalls_fp (p := fun r => r = .bool true) ?_
  refine in6 (by simp) ?_
  unfold c6
  try simp only [ZZ, ↓reduceIte, Nat.reduceEqDiff, Nat.reduceAdd, Nat.reduceLeDiff, reduceCtorEq, Int.reduceEq, Int.reduceLT, Int.reduceLE, Int.reduceNeg, Int.reduceAdd, Int.reduceSub, Int.reduceToNat]
  iterate 2 ((with_reducible first | refine W1 ?_ | refine W2 ?_ | refine W3 ?_ | refine W4 ?_ | refine W5 ?_ | refine W6 ?_ | refine W7 ?_ | refine W8 ?_ | refine W9 ?_); refine unr ?_; try simp only [ZZ, ↓reduceIte, Nat.reduceEqDiff, Nat.reduceAdd, Nat.reduceLeDiff, reduceCtorEq, Int.reduceEq, Int.reduceLT, Int.reduceLE, Int.reduceNeg, Int.reduceAdd, Int.reduceSub, Int.reduceToNat])
  refine AWP_cut [0, 1] (fun _ : Unit => [.list (l.map supC), .list (cons.map con5C)]) (fun _ s => σ = s) ?_ ?_
  · refine raw ?_
    repeat' (first | (with_reducible refine unr ?_; try simp only [ZZ, ↓reduceIte, Nat.reduceEqDiff, Nat.reduceAdd, Nat.reduceLeDiff, reduceCtorEq, Int.reduceEq, Int.reduceLT, Int.reduceLE, Int.reduceNeg, Int.reduceAdd, Int.reduceSub, Int.reduceToNat, str_nil, *]) | (with_reducible first | refine W1 ?_ | refine W2 ?_ | refine W3 ?_ | refine W4 ?_ | refine W5 ?_ | refine W6 ?_ | refine W7 ?_ | refine W8 ?_ | refine W9 ?_ | refine ok_idx (by first | assumption | omega) (fun b hb => raw ?_) | refine ok_iad (by first | assumption | omega) (fun x hx hxm => raw ?_) | refine And.intro (by omega) (raw ?_) | (refine guardW_b (fun h => raw ?_) (fun h => raw ?_) <;> try simp only [Ty] at h) | (refine ePick_b (fun h => raw ?_) (fun h => raw ?_) <;> try simp only [Ty] at h) | (refine condW_b (fun h => raw ?_) (fun h => raw ?_) <;> try simp only [Ty] at h) | (refine (sl _).mono ?_; rintro _ _ ⟨⟨b, rfl, hb⟩, rfl⟩; refine raw ?_) | (refine (code_known _).mono ?_; rintro _ _ ⟨⟨b, rfl, hb⟩, rfl⟩; refine raw ?_)))
    all_goals first
      | exact FP.same (.refl _) rfl (.bool _)
      | exact ⟨(), trivial⟩
  rintro _ _ rfl
  refine raw ?_
  repeat (first | (with_reducible refine unr ?_; try simp only [ZZ, ↓reduceIte, Nat.reduceEqDiff, Nat.reduceAdd, Nat.reduceLeDiff, reduceCtorEq, Int.reduceEq, Int.reduceLT, Int.reduceLE, Int.reduceNeg, Int.reduceAdd, Int.reduceSub, Int.reduceToNat]) | (with_reducible first | refine W1 ?_ | refine W2 ?_ | refine W3 ?_ | refine W4 ?_ | refine W5 ?_ | refine W6 ?_ | refine W7 ?_ | refine W8 ?_ | refine W9 ?_))
  refine (comp_ok l cons (by omega) (by omega) _).mono ?_
  rintro _ σ ⟨rfl | ⟨hF, hne, rfl⟩, rfl⟩
  · refine raw ?_
    repeat (first | (with_reducible refine unr ?_; try simp only [ZZ, ↓reduceIte, Nat.reduceEqDiff, Nat.reduceAdd, Nat.reduceLeDiff, reduceCtorEq, Int.reduceEq, Int.reduceLT, Int.reduceLE, Int.reduceNeg, Int.reduceAdd, Int.reduceSub, Int.reduceToNat]) | (with_reducible first | refine W1 ?_ | refine W2 ?_ | refine W3 ?_ | refine W4 ?_ | refine W5 ?_ | refine W6 ?_ | refine W7 ?_ | refine W8 ?_ | refine W9 ?_))
    refine (code_known _).mono ?_
    rintro _ _ ⟨rfl, rfl⟩
    refine raw ?_
    repeat (first | (with_reducible refine unr ?_; try simp only [ZZ, ↓reduceIte, Nat.reduceEqDiff, Nat.reduceAdd, Nat.reduceLeDiff, reduceCtorEq, Int.reduceEq, Int.reduceLT, Int.reduceLE, Int.reduceNeg, Int.reduceAdd, Int.reduceSub, Int.reduceToNat]) | (with_reducible first | refine W1 ?_ | refine W2 ?_ | refine W3 ?_ | refine W4 ?_ | refine W5 ?_ | refine W6 ?_ | refine W7 ?_ | refine W8 ?_ | refine W9 ?_))
    exact FP.same (.refl _) rfl (.bool _)
  have hcc := comp_cert l cons hF hne (by omega) (by omega)
  have hcl : (compS l cons).length = l.length + cons.length + 11 := by simp [compS, consS_len, opsS]; omega
  generalize compS l cons = cs at hcc hcl
  refine raw ?_
  repeat (first | (with_reducible refine unr ?_; try simp only [ZZ, ↓reduceIte, Nat.reduceEqDiff, Nat.reduceAdd, Nat.reduceLeDiff, reduceCtorEq, Int.reduceEq, Int.reduceLT, Int.reduceLE, Int.reduceNeg, Int.reduceAdd, Int.reduceSub, Int.reduceToNat]) | (with_reducible first | refine W1 ?_ | refine W2 ?_ | refine W3 ?_ | refine W4 ?_ | refine W5 ?_ | refine W6 ?_ | refine W7 ?_ | refine W8 ?_ | refine W9 ?_))
  refine AWP_while [5, 7] (fun i : Nat => cs.length - i) (fun i => [.list (cs.map codeC), .int .i64 i]) (fun i t => σ = t ∧ i ≤ cs.length) 0 ⟨rfl, by simp⟩ ?_ ?_
  · refine raw ?_
    repeat (first | (with_reducible refine unr ?_; try simp only [ZZ, ↓reduceIte, Nat.reduceEqDiff, Nat.reduceAdd, Nat.reduceLeDiff, reduceCtorEq, Int.reduceEq, Int.reduceLT, Int.reduceLE, Int.reduceNeg, Int.reduceAdd, Int.reduceSub, Int.reduceToNat]) | (with_reducible first | refine W1 ?_ | refine W2 ?_ | refine W3 ?_ | refine W4 ?_ | refine W5 ?_ | refine W6 ?_ | refine W7 ?_ | refine W8 ?_ | refine W9 ?_))
    rfl
  rintro i _ ⟨rfl, hi⟩
  have hw := wrap_succ (i := i) (by omega)
  by_cases hil : i < cs.length
  · have hil' : (i : Int) < (cs.length : Int) := by omega
    obtain ⟨x, hx⟩ : ∃ x, cs[i]? = some x := ⟨_, List.getElem?_eq_getElem hil⟩
    have hg : (cs.map codeC)[i]? = some (codeC x) := by simp [hx]
    obtain ⟨h1, h2⟩ := hcc x (List.mem_of_getElem? hx)
    refine raw ?_
    repeat (first | (with_reducible refine unr ?_; try simp only [ZZ, ↓reduceIte, Nat.reduceEqDiff, Nat.reduceAdd, Nat.reduceLeDiff, reduceCtorEq, Int.reduceEq, Int.reduceLT, Int.reduceLE, Int.reduceNeg, Int.reduceAdd, Int.reduceSub, Int.reduceToNat, hil', hg, codeC_len, codeC_t4]) | (with_reducible first | refine W1 ?_ | refine W2 ?_ | refine W3 ?_ | refine W4 ?_ | refine W5 ?_ | refine W6 ?_ | refine W7 ?_ | refine W8 ?_ | refine W9 ?_))
    refine (sound_ok x h1 h2 _).mono ?_
    rintro _ _ ⟨rfl, rfl⟩
    refine raw ?_
    repeat (first | (with_reducible refine unr ?_; try simp only [ZZ, ↓reduceIte, Nat.reduceEqDiff, Nat.reduceAdd, Nat.reduceLeDiff, reduceCtorEq, Int.reduceEq, Int.reduceLT, Int.reduceLE, Int.reduceNeg, Int.reduceAdd, Int.reduceSub, Int.reduceToNat, hw]) | (with_reducible first | refine W1 ?_ | refine W2 ?_ | refine W3 ?_ | refine W4 ?_ | refine W5 ?_ | refine W6 ?_ | refine W7 ?_ | refine W8 ?_ | refine W9 ?_))
    exact ⟨i + 1, rfl, by omega, by omega⟩
  · have hil' : ¬ (i : Int) < (cs.length : Int) := by omega
    have hpos : (0 : Int) < (cs.length : Int) := by omega
    refine raw ?_
    repeat (first | (with_reducible refine unr ?_; try simp only [ZZ, ↓reduceIte, Nat.reduceEqDiff, Nat.reduceAdd, Nat.reduceLeDiff, reduceCtorEq, Int.reduceEq, Int.reduceLT, Int.reduceLE, Int.reduceNeg, Int.reduceAdd, Int.reduceSub, Int.reduceToNat, hil', hpos]) | (with_reducible first | refine W1 ?_ | refine W2 ?_ | refine W3 ?_ | refine W4 ?_ | refine W5 ?_ | refine W6 ?_ | refine W7 ?_ | refine W8 ?_ | refine W9 ?_))
    refine (code_known _).mono ?_
    rintro _ _ ⟨rfl, rfl⟩
    refine raw ?_
    repeat (first | (with_reducible refine unr ?_; try simp only [ZZ, ↓reduceIte, Nat.reduceEqDiff, Nat.reduceAdd, Nat.reduceLeDiff, reduceCtorEq, Int.reduceEq, Int.reduceLT, Int.reduceLE, Int.reduceNeg, Int.reduceAdd, Int.reduceSub, Int.reduceToNat]) | (with_reducible first | refine W1 ?_ | refine W2 ?_ | refine W3 ?_ | refine W4 ?_ | refine W5 ?_ | refine W6 ?_ | refine W7 ?_ | refine W8 ?_ | refine W9 ?_))
    exact FP.same (.refl _) rfl (.bool _)
end Go.Proofs.Ytjjbjibbjbbeaaa
/- Core expressions and definitions as arguments, with their bulk. -/
set_option linter.unusedVariables false
namespace Go.Proofs.Ytjjbjibbjbbeaaa
open Go.AL
section
variable {H : Type}
theorem one_le (d : DataW H) : 1 ≤ Rows.uptoBulk d := by
  cases d with
  | lit l => cases l <;> simp [Rows.uptoBulk]
  | nil => simp [Rows.uptoBulk]
  | ptr d => simp [Rows.uptoBulk]
  | slice elems spare => simp [Rows.uptoBulk]
  | agg parts => simp [Rows.uptoBulk]
  | iface t d => simp [Rows.uptoBulk]
  | map entries => simp [Rows.uptoBulk]
  | held h => simp [Rows.uptoBulk]
variable {P : Program} {t : TypeId} {cs : List AV} {d : DataW H}
theorem avdB_str (hu : P.underlying t = some .string) (h : AVD P t cs d) : ∃ s, cs = [.str s] ∧ s.size + 1 ≤ Rows.uptoBulk d := by
  cases h with
  | int h hw => rw [hu] at h; cases h
  | bool h => rw [hu] at h; cases h
  | str h hs => exact ⟨_, rfl, by simp [Rows.uptoBulk]⟩
  | nilp h => rw [hu] at h; cases h
  | ptr h _ => rw [hu] at h; cases h
  | nils h => rw [hu] at h; cases h
  | list h _ _ _ => rw [hu] at h; cases h
  | struct h _ _ _ => rw [hu] at h; cases h
  | other h => simp [okType, hu] at h
theorem avdB_slice {e : TypeId} (hu : P.underlying t = some (.slice e)) (hc : 0 < P.cellsOf e) (h : AVD P t cs d) :
    ∃ (es : List (List AV)) (ds : List (DataW H)), cs = [.list es] ∧ es.length = ds.length ∧ Rows.uptoBulkAll ds + 1 ≤ Rows.uptoBulk d ∧ (∀ x, x ∈ ds → SizeOf.sizeOf x < SizeOf.sizeOf d) ∧ ∀ (i : Nat) (c : List AV) (x : DataW H), es[i]? = some c → ds[i]? = some x → AVD P e c x := by
  cases h with
  | int h hw => rw [hu] at h; cases h
  | bool h => rw [hu] at h; cases h
  | str h _ => rw [hu] at h; cases h
  | nilp h => rw [hu] at h; cases h
  | ptr h _ => rw [hu] at h; cases h
  | nils h => exact ⟨[], [], rfl, rfl, by simp [Rows.uptoBulk, Rows.uptoBulkAll], by simp, by simp⟩
  | list h h1 h2 h3 =>
    rw [hu] at h; cases h
    rename_i ds rest
    refine ⟨_, ds, rfl, h1, by simp only [Rows.uptoBulk]; omega, fun x hx => ?_, h3⟩
    have := List.sizeOf_lt_of_mem hx
    simp only [DataW.slice.sizeOf_spec]; omega
  | struct h _ _ _ => rw [hu] at h; cases h
  | other h => simp [okType, hu, hc] at h
theorem avdB_struct {fs : Array Field} (hu : P.underlying t = some (.struct fs)) (h : AVD P t cs d) :
    cs.length = P.cellsOf t ∧ ∃ ds : List (DataW H), ds.length = fs.size ∧ Rows.uptoBulkAll ds + 1 ≤ Rows.uptoBulk d ∧ (∀ x, x ∈ ds → SizeOf.sizeOf x < SizeOf.sizeOf d) ∧
      ∀ (i : Nat) (f : Field) (x : DataW H), fs[i]? = some f → ds[i]? = some x → AVD P f.type ((cs.drop f.offset).take (P.cellsOf f.type)) x := by
  cases h with
  | int h hw => rw [hu] at h; cases h
  | bool h => rw [hu] at h; cases h
  | str h _ => rw [hu] at h; cases h
  | nilp h => rw [hu] at h; cases h
  | ptr h _ => rw [hu] at h; cases h
  | nils h => rw [hu] at h; cases h
  | list h _ _ _ => rw [hu] at h; cases h
  | struct h h1 h2 h3 =>
    rw [hu] at h; cases h
    rename_i ds
    refine ⟨h1, ds, h2, by simp only [Rows.uptoBulk]; omega, fun x hx => ?_, h3⟩
    have := List.sizeOf_lt_of_mem hx
    simp only [DataW.agg.sizeOf_spec]; omega
  | other h => simp [okType, hu] at h
theorem dint {cs : List AV} {d : DataW H} (h : AVD Try.prog 3 cs d) : ∃ n, cs = [.int .i64 n] := by
  obtain ⟨n, h, _⟩ := avd_int Try.underlying3 h; exact ⟨n, h⟩
theorem dint2 {cs : List AV} {d : DataW H} (h : AVD Try.prog 2 cs d) : ∃ n, cs = [.int .i64 n] := by
  obtain ⟨n, h, _⟩ := avd_int Try.underlying2 h; exact ⟨n, h⟩
theorem k2 : Try.prog.cellsOf 2 = 1 := by kernel_rfl
theorem k3 : Try.prog.cellsOf 3 = 1 := by kernel_rfl
theorem k9 : Try.prog.cellsOf 9 = 1 := by kernel_rfl
theorem k48 : Try.prog.cellsOf 48 = 1 := by kernel_rfl
theorem k49 : Try.prog.cellsOf 49 = 1 := by kernel_rfl
theorem k50 : Try.prog.cellsOf 50 = 1 := by kernel_rfl
theorem k51 : Try.prog.cellsOf 51 = 1 := by kernel_rfl
theorem k52 : Try.prog.cellsOf 52 = 1 := by kernel_rfl
theorem k54 : Try.prog.cellsOf 54 = 9 := by kernel_rfl
theorem k113 : Try.prog.cellsOf 113 = 13 := by kernel_rfl
theorem k114 : Try.prog.cellsOf 114 = 10 := by kernel_rfl
theorem k116 : Try.prog.cellsOf 116 = 10 := by kernel_rfl
theorem bulk_all {α : Type} {f : α → List AV} {w : α → Nat} {T : List α → Nat} (hT0 : T [] = 0) (hT : ∀ x l, T (x :: l) = w x + T l) {Q : List AV → DataW H → Prop} :
    ∀ (es : List (List AV)) (ds : List (DataW H)), es.length = ds.length → (∀ (i : Nat) c x, es[i]? = some c → ds[i]? = some x → ∃ a, c = f a ∧ w a ≤ Rows.uptoBulk x) → ∃ l : List α, es = l.map f ∧ T l ≤ Rows.uptoBulkAll ds
  | [], [], _, _ => ⟨[], rfl, by simp [hT0]⟩
  | c :: es, x :: ds, hl, h => by
    obtain ⟨a, ha, hw⟩ := h 0 c x rfl rfl
    obtain ⟨l, hl2, hb⟩ := bulk_all (α := α) (f := f) (w := w) hT0 hT (Q := Q) es ds (by simpa using hl) fun i c x h1 h2 => h (i + 1) c x (by simpa using h1) (by simpa using h2)
    exact ⟨a :: l, by simp [ha, hl2], by rw [hT, Rows.uptoBulkAll]; omega⟩
theorem dtexts {cs : List AV} {d : DataW H} (h : AVD Try.prog 48 cs d) : ∃ l, cs = [strs l] ∧ l.length + 1 ≤ Rows.uptoBulk d := by
  obtain ⟨es, ds, rfl, hl, hb, _, he⟩ := avdB_slice Try.underlying48 (by rw [k9]; decide) h
  obtain ⟨l, rfl, hw⟩ := bulk_all (f := fun x : ByteArray => [AV.str x]) (w := fun _ => 1) (T := List.length) rfl (fun x l => by simp; omega) (Q := fun _ _ => True) es ds hl fun i c x h1 h2 => by
    obtain ⟨s, rfl, hs⟩ := avdB_str Try.underlying9 (he i c x h1 h2)
    exact ⟨s, rfl, one_le x⟩
  exact ⟨l, rfl, by omega⟩
theorem at9 {α : Type} : ∀ {l : List α}, l.length = 9 → ∃ a b c d e f g h i, l = [a, b, c, d, e, f, g, h, i]
  | [a, b, c, d, e, f, g, h, i], _ => ⟨a, b, c, d, e, f, g, h, i, rfl⟩
theorem at10 {α : Type} {l : List α} (h : l.length = 10) : ∃ a r, l = a :: r ∧ r.length = 9 := by
  cases l with
  | nil => simp at h
  | cons a r => exact ⟨a, r, rfl, by simpa using h⟩
set_option maxRecDepth 100000 in
theorem dcore : ∀ (n : Nat) {cs : List AV} {d : DataW H}, SizeOf.sizeOf d < n → AVD Try.prog 54 cs d → ∃ x : Cr, cs = x.cells ∧ x.bulk + 1 ≤ Rows.uptoBulk d
  | 0, _, _, hn, _ => by omega
  | n + 1, cs, d, hn, h => by
    obtain ⟨hl, ds, hdl, hb, hsz, hf⟩ := avdB_struct Try.underlying54 h
    rw [k54] at hl
    obtain ⟨a0, a1, a2, a3, a4, a5, a6, a7, a8, rfl⟩ := at9 hl
    obtain ⟨d0, d1, d2, d3, d4, d5, d6, d7, d8, rfl⟩ := at9 (show ds.length = 9 from hdl)
    have h0 := hf 0 _ d0 rfl rfl
    have h1 := hf 1 _ d1 rfl rfl
    have h2 := hf 2 _ d2 rfl rfl
    have h3 := hf 3 _ d3 rfl rfl
    have h4 := hf 4 _ d4 rfl rfl
    have h5 := hf 5 _ d5 rfl rfl
    have h6 := hf 6 _ d6 rfl rfl
    have h7 := hf 7 _ d7 rfl rfl
    have h8 := hf 8 _ d8 rfl rfl
    have s5 := hsz d5 (by simp)
    have s6 := hsz d6 (by simp)
    have s7 := hsz d7 (by simp)
    have s8 := hsz d8 (by simp)
    change AVD Try.prog 3 (List.take (Try.prog.cellsOf 3) (List.drop 0 [a0, a1, a2, a3, a4, a5, a6, a7, a8])) d0 at h0
    change AVD Try.prog 9 (List.take (Try.prog.cellsOf 9) (List.drop 1 [a0, a1, a2, a3, a4, a5, a6, a7, a8])) d1 at h1
    change AVD Try.prog 2 (List.take (Try.prog.cellsOf 2) (List.drop 2 [a0, a1, a2, a3, a4, a5, a6, a7, a8])) d2 at h2
    change AVD Try.prog 3 (List.take (Try.prog.cellsOf 3) (List.drop 3 [a0, a1, a2, a3, a4, a5, a6, a7, a8])) d3 at h3
    change AVD Try.prog 48 (List.take (Try.prog.cellsOf 48) (List.drop 4 [a0, a1, a2, a3, a4, a5, a6, a7, a8])) d4 at h4
    change AVD Try.prog 49 (List.take (Try.prog.cellsOf 49) (List.drop 5 [a0, a1, a2, a3, a4, a5, a6, a7, a8])) d5 at h5
    change AVD Try.prog 50 (List.take (Try.prog.cellsOf 50) (List.drop 6 [a0, a1, a2, a3, a4, a5, a6, a7, a8])) d6 at h6
    change AVD Try.prog 51 (List.take (Try.prog.cellsOf 51) (List.drop 7 [a0, a1, a2, a3, a4, a5, a6, a7, a8])) d7 at h7
    change AVD Try.prog 52 (List.take (Try.prog.cellsOf 52) (List.drop 8 [a0, a1, a2, a3, a4, a5, a6, a7, a8])) d8 at h8
    simp only [k2, k3, k9, k48, k49, k50, k51, k52, List.drop_zero, List.drop_succ_cons, List.take_succ_cons, List.take_zero] at h0 h1 h2 h3 h4 h5 h6 h7 h8
    obtain ⟨k, e0⟩ := dint h0
    obtain ⟨nm, e1, b1⟩ := avdB_str Try.underlying9 h1
    obtain ⟨m, e2⟩ := dint2 h2
    obtain ⟨ar, e3⟩ := dint h3
    obtain ⟨ps, e4, b4⟩ := dtexts h4
    obtain ⟨es5, ds5, e5, l5, b5, z5, q5⟩ := avdB_slice Try.underlying49 (by rw [k54]; decide) h5
    obtain ⟨es6, ds6, e6, l6, b6, z6, q6⟩ := avdB_slice Try.underlying50 (by rw [k113]; decide) h6
    obtain ⟨es7, ds7, e7, l7, b7, z7, q7⟩ := avdB_slice Try.underlying51 (by rw [k114]; decide) h7
    obtain ⟨es8, ds8, e8, l8, b8, z8, q8⟩ := avdB_slice Try.underlying52 (by rw [k116]; decide) h8
    obtain ⟨gs, rfl, w5⟩ := bulk_all (f := Cr.cells) (w := Cr.bulk) (T := Cr.bulkL) (by rw [Cr.bulkL]) (fun x l => by rw [Cr.bulkL]) (Q := fun _ _ => True) es5 ds5 l5 fun i c x g1 g2 => by
      have := z5 x (List.mem_of_getElem? g2)
      obtain ⟨y, hy, hw⟩ := dcore n (by omega) (q5 i c x g1 g2)
      exact ⟨y, hy, by omega⟩
    obtain ⟨al, rfl, w6⟩ := bulk_all (f := altC) (w := fun y => y.1.ps.length + y.2.bulk) (T := Cr.bulkA) (by rw [Cr.bulkA]) (fun x l => by obtain ⟨g, y⟩ := x; rw [Cr.bulkA]) (Q := fun _ _ => True) es6 ds6 l6 fun i c x g1 g2 => by
      have hzx := z6 x (List.mem_of_getElem? g2)
      obtain ⟨jl, dd, jd, jb, jz, jf⟩ := avdB_struct Try.underlying113 (q6 i c x g1 g2)
      rw [k113] at jl
      obtain ⟨c0, c1, c2, c3, r, rfl, hr⟩ : ∃ c0 c1 c2 c3 r, c = c0 :: c1 :: c2 :: c3 :: r ∧ r.length = 9 := by
        match c, jl with
        | c0 :: c1 :: c2 :: c3 :: r, jl => exact ⟨c0, c1, c2, c3, r, rfl, by simpa using jl⟩
      obtain ⟨t0, t1, t2, t3, t4, rfl⟩ := len5' (show dd.length = 5 from jd)
      have u0 := jf 0 _ t0 rfl rfl
      have u1 := jf 1 _ t1 rfl rfl
      have u2 := jf 2 _ t2 rfl rfl
      have u3 := jf 3 _ t3 rfl rfl
      have u4 := jf 4 _ t4 rfl rfl
      have y4 := jz t4 (by simp)
      change AVD Try.prog 3 (List.take (Try.prog.cellsOf 3) (List.drop 0 (c0 :: c1 :: c2 :: c3 :: r))) t0 at u0
      change AVD Try.prog 9 (List.take (Try.prog.cellsOf 9) (List.drop 1 (c0 :: c1 :: c2 :: c3 :: r))) t1 at u1
      change AVD Try.prog 2 (List.take (Try.prog.cellsOf 2) (List.drop 2 (c0 :: c1 :: c2 :: c3 :: r))) t2 at u2
      change AVD Try.prog 48 (List.take (Try.prog.cellsOf 48) (List.drop 3 (c0 :: c1 :: c2 :: c3 :: r))) t3 at u3
      change AVD Try.prog 54 (List.take (Try.prog.cellsOf 54) (List.drop 4 (c0 :: c1 :: c2 :: c3 :: r))) t4 at u4
      simp only [k2, k3, k9, k48, k54, List.drop_zero, List.drop_succ_cons, List.take_succ_cons, List.take_zero] at u0 u1 u2 u3 u4
      rw [List.take_of_length_le (by omega)] at u4
      obtain ⟨v0, x0⟩ := dint u0
      obtain ⟨v1, x1, _⟩ := avdB_str Try.underlying9 u1
      obtain ⟨v2, x2⟩ := dint2 u2
      obtain ⟨v3, x3, x3b⟩ := dtexts u3
      obtain ⟨y, hy, hw⟩ := dcore n (by omega) u4
      simp only [List.cons.injEq, and_true] at x0 x1 x2 x3
      subst x0 x1 x2 x3 hy
      refine ⟨(⟨v0, v1, v2, v3⟩, y), rfl, ?_⟩
      simp only [Rows.uptoBulkAll] at jb
      simp only
      omega
    obtain ⟨bs, rfl, w7⟩ := bulk_all (f := bindC) (w := fun y => 1 + y.2.bulk) (T := Cr.bulkB) (by rw [Cr.bulkB]) (fun x l => by obtain ⟨g, y⟩ := x; rw [Cr.bulkB]) (Q := fun _ _ => True) es7 ds7 l7 fun i c x g1 g2 => by
      have hzx := z7 x (List.mem_of_getElem? g2)
      obtain ⟨jl, dd, jd, jb, jz, jf⟩ := avdB_struct Try.underlying114 (q7 i c x g1 g2)
      rw [k114] at jl
      obtain ⟨c0, r, rfl, hr⟩ := at10 jl
      obtain ⟨t0, t1, rfl⟩ := len2 (show dd.length = 2 from jd)
      have u0 := jf 0 _ t0 rfl rfl
      have u1 := jf 1 _ t1 rfl rfl
      have y4 := jz t1 (by simp)
      change AVD Try.prog 9 (List.take (Try.prog.cellsOf 9) (List.drop 0 (c0 :: r))) t0 at u0
      change AVD Try.prog 54 (List.take (Try.prog.cellsOf 54) (List.drop 1 (c0 :: r))) t1 at u1
      simp only [k9, k54, List.drop_zero, List.drop_succ_cons, List.take_succ_cons, List.take_zero] at u0 u1
      rw [List.take_of_length_le (by omega)] at u1
      obtain ⟨v0, x0, x0b⟩ := avdB_str Try.underlying9 u0
      obtain ⟨y, hy, hw⟩ := dcore n (by omega) u1
      simp only [List.cons.injEq, and_true] at x0
      subst x0 hy
      refine ⟨(v0, y), rfl, ?_⟩
      simp only [Rows.uptoBulkAll] at jb
      simp only
      omega
    obtain ⟨pk, rfl, w8⟩ := bulk_all (f := pickC) (w := fun y => y.2.bulk) (T := Cr.bulkP) (by rw [Cr.bulkP]) (fun x l => by obtain ⟨g, y⟩ := x; rw [Cr.bulkP]) (Q := fun _ _ => True) es8 ds8 l8 fun i c x g1 g2 => by
      have hzx := z8 x (List.mem_of_getElem? g2)
      obtain ⟨jl, dd, jd, jb, jz, jf⟩ := avdB_struct Try.underlying116 (q8 i c x g1 g2)
      rw [k116] at jl
      obtain ⟨c0, r, rfl, hr⟩ := at10 jl
      obtain ⟨t0, t1, rfl⟩ := len2 (show dd.length = 2 from jd)
      have u0 := jf 0 _ t0 rfl rfl
      have u1 := jf 1 _ t1 rfl rfl
      have y4 := jz t1 (by simp)
      change AVD Try.prog 3 (List.take (Try.prog.cellsOf 3) (List.drop 0 (c0 :: r))) t0 at u0
      change AVD Try.prog 54 (List.take (Try.prog.cellsOf 54) (List.drop 1 (c0 :: r))) t1 at u1
      simp only [k3, k54, List.drop_zero, List.drop_succ_cons, List.take_succ_cons, List.take_zero] at u0 u1
      rw [List.take_of_length_le (by omega)] at u1
      obtain ⟨v0, x0⟩ := dint u0
      obtain ⟨y, hy, hw⟩ := dcore n (by omega) u1
      simp only [List.cons.injEq, and_true] at x0
      subst x0 hy
      refine ⟨(v0, y), rfl, ?_⟩
      simp only [Rows.uptoBulkAll] at jb
      simp only
      omega
    simp only [List.cons.injEq, and_true] at e0 e1 e2 e3 e4 e5 e6 e7 e8
    subst e0 e1 e2 e3 e4 e5 e6 e7 e8
    refine ⟨.mk k nm m ar ps gs al bs pk, by rw [Cr.cells_eq], ?_⟩
    simp only [Rows.uptoBulkAll] at hb
    have := one_le d0; have := one_le d2; have := one_le d3
    rw [Cr.bulk]
    omega
end
end Go.Proofs.Ytjjbjibbjbbeaaa
/- Supercombinators as arguments, with their bulk. -/
set_option linter.unusedVariables false
namespace Go.Proofs.Ytjjbjibbjbbeaaa
open Go.AL
section
variable {H : Type}
theorem k71 : Try.prog.cellsOf 71 = 11 := by kernel_rfl
theorem at11 {α : Type} {l : List α} (h : l.length = 11) : ∃ a b r, l = a :: b :: r ∧ r.length = 9 := by
  match l, h with
  | a :: b :: r, h => exact ⟨a, b, r, rfl, by simpa using h⟩
theorem at3 {α : Type} : ∀ {l : List α}, l.length = 3 → ∃ a b c, l = [a, b, c]
  | [a, b, c], _ => ⟨a, b, c, rfl⟩
theorem dsup {cs : List AV} {d : DataW H} (h : AVD Try.prog 71 cs d) : ∃ x : Sup, cs = supC x ∧ x.nm.size + 1 + x.ps.length + x.bd.bulk ≤ Rows.uptoBulk d := by
  obtain ⟨jl, dd, jd, jb, jz, jf⟩ := avdB_struct Try.underlying71 h
  rw [k71] at jl
  obtain ⟨c0, c1, r, rfl, hr⟩ := at11 jl
  obtain ⟨t0, t1, t2, rfl⟩ := at3 (show dd.length = 3 from jd)
  have u0 := jf 0 _ t0 rfl rfl
  have u1 := jf 1 _ t1 rfl rfl
  have u2 := jf 2 _ t2 rfl rfl
  change AVD Try.prog 9 (List.take (Try.prog.cellsOf 9) (List.drop 0 (c0 :: c1 :: r))) t0 at u0
  change AVD Try.prog 48 (List.take (Try.prog.cellsOf 48) (List.drop 1 (c0 :: c1 :: r))) t1 at u1
  change AVD Try.prog 54 (List.take (Try.prog.cellsOf 54) (List.drop 2 (c0 :: c1 :: r))) t2 at u2
  simp only [k9, k48, k54, List.drop_zero, List.drop_succ_cons, List.take_succ_cons, List.take_zero] at u0 u1 u2
  rw [List.take_of_length_le (by omega)] at u2
  obtain ⟨v0, x0, x0b⟩ := avdB_str Try.underlying9 u0
  obtain ⟨v1, x1, x1b⟩ := dtexts u1
  obtain ⟨y, hy, hw⟩ := dcore _ (Nat.lt_succ_self _) u2
  simp only [List.cons.injEq, and_true] at x0 x1
  subst x0 x1 hy
  refine ⟨⟨v0, v1, y⟩, rfl, ?_⟩
  simp only [Rows.uptoBulkAll] at jb
  simp only
  omega
theorem dsups {cs : List AV} {d : DataW H} (h : AVD Try.prog 59 cs d) : ∃ l : List Sup, cs = [.list (l.map supC)] ∧ bulkS l + 1 ≤ Rows.uptoBulk d := by
  obtain ⟨es, ds, rfl, hl, hb, _, he⟩ := avdB_slice Try.underlying59 (by rw [k71]; decide) h
  obtain ⟨l, rfl, hw⟩ := bulk_all (f := supC) (w := fun x => x.nm.size + 1 + x.ps.length + x.bd.bulk) (T := bulkS) rfl (fun x l => by rw [bulkS]) (Q := fun _ _ => True) es ds hl fun i c x h1 h2 => dsup (he i c x h1 h2)
  exact ⟨l, rfl, by omega⟩
end
end Go.Proofs.Ytjjbjibbjbbeaaa
/- Constructors as arguments, with their bulk. -/
set_option linter.unusedVariables false
namespace Go.Proofs.Ytjjbjibbjbbeaaa
open Go.AL
section
variable {H : Type}
theorem k87 : Try.prog.cellsOf 87 = 5 := by kernel_rfl
theorem k33 : Try.prog.cellsOf 33 = 4 := by kernel_rfl
theorem k22 : Try.prog.cellsOf 22 = 1 := by kernel_rfl
theorem at5 {α : Type} : ∀ {l : List α}, l.length = 5 → ∃ a b c d e, l = [a, b, c, d, e]
  | [a, b, c, d, e], _ => ⟨a, b, c, d, e, rfl⟩
theorem bulk_len : ∀ ds : List (DataW H), ds.length ≤ Rows.uptoBulkAll ds
  | [] => by simp
  | d :: r => by have := bulk_len r; have := one_le d; rw [Rows.uptoBulkAll, List.length_cons]; omega
theorem dcon {cs : List AV} {d : DataW H} (h : AVD Try.prog 87 cs d) : ∃ x : Con5, cs = con5C x ∧ 1 + x.fs.length ≤ Rows.uptoBulk d := by
  obtain ⟨jl, dd, jd, jb, jz, jf⟩ := avdB_struct Try.underlying87 h
  rw [k87] at jl
  obtain ⟨c0, c1, c2, c3, c4, rfl⟩ := at5 jl
  obtain ⟨t0, t1, t2, t3, t4, rfl⟩ := at5 (show dd.length = 5 from jd)
  have u0 := jf 0 _ t0 rfl rfl
  have u1 := jf 1 _ t1 rfl rfl
  have u2 := jf 2 _ t2 rfl rfl
  have u3 := jf 3 _ t3 rfl rfl
  have u4 := jf 4 _ t4 rfl rfl
  change AVD Try.prog 9 (List.take (Try.prog.cellsOf 9) (List.drop 0 [c0, c1, c2, c3, c4])) t0 at u0
  change AVD Try.prog 9 (List.take (Try.prog.cellsOf 9) (List.drop 1 [c0, c1, c2, c3, c4])) t1 at u1
  change AVD Try.prog 3 (List.take (Try.prog.cellsOf 3) (List.drop 2 [c0, c1, c2, c3, c4])) t2 at u2
  change AVD Try.prog 3 (List.take (Try.prog.cellsOf 3) (List.drop 3 [c0, c1, c2, c3, c4])) t3 at u3
  change AVD Try.prog 22 (List.take (Try.prog.cellsOf 22) (List.drop 4 [c0, c1, c2, c3, c4])) t4 at u4
  simp only [k9, k3, k22, List.drop_zero, List.drop_succ_cons, List.take_succ_cons, List.take_zero] at u0 u1 u2 u3 u4
  obtain ⟨v0, x0, x0b⟩ := avdB_str Try.underlying9 u0
  obtain ⟨v1, x1, x1b⟩ := avdB_str Try.underlying9 u1
  obtain ⟨v2, x2⟩ := dint u2
  obtain ⟨v3, x3⟩ := dint u3
  obtain ⟨es, ds, x4, hl, hb, _, he⟩ := avdB_slice Try.underlying22 (by rw [k33]; decide) u4
  simp only [List.cons.injEq, and_true] at x0 x1 x2 x3 x4
  subst x0 x1 x2 x3 x4
  refine ⟨⟨v0, v1, v2, v3, es⟩, rfl, ?_⟩
  have := bulk_len ds
  simp only [Rows.uptoBulkAll] at jb
  simp only
  omega
theorem dcons {cs : List AV} {d : DataW H} (h : AVD Try.prog 73 cs d) : ∃ l : List Con5, cs = [.list (l.map con5C)] ∧ bulkC l + 1 ≤ Rows.uptoBulk d := by
  obtain ⟨es, ds, rfl, hl, hb, _, he⟩ := avdB_slice Try.underlying73 (by rw [k87]; decide) h
  obtain ⟨l, rfl, hw⟩ := bulk_all (f := con5C) (w := fun x => 1 + x.fs.length) (T := bulkC) rfl (fun x l => by rw [bulkC]) (Q := fun _ _ => True) es ds hl fun i c x h1 h2 => dcon (he i c x h1 h2)
  exact ⟨l, rfl, by omega⟩
end
end Go.Proofs.Ytjjbjibbjbbeaaa
