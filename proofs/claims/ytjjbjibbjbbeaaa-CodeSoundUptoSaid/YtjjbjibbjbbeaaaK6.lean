/- A part of the proof of the claim: the abstract layer, the contracts of the functions, the law (no condition of its own). -/
import Derived.Test.YtjjbjibbjbbeaaaK5
/- Codes of values, as plain functions: lengths, parts, jumps that are landed. -/
set_option linter.unusedVariables false
set_option linter.unusedSimpArgs false
namespace Go.AL
section
variable (g : Gl) (O : ByteArray → Int)
noncomputable def partA (lv : Lv) (d : Int) (last : Bool) (base : Nat) (e : Int) (a : AltH × Cr) : List Ins :=
  (if a.1.k = 1 then ik 12 a.1.ps.length else ik 6 1) :: valS g O (withS lv a.1.ps (d + a.1.ps.length - 1) (-1)) (d + a.1.ps.length) last (base + 1) a.2 ++ (if a.1.k = 1 ∧ last = false then [ik 7 a.1.ps.length] else []) ++ (if last then [] else [ik 15 e])
noncomputable def partP (lv : Lv) (d : Int) (last : Bool) (base : Nat) (e : Int) (x : Cr) : List Ins := valS g O lv d last base x ++ (if last then [] else [ik 15 e])
theorem partA_len (lv : Lv) (d : Int) (last : Bool) (base : Nat) (e : Int) (a : AltH × Cr) : (partA g O lv d last base e a).length = (partA g O lv d last base 0 a).length := by cases last <;> simp [partA]
theorem partP_len (lv : Lv) (d : Int) (last : Bool) (base : Nat) (e : Int) (x : Cr) : (partP g O lv d last base e x).length = (valS g O lv d last base x).length + (if last then 0 else 1) := by cases last <;> simp [partP]
theorem altS_cons (lv : Lv) (d : Int) (last : Bool) (base e : Nat) (a : AltH × Cr) (r : List (AltH × Cr)) : altS g O lv d last base e (a :: r) = partA g O lv d last base e a ++ altS g O lv d last (base + (partA g O lv d last base 0 a).length) e r := by obtain ⟨h, x⟩ := a; rw [altS]; rfl
theorem altJ_cons (lv : Lv) (d : Int) (last : Bool) (base : Nat) (a : AltH × Cr) (r : List (AltH × Cr)) : altJ g O lv d last base (a :: r) = (if a.1.k = 1 then [(conIdx g a.1.nm, (base : Int))] else if a.1.k = 2 then [(a.1.n, (base : Int))] else []) ++ altJ g O lv d last (base + (partA g O lv d last base 0 a).length) r := by obtain ⟨h, x⟩ := a; rw [altJ]; rfl
theorem altK_cons (lv : Lv) (d : Int) (last : Bool) (base : Nat) (K : Int) (a : AltH × Cr) (r : List (AltH × Cr)) : altK g O lv d last base K (a :: r) = altK g O lv d last (base + (partA g O lv d last base 0 a).length) (if a.1.k = 1 ∨ a.1.k = 2 then K else (base : Int)) r := by obtain ⟨h, x⟩ := a; rw [altK]; rfl
theorem pickS_cons (lv : Lv) (d : Int) (last : Bool) (base e : Nat) (a : Int × Cr) (r : List (Int × Cr)) : pickS g O lv d last base e (a :: r) = partP g O lv d last base e a.2 ++ pickS g O lv d last (base + (partP g O lv d last base 0 a.2).length) e r := by obtain ⟨h, x⟩ := a; rw [pickS, partP_len, Nat.add_assoc]; rfl
theorem pickJ_cons (lv : Lv) (d : Int) (last : Bool) (base : Nat) (a : Int × Cr) (r : List (Int × Cr)) : pickJ g O lv d last base (a :: r) = (a.1, (base : Int)) :: pickJ g O lv d last (base + (partP g O lv d last base 0 a.2).length) r := by obtain ⟨h, x⟩ := a; rw [pickJ, partP_len, Nat.add_assoc]
theorem altS_app (lv : Lv) (d : Int) (last : Bool) : ∀ (l m : List (AltH × Cr)) (base e : Nat), altS g O lv d last base e (l ++ m) = altS g O lv d last base e l ++ altS g O lv d last (base + (altS g O lv d last base 0 l).length) e m
  | [], m, base, e => by simp [altS]
  | a :: r, m, base, e => by
    rw [List.cons_append, altS_cons, altS_cons, altS_cons, altS_app lv d last r m, List.length_append, List.append_assoc, Nat.add_assoc]
    rfl
theorem altJ_app (lv : Lv) (d : Int) (last : Bool) : ∀ (l m : List (AltH × Cr)) (base : Nat), altJ g O lv d last base (l ++ m) = altJ g O lv d last base l ++ altJ g O lv d last (base + (altS g O lv d last base 0 l).length) m
  | [], m, base => by simp [altJ, altS]
  | a :: r, m, base => by
    rw [List.cons_append, altJ_cons, altJ_cons, altS_cons, altJ_app lv d last r m, List.length_append, List.append_assoc, Nat.add_assoc]
    rfl
theorem altK_app (lv : Lv) (d : Int) (last : Bool) : ∀ (l m : List (AltH × Cr)) (base : Nat) (K : Int), altK g O lv d last base K (l ++ m) = altK g O lv d last (base + (altS g O lv d last base 0 l).length) (altK g O lv d last base K l) m
  | [], m, base, K => by simp [altK, altS]
  | a :: r, m, base, K => by
    rw [List.cons_append, altK_cons, altK_cons, altS_cons, altK_app lv d last r m, List.length_append, Nat.add_assoc]
    rfl
theorem pickS_app (lv : Lv) (d : Int) (last : Bool) : ∀ (l m : List (Int × Cr)) (base e : Nat), pickS g O lv d last base e (l ++ m) = pickS g O lv d last base e l ++ pickS g O lv d last (base + (pickS g O lv d last base 0 l).length) e m
  | [], m, base, e => by simp [pickS]
  | a :: r, m, base, e => by
    rw [List.cons_append, pickS_cons, pickS_cons, pickS_cons, pickS_app lv d last r m, List.length_append, List.append_assoc, Nat.add_assoc]
    rfl
theorem pickJ_app (lv : Lv) (d : Int) (last : Bool) : ∀ (l m : List (Int × Cr)) (base : Nat), pickJ g O lv d last base (l ++ m) = pickJ g O lv d last base l ++ pickJ g O lv d last (base + (pickS g O lv d last base 0 l).length) m
  | [], m, base => by simp [pickJ, pickS]
  | a :: r, m, base => by
    rw [List.cons_append, pickJ_cons, pickJ_cons, pickS_cons, pickJ_app lv d last r m, List.length_append, List.cons_append, Nat.add_assoc]
    rfl
/-- Where the jumps behind all parts stand. -/
noncomputable def posA (lv : Lv) (d : Int) (last : Bool) (base : Nat) : List (AltH × Cr) → List Nat
  | [] => []
  | a :: r => (if last then [] else [base + (partA g O lv d last base 0 a).length - 1]) ++ posA lv d last (base + (partA g O lv d last base 0 a).length) r
noncomputable def posP (lv : Lv) (d : Int) (last : Bool) (base : Nat) : List (Int × Cr) → List Nat
  | [] => []
  | a :: r => (if last then [] else [base + (partP g O lv d last base 0 a.2).length - 1]) ++ posP lv d last (base + (partP g O lv d last base 0 a.2).length) r
theorem posA_app (lv : Lv) (d : Int) (last : Bool) : ∀ (l m : List (AltH × Cr)) (base : Nat), posA g O lv d last base (l ++ m) = posA g O lv d last base l ++ posA g O lv d last (base + (altS g O lv d last base 0 l).length) m
  | [], m, base => by simp [posA, altS]
  | a :: r, m, base => by
    rw [List.cons_append, posA, posA, altS_cons, posA_app lv d last r m, List.length_append, List.append_assoc, Nat.add_assoc]
    rfl
theorem posP_app (lv : Lv) (d : Int) (last : Bool) : ∀ (l m : List (Int × Cr)) (base : Nat), posP g O lv d last base (l ++ m) = posP g O lv d last base l ++ posP g O lv d last (base + (pickS g O lv d last base 0 l).length) m
  | [], m, base => by simp [posP, pickS]
  | a :: r, m, base => by
    rw [List.cons_append, posP, posP, pickS_cons, posP_app lv d last r m, List.length_append, List.append_assoc, Nat.add_assoc]
    rfl
/-- One jump is landed. -/
def setK (L : Int) (es : List (List AV)) (p : Nat) : List (List AV) := match es[p]? with | some c => es.set p (c.set 1 (.int .i64 L)) | none => es
def landK (L : Int) (es : List (List AV)) (ps : List Nat) : List (List AV) := ps.foldl (setK L) es
theorem setK_len (L : Int) (es : List (List AV)) (p : Nat) : (setK L es p).length = es.length := by unfold setK; split <;> simp
theorem landK_len (L : Int) (ps : List Nat) : ∀ es : List (List AV), (landK L es ps).length = es.length := by
  induction ps with
  | nil => intro es; rfl
  | cons p r ih => intro es; rw [landK, List.foldl_cons]; exact (ih _).trans (setK_len L es p)
theorem setK_at (L e : Int) (pre rest : List (List AV)) {p : Nat} (hp : p = pre.length) : setK L (pre ++ rawC (ik 15 e) :: rest) p = pre ++ rawC (ik 15 L) :: rest := by
  subst hp
  have h : (pre ++ rawC (ik 15 e) :: rest)[pre.length]? = some (rawC (ik 15 e)) := by simp
  unfold setK
  rw [h]
  simp only
  rw [List.set_append_right _ _ (Nat.le_refl _)]
  simp [rawC, ik]
theorem land_alt (lv : Lv) (d : Int) (last : Bool) (L : Nat) : ∀ (l : List (AltH × Cr)) (base : Nat) (pre rest : List (List AV)), pre.length = base → landK L (pre ++ (altS g O lv d last base 0 l).map rawC ++ rest) (posA g O lv d last base l) = pre ++ (altS g O lv d last base L l).map rawC ++ rest
  | [], base, pre, rest, hb => by simp [altS, posA, landK]
  | a :: r, base, pre, rest, hb => by
    rw [altS_cons, altS_cons, posA, List.map_append, List.map_append]
    have hl := partA_len g O lv d last base L a
    cases last with
    | true =>
      have e : partA g O lv d true base (L : Int) a = partA g O lv d true base ((0 : Nat) : Int) a := by simp [partA]
      rw [if_pos rfl, List.nil_append, e]
      have := land_alt lv d true L r (base + (partA g O lv d true base 0 a).length) (pre ++ (partA g O lv d true base ((0 : Nat) : Int) a).map rawC) rest (by simp [hb])
      simpa only [List.append_assoc] using this
    | false =>
      obtain ⟨q, hq⟩ : ∃ q, ∀ e : Int, partA g O lv d false base e a = q ++ [ik 15 e] := ⟨_, fun e => by simp only [partA]; rfl⟩
      have hq0 := hq ((0 : Nat) : Int)
      have hqz := hq (0 : Int)
      have hqL := hq (L : Int)
      rw [hq0, hqL, hqz]
      simp only [Bool.false_eq_true, if_false]
      rw [landK, List.cons_append, List.nil_append, List.foldl_cons]
      have h1 : setK (L : Int) (pre ++ (List.map rawC (q ++ [ik 15 ((0 : Nat) : Int)]) ++ List.map rawC (altS g O lv d false (base + (q ++ [ik 15 0]).length) 0 r)) ++ rest) (base + (q ++ [ik 15 0]).length - 1) =
          (pre ++ List.map rawC q ++ [rawC (ik 15 (L : Int))]) ++ List.map rawC (altS g O lv d false (base + (q ++ [ik 15 0]).length) 0 r) ++ rest := by
        have := setK_at (L : Int) ((0 : Nat) : Int) (pre ++ List.map rawC q) (List.map rawC (altS g O lv d false (base + (q ++ [ik 15 0]).length) 0 r) ++ rest) (p := base + (q ++ [ik 15 0]).length - 1) (by simp [hb])
        simpa only [List.map_append, List.map_cons, List.map_nil, List.append_assoc, List.cons_append, List.nil_append] using this
      rw [h1]
      have := land_alt lv d false L r (base + (q ++ [ik 15 (0 : Int)]).length) (pre ++ List.map rawC q ++ [rawC (ik 15 (L : Int))]) rest (by simp [hb])
      rw [landK] at this
      rw [this]
      simp only [List.map_append, List.map_cons, List.map_nil, List.append_assoc, List.cons_append, List.nil_append]
theorem land_pick (lv : Lv) (d : Int) (last : Bool) (L : Nat) : ∀ (l : List (Int × Cr)) (base : Nat) (pre rest : List (List AV)), pre.length = base → landK L (pre ++ (pickS g O lv d last base 0 l).map rawC ++ rest) (posP g O lv d last base l) = pre ++ (pickS g O lv d last base L l).map rawC ++ rest
  | [], base, pre, rest, hb => by simp [pickS, posP, landK]
  | a :: r, base, pre, rest, hb => by
    rw [pickS_cons, pickS_cons, posP, List.map_append, List.map_append]
    cases last with
    | true =>
      have e : partP g O lv d true base (L : Int) a.2 = partP g O lv d true base ((0 : Nat) : Int) a.2 := by simp [partP]
      rw [if_pos rfl, List.nil_append, e]
      have := land_pick lv d true L r (base + (partP g O lv d true base 0 a.2).length) (pre ++ (partP g O lv d true base ((0 : Nat) : Int) a.2).map rawC) rest (by simp [hb])
      simpa only [List.append_assoc] using this
    | false =>
      obtain ⟨q, hq⟩ : ∃ q, ∀ e : Int, partP g O lv d false base e a.2 = q ++ [ik 15 e] := ⟨_, fun e => by simp only [partP]; rfl⟩
      have hq0 := hq ((0 : Nat) : Int)
      have hqz := hq (0 : Int)
      have hqL := hq (L : Int)
      rw [hq0, hqL, hqz]
      simp only [Bool.false_eq_true, if_false]
      rw [landK, List.cons_append, List.nil_append, List.foldl_cons]
      have h1 : setK (L : Int) (pre ++ (List.map rawC (q ++ [ik 15 ((0 : Nat) : Int)]) ++ List.map rawC (pickS g O lv d false (base + (q ++ [ik 15 0]).length) 0 r)) ++ rest) (base + (q ++ [ik 15 0]).length - 1) =
          (pre ++ List.map rawC q ++ [rawC (ik 15 (L : Int))]) ++ List.map rawC (pickS g O lv d false (base + (q ++ [ik 15 0]).length) 0 r) ++ rest := by
        have := setK_at (L : Int) ((0 : Nat) : Int) (pre ++ List.map rawC q) (List.map rawC (pickS g O lv d false (base + (q ++ [ik 15 0]).length) 0 r) ++ rest) (p := base + (q ++ [ik 15 0]).length - 1) (by simp [hb])
        simpa only [List.map_append, List.map_cons, List.map_nil, List.append_assoc, List.cons_append, List.nil_append] using this
      rw [h1]
      have := land_pick lv d false L r (base + (q ++ [ik 15 (0 : Int)]).length) (pre ++ List.map rawC q ++ [rawC (ik 15 (L : Int))]) rest (by simp [hb])
      rw [landK] at this
      rw [this]
      simp only [List.map_append, List.map_cons, List.map_nil, List.append_assoc, List.cons_append, List.nil_append]
end
end Go.AL
/- How long codes are; ends, jumps put and landed. -/
set_option linter.unusedVariables false
set_option linter.unusedSimpArgs false
namespace Go.AL
section
variable (g : Gl) (O : ByteArray → Int)
theorem endS_len (d : Int) : (endS d).length = 3 := rfl
mutual
theorem valS_len : ∀ (x : Cr) (lv : Lv) (d : Int) (last : Bool) (base : Nat), (valS g O lv d last base x).length + 3 ≤ 9 * x.bulk
  | .mk k nm n ar ps gs al bs pk, lv, d, last, base => by
    have hL := fun lv d base m last => valL_len gs lv d base m last
    have hA := fun base e => altS_len al lv d last base e
    have hP := fun base e => pickS_len pk lv d last base e
    have hB : (bindS g O lv d bs).length ≤ 1 + 4 * Cr.bulkB bs := by rw [bindS, List.length_cons]; have := latB_len g O bs (withS lv (bs.map (·.1)) d 1) (d + bs.length) (bs.length : Int); omega
    have hS := latS_len g O (.mk k nm n ar ps gs al bs pk) lv d
    have he := endS_len d
    have hk := Cr.bulk_pos (.mk k nm n ar ps gs al bs pk)
    rw [valS]
    split
    · have := hL lv d base 2 false
      rw [Cr.bulk]
      cases last <;> simp only [Bool.false_eq_true, if_true, if_false, List.length_append, List.length_cons, List.length_nil, he] <;> omega
    split
    · have := hL (withS lv (bs.map (·.1)) d 1) (d + bs.length) (base + (bindS g O lv d bs).length) 1 last
      rw [Cr.bulk]
      cases last <;> simp only [Bool.false_eq_true, if_true, if_false, List.length_append, List.length_cons, List.length_nil] at * <;> omega
    split
    · have h1 := hL lv d base 1 false
      have h2 := hA (base + (valL g O lv d base 1 false gs).flatten.length + 1) (base + (valL g O lv d base 1 false gs).flatten.length + 1 + (altS g O lv d last (base + (valL g O lv d base 1 false gs).flatten.length + 1) 0 al).length)
      rw [Cr.bulk]
      simp only [List.length_append, List.length_cons, List.length_nil]
      omega
    split
    · have h1 := hL lv d (base + 1) 1 last
      have h2 := hP (base + 1 + (valL g O lv d (base + 1) 1 last gs).flatten.length + (if last then 0 else 1)) (base + 1 + (valL g O lv d (base + 1) 1 last gs).flatten.length + (if last then 0 else 1) + (pickS g O lv d last (base + 1 + (valL g O lv d (base + 1) 1 last gs).flatten.length + (if last then 0 else 1)) 0 pk).length)
      rw [Cr.bulk]
      simp only [List.length_append, List.length_cons, List.length_nil]
      have h3 : ∀ i : Int, (if last then ([] : List Ins) else [ik 15 i]).length ≤ 1 := fun i => by cases last <;> simp
      have h4 := h3 ((base + 1 + (valL g O lv d (base + 1) 1 last gs).flatten.length + (if last then 0 else 1) + (pickS g O lv d last (base + 1 + (valL g O lv d (base + 1) 1 last gs).flatten.length + (if last then 0 else 1)) 0 pk).length : Nat) : Int)
      omega
    split
    · simp only [List.length_cons, List.length_nil]; omega
    split
    · cases last <;> simp only [Bool.false_eq_true, if_true, if_false, List.length_append, List.length_cons, List.length_nil, he] <;> omega
    · cases last <;> simp only [Bool.false_eq_true, if_true, if_false, List.length_append, List.length_cons, List.length_nil, he] <;> omega
theorem valL_len : ∀ (l : List Cr) (lv : Lv) (d : Int) (base m : Nat) (last : Bool), (valL g O lv d base m last l).flatten.length ≤ 9 * Cr.bulkL l
  | [], lv, d, base, m, last => by rw [valL, Cr.bulkL]; simp
  | x :: r, lv, d, base, m, last => by
    rw [Cr.bulkL]
    cases m with
    | zero => simp [valL]
    | succ m =>
      rw [valL, List.flatten_cons, List.length_append]
      have := valS_len x lv d last base
      have := valL_len r lv (d + 1) (base + (valS g O lv d last base x).length) m last
      omega
theorem altS_len : ∀ (l : List (AltH × Cr)) (lv : Lv) (d : Int) (last : Bool) (base e : Nat), (altS g O lv d last base e l).length ≤ 9 * Cr.bulkA l
  | [], lv, d, last, base, e => by rw [altS, Cr.bulkA]; simp
  | (h, x) :: r, lv, d, last, base, e => by
    rw [altS, Cr.bulkA, List.length_append]
    have h1 := valS_len x (withS lv h.ps (d + h.ps.length - 1) (-1)) (d + h.ps.length) last (base + 1)
    have h2 := altS_len r lv d last (base + ((if h.k = 1 then ik 12 h.ps.length else ik 6 1) :: valS g O (withS lv h.ps (d + h.ps.length - 1) (-1)) (d + h.ps.length) last (base + 1) x ++ (if h.k = 1 ∧ last = false then [ik 7 h.ps.length] else []) ++ (if last then [] else [ik 15 (0 : Int)])).length) e
    have h3 : (if h.k = 1 ∧ last = false then [ik 7 (h.ps.length : Int)] else []).length ≤ 1 := by split <;> simp
    have h4 : (if last then ([] : List Ins) else [ik 15 (e : Int)]).length ≤ 1 := by cases last <;> simp
    simp only [List.length_append, List.length_cons] at *
    omega
theorem pickS_len : ∀ (l : List (Int × Cr)) (lv : Lv) (d : Int) (last : Bool) (base e : Nat), (pickS g O lv d last base e l).length ≤ 9 * Cr.bulkP l
  | [], lv, d, last, base, e => by rw [pickS, Cr.bulkP]; simp
  | (s, x) :: r, lv, d, last, base, e => by
    rw [pickS, Cr.bulkP, List.length_append, List.length_append]
    have h1 := valS_len x lv d last base
    have h2 := pickS_len r lv d last (base + (valS g O lv d last base x).length + (if last then 0 else 1)) e
    have h4 : (if last then ([] : List Ins) else [ik 15 (e : Int)]).length ≤ 1 := by cases last <;> simp
    omega
end
end
theorem ok_besB2 {σ s : Store} {N fid : Nat} {v v' : AV} {df : AV} {es : List (List AV)} {u : AV} {ty sz bytes : Nat} {us us2 : List (List AV)} {K : AV → Store → Prop} (h : MB σ s N fid v v' df es) (hB : BesB s N v' u ty sz us) (h2 : ∀ q, q ∈ us2 → q.length = sz) (hb : (us.length + us2.length) * bytes ≤ 140737488355328) (hm : us.length + us2.length ≤ maxLen)
    (hk : ∀ u' s', MB σ s' N fid v v' df es → BesB s' N v' u' ty sz (us ++ us2) → (∀ j, j < s.next → j ∉ slIds u → s'.get j = s.get j) → s.next ≤ s'.next → (∀ j, j ∈ slIds u' → j ∈ slIds u ∨ s.next ≤ j) → K u' s') : ok (eApp ty sz bytes u (some us2) s) K := by
  refine ok_app hB.sl h2 hb hm fun u' s' h3 h4 => hk u' s' ?_ ⟨h3, fun j hj => ?_, fun j hj => ?_⟩ h4.keep h4.next h4.fresh
  · have hle := h.le
    have hf := h.fid
    have hne : ∀ j, j < σ.next → j ∉ slIds u := fun j hj hm => by have := hB.new j hm; omega
    refine ⟨⟨?_, h.la.sl.keep fun i hi => h4.keep i (h.la.sl.lt hi) (fun hm => hB.dj i hm hi), h.la.nv⟩, h.le, by have := h.next; have := h4.next; omega, fun j hj a b => ?_, h.fresh, h.fid⟩
    · rw [h4.keep _ (s.lt h.la.hd) (hne _ hf)]; exact h.la.hd
    · rw [h4.keep j (by have := h.next; omega) (hne j hj), h.keep j hj a b]
  · rcases h4.fresh j hj with q | q
    · exact hB.new j q
    · have := h.next; omega
  · rcases h4.fresh j hj with q | q
    · exact hB.dj j q
    · intro hm
      have := h.la.sl.lt hm
      omega
/-- Jumps' places. -/
def placesC (ps : List Nat) : List (List AV) := ps.map (fun p : Nat => [AV.int .i64 (p : Int)])
end Go.AL
namespace Go.Proofs.Ytjjbjibbjbbeaaa
open Go.AL
theorem end_ok {σ : Store} {fid : Nat} {v df : AV} {es : List (List AV)} (h : BAt σ fid v df es) (he : es.length ≤ 49999990) (d : Int) :
    ACalls Try.prog 108 [.ptr fid 0 0 0, .int .i64 d] σ fun r s => (∃ z : Unit, r = .tuple [] ∧ BPost σ fid v df (es ++ (endS d).map rawC) s) := by
  refine in108 (by simp) ?_
  unfold c108
  have M0 := MB.start h (.refl σ) (N := σ.next) rfl
  refine raw ?_
  repeat (first | (with_reducible refine unr ?_; try simp only [ZZ, ↓reduceIte, Nat.reduceEqDiff, Nat.reduceAdd, Nat.reduceLeDiff, reduceCtorEq, Int.reduceEq, Int.reduceLT, Int.reduceLE, Int.reduceNeg, Int.reduceAdd, Int.reduceSub, Int.reduceToNat]) | (with_reducible first | refine W1 ?_ | refine W2 ?_ | refine W3 ?_ | refine W4 ?_ | refine W5 ?_ | refine W6 ?_ | refine W7 ?_ | refine W8 ?_ | refine W9 ?_))
  refine (put_ok M0.la (by omega) 5 d).mono ?_
  rintro _ s1 ⟨_, rfl, hP⟩
  obtain ⟨v1, M1, -, -, -⟩ := M0.call hP
  refine raw ?_
  repeat (first | (with_reducible refine unr ?_; try simp only [ZZ, ↓reduceIte, Nat.reduceEqDiff, Nat.reduceAdd, Nat.reduceLeDiff, reduceCtorEq, Int.reduceEq, Int.reduceLT, Int.reduceLE, Int.reduceNeg, Int.reduceAdd, Int.reduceSub, Int.reduceToNat]) | (with_reducible first | refine W1 ?_ | refine W2 ?_ | refine W3 ?_ | refine W4 ?_ | refine W5 ?_ | refine W6 ?_ | refine W7 ?_ | refine W8 ?_ | refine W9 ?_))
  refine (put_ok M1.la (by simp; omega) 6 d).mono ?_
  rintro _ s2 ⟨_, rfl, hP⟩
  obtain ⟨v2, M2, -, -, -⟩ := M1.call hP
  refine raw ?_
  repeat (first | (with_reducible refine unr ?_; try simp only [ZZ, ↓reduceIte, Nat.reduceEqDiff, Nat.reduceAdd, Nat.reduceLeDiff, reduceCtorEq, Int.reduceEq, Int.reduceLT, Int.reduceLE, Int.reduceNeg, Int.reduceAdd, Int.reduceSub, Int.reduceToNat]) | (with_reducible first | refine W1 ?_ | refine W2 ?_ | refine W3 ?_ | refine W4 ?_ | refine W5 ?_ | refine W6 ?_ | refine W7 ?_ | refine W8 ?_ | refine W9 ?_))
  refine (put_ok M2.la (by simp; omega) 10 0).mono ?_
  rintro _ s3 ⟨_, rfl, hP⟩
  obtain ⟨v3, M3, -, -, -⟩ := M2.call hP
  refine raw ?_
  repeat (first | (with_reducible refine unr ?_; try simp only [ZZ, ↓reduceIte, Nat.reduceEqDiff, Nat.reduceAdd, Nat.reduceLeDiff, reduceCtorEq, Int.reduceEq, Int.reduceLT, Int.reduceLE, Int.reduceNeg, Int.reduceAdd, Int.reduceSub, Int.reduceToNat]) | (with_reducible first | refine W1 ?_ | refine W2 ?_ | refine W3 ?_ | refine W4 ?_ | refine W5 ?_ | refine W6 ?_ | refine W7 ?_ | refine W8 ?_ | refine W9 ?_))
  refine ⟨(), ?_⟩
  simpa only [endS, List.map_cons, List.map_nil, List.append_assoc, List.cons_append, List.nil_append] using M3.out
theorem leave_ok {σ s0 : Store} {N fid : Nat} {v v' df u : AV} {es : List (List AV)} {ps : List Nat} (M : MB σ s0 N fid v v' df es) (B : BesB s0 N v' u 3 1 (placesC ps)) (he : es.length ≤ 40000000) (hp : ps.length ≤ 40000000) (last : Bool) :
    ACalls Try.prog 167 [.ptr fid 0 0 0, u, .bool last] s0 fun r s => ∃ v2, MB σ s N fid v v2 df (es ++ (if last then [] else [rawC (ik 15 0)])) ∧ BesB s N v2 r 3 1 (placesC (ps ++ if last then [] else [es.length])) ∧
      s0.next ≤ s.next ∧ (∀ j, j < s0.next → j ≠ fid → j ∉ slIds v' → j ∉ slIds u → s.get j = s0.get j) ∧ (∀ j, j ∈ slIds v2 → j ∈ slIds v' ∨ s0.next ≤ j) ∧ (∀ j, j ∈ slIds r → j ∈ slIds u ∨ s0.next ≤ j) := by
  refine in167 (by simp) ?_
  unfold c167
  cases last with
  | true =>
    refine raw ?_
    repeat (first | (with_reducible refine unr ?_; try simp only [ZZ, ↓reduceIte, Nat.reduceEqDiff, Nat.reduceAdd, Nat.reduceLeDiff, reduceCtorEq, Int.reduceEq, Int.reduceLT, Int.reduceLE, Int.reduceNeg, Int.reduceAdd, Int.reduceSub, Int.reduceToNat]) | (with_reducible first | refine W1 ?_ | refine W2 ?_ | refine W3 ?_ | refine W4 ?_ | refine W5 ?_ | refine W6 ?_ | refine W7 ?_ | refine W8 ?_ | refine W9 ?_))
    exact ⟨v', by simpa using M, by simpa using B, fun _ _ _ _ _ => trivial, fun _ h => .inl h, fun _ h => .inl h⟩
  | false =>
    refine raw ?_
    repeat (first | (with_reducible refine unr ?_; try simp only [ZZ, ↓reduceIte, Nat.reduceEqDiff, Nat.reduceAdd, Nat.reduceLeDiff, reduceCtorEq, Int.reduceEq, Int.reduceLT, Int.reduceLE, Int.reduceNeg, Int.reduceAdd, Int.reduceSub, Int.reduceToNat]) | (with_reducible first | refine W1 ?_ | refine W2 ?_ | refine W3 ?_ | refine W4 ?_ | refine W5 ?_ | refine W6 ?_ | refine W7 ?_ | refine W8 ?_ | refine W9 ?_))
    refine (put_ok M.la (by omega) 15 0).mono ?_
    rintro _ s1 ⟨_, rfl, hP⟩
    obtain ⟨v1, M1, hk1, hf1, hn1⟩ := M.call hP
    have B1 := B.call (by have := M.fid; have := M.le; omega) hk1 hf1
    refine raw ?_
    repeat (first | (with_reducible refine unr ?_; try simp only [ZZ, ↓reduceIte, Nat.reduceEqDiff, Nat.reduceAdd, Nat.reduceLeDiff, reduceCtorEq, Int.reduceEq, Int.reduceLT, Int.reduceLE, Int.reduceNeg, Int.reduceAdd, Int.reduceSub, Int.reduceToNat]) | (with_reducible first | refine W1 ?_ | refine W2 ?_ | refine W3 ?_ | refine W4 ?_ | refine W5 ?_ | refine W6 ?_ | refine W7 ?_ | refine W8 ?_ | refine W9 ?_))
    refine ok_besB2 M1 B1 (us2 := [[.int .i64 (es.length : Int)]]) (by simp) (by simp [placesC]; omega) (by simp [placesC, maxLen]; omega) ?_
    intro u' s2 M2 B2 hk2 hn2 hf2
    refine raw ?_
    repeat (first | (with_reducible refine unr ?_; try simp only [ZZ, ↓reduceIte, Nat.reduceEqDiff, Nat.reduceAdd, Nat.reduceLeDiff, reduceCtorEq, Int.reduceEq, Int.reduceLT, Int.reduceLE, Int.reduceNeg, Int.reduceAdd, Int.reduceSub, Int.reduceToNat]) | (with_reducible first | refine W1 ?_ | refine W2 ?_ | refine W3 ?_ | refine W4 ?_ | refine W5 ?_ | refine W6 ?_ | refine W7 ?_ | refine W8 ?_ | refine W9 ?_))
    refine ⟨v1, M2, by simpa [placesC] using B2, by omega, fun j hj a b c => ?_, hf1, fun j hj => ?_⟩
    · rw [hk2 j (by omega) c, hk1 j hj a b]
    · exact (hf2 j hj).elim .inl (fun q => .inr (by omega))
end Go.Proofs.Ytjjbjibbjbbeaaa
/- Jumps are landed. -/
set_option linter.unusedVariables false
set_option linter.unusedSimpArgs false
namespace Go.AL
theorem setK_4 (L : Int) {es : List (List AV)} (h : ∀ q, q ∈ es → q.length = 4) (p : Nat) : ∀ q, q ∈ setK L es p → q.length = 4 := by
  intro q hq
  unfold setK at hq
  split at hq
  · rename_i c hc
    rcases List.mem_or_eq_of_mem_set hq with h1 | h1
    · exact h q h1
    · subst h1; simpa using h c (List.mem_of_getElem? hc)
  · exact h q hq
theorem landK_succ (L : Int) (es : List (List AV)) {ps : List Nat} {i p : Nat} (h : ps[i]? = some p) : landK L es (ps.take (i + 1)) = setK L (landK L es (ps.take i)) p := by
  rw [take_succ_at h, landK, List.foldl_append]; rfl
theorem landK_4 (L : Int) (ps : List Nat) : ∀ {es : List (List AV)}, (∀ q, q ∈ es → q.length = 4) → ∀ q, q ∈ landK L es ps → q.length = 4 := by
  induction ps with
  | nil => intro es h; exact h
  | cons p r ih => intro es h; rw [landK, List.foldl_cons]; exact ih (setK_4 L h p)
end Go.AL
namespace Go.Proofs.Ytjjbjibbjbbeaaa
open Go.AL
theorem land_ok {σ s0 : Store} {N fid : Nat} {v v' df u : AV} {es : List (List AV)} {ps : List Nat} (M : MB σ s0 N fid v v' df es) (B : BesB s0 N v' u 3 1 (placesC ps)) (hps : ∀ p, p ∈ ps → p < es.length) (h4 : ∀ q, q ∈ es → q.length = 4) (hl : es.length ≤ 100000000) (hpl : ps.length ≤ 100000000) :
    ACalls Try.prog 168 [.ptr fid 0 0 0, u] s0 fun r s => (∃ z : Unit, r = .tuple [] ∧ MB σ s N fid v v' df (landK es.length es ps) ∧ s.next = s0.next ∧ ∀ j, j ∉ slIds v' → s.get j = s0.get j) := by
  refine in168 (by simp) ?_
  unfold c168
  have hlen := B.sl.len
  simp only [placesC, List.length_map] at hlen
  have hrd := B.sl.rds
  rcases M.la.sl with ⟨hv0, h0⟩ | ⟨id, ver, es', hv', hg⟩
  · have hp0 : ps = [] := by
      cases ps with
      | nil => rfl
      | cons p r => have := hps p (by simp); rw [h0] at this; simp at this
    subst hp0
    refine raw ?_
    repeat (first | (with_reducible refine unr ?_; try simp only [ZZ, ↓reduceIte, Nat.reduceEqDiff, Nat.reduceAdd, Nat.reduceLeDiff, reduceCtorEq, Int.reduceEq, Int.reduceLT, Int.reduceLE, Int.reduceNeg, Int.reduceAdd, Int.reduceSub, Int.reduceToNat, hlen]) | (with_reducible first | refine W1 ?_ | refine W2 ?_ | refine W3 ?_ | refine W4 ?_ | refine W5 ?_ | refine W6 ?_ | refine W7 ?_ | refine W8 ?_ | refine W9 ?_))
    refine AWP_while [6, 7, 8] (fun _ : Unit => 0) (fun _ => [u, .int .i64 0, .int .i64 0]) (fun _ t => s0 = t) () rfl ?_ ?_
    · refine raw ?_
      repeat (first | (with_reducible refine unr ?_; try simp only [ZZ, ↓reduceIte, Nat.reduceEqDiff, Nat.reduceAdd, Nat.reduceLeDiff, reduceCtorEq, Int.reduceEq, Int.reduceLT, Int.reduceLE, Int.reduceNeg, Int.reduceAdd, Int.reduceSub, Int.reduceToNat]) | (with_reducible first | refine W1 ?_ | refine W2 ?_ | refine W3 ?_ | refine W4 ?_ | refine W5 ?_ | refine W6 ?_ | refine W7 ?_ | refine W8 ?_ | refine W9 ?_))
      rfl
    rintro _ t rfl
    refine raw ?_
    repeat (first | (with_reducible refine unr ?_; try simp only [ZZ, ↓reduceIte, Nat.reduceEqDiff, Nat.reduceAdd, Nat.reduceLeDiff, reduceCtorEq, Int.reduceEq, Int.reduceLT, Int.reduceLE, Int.reduceNeg, Int.reduceAdd, Int.reduceSub, Int.reduceToNat]) | (with_reducible first | refine W1 ?_ | refine W2 ?_ | refine W3 ?_ | refine W4 ?_ | refine W5 ?_ | refine W6 ?_ | refine W7 ?_ | refine W8 ?_ | refine W9 ?_))
    exact ⟨(), M, fun _ _ => trivial⟩
  subst hv'
  refine raw ?_
  repeat (first | (with_reducible refine unr ?_; try simp only [ZZ, ↓reduceIte, Nat.reduceEqDiff, Nat.reduceAdd, Nat.reduceLeDiff, reduceCtorEq, Int.reduceEq, Int.reduceLT, Int.reduceLE, Int.reduceNeg, Int.reduceAdd, Int.reduceSub, Int.reduceToNat, hlen]) | (with_reducible first | refine W1 ?_ | refine W2 ?_ | refine W3 ?_ | refine W4 ?_ | refine W5 ?_ | refine W6 ?_ | refine W7 ?_ | refine W8 ?_ | refine W9 ?_))
  refine AWP_while [0, 6, 7, 8] (fun i : Nat => ps.length - i) (fun i => [.ptr fid 0 0 0, u, .int .i64 ps.length, .int .i64 i])
    (fun i t => i ≤ ps.length ∧ MB σ t N fid v (.own id ver 4 0 es.length) df (landK es.length es (ps.take i)) ∧ t.get id = some (.cells 139 ver 4 (landK es.length es (ps.take i) ++ es')) ∧ t.next = s0.next ∧ ∀ j, j ≠ id → t.get j = s0.get j) 0 ⟨by simp, M, by simpa [landK] using hg, rfl, fun _ _ => rfl⟩ ?_ ?_
  · refine raw ?_
    repeat (first | (with_reducible refine unr ?_; try simp only [ZZ, ↓reduceIte, Nat.reduceEqDiff, Nat.reduceAdd, Nat.reduceLeDiff, reduceCtorEq, Int.reduceEq, Int.reduceLT, Int.reduceLE, Int.reduceNeg, Int.reduceAdd, Int.reduceSub, Int.reduceToNat]) | (with_reducible first | refine W1 ?_ | refine W2 ?_ | refine W3 ?_ | refine W4 ?_ | refine W5 ?_ | refine W6 ?_ | refine W7 ?_ | refine W8 ?_ | refine W9 ?_))
    rfl
  rintro i t ⟨hi, Mt, gt, hn, hk⟩
  have hw := wrap_succ (i := i) (by omega)
  by_cases hil : i < ps.length
  · have hil' : (i : Int) < (ps.length : Int) := by omega
    obtain ⟨p, hp⟩ : ∃ p, ps[i]? = some p := ⟨_, List.getElem?_eq_getElem hil⟩
    have hpe := hps p (List.mem_of_getElem? hp)
    have hFl := landK_len (es.length : Int) (ps.take i) es
    have hF4 := landK_4 (es.length : Int) (ps.take i) h4
    have hsucc := landK_succ (es.length : Int) es hp
    generalize landK (es.length : Int) es (ps.take i) = F at Mt gt hFl hF4 hsucc
    obtain ⟨c, hc⟩ : ∃ c, F[p]? = some c := ⟨_, List.getElem?_eq_getElem (by omega)⟩
    obtain ⟨a0, a1, a2, a3, rfl⟩ := len4 (hF4 c (List.mem_of_getElem? hc))
    have hat : (F ++ es')[p]? = some [a0, a1, a2, a3] := by rw [List.getElem?_append_left (by omega)]; exact hc
    have hB2 : SliceAt t u 3 1 (placesC ps) := B.sl.keep fun j hj => hk j (fun e => B.dj j hj (by simp [slIds, e]))
    obtain ⟨q, hq, hep⟩ := hB2.rds.iad i [.int .i64 (p : Int)] (by simp [placesC, hp])
    have hld := hep.load none
    have hpl : (p : Int) < (es.length : Int) := by omega
    have hset : (F ++ es').set p [a0, .int .i64 (es.length : Int), a2, a3] = setK (es.length : Int) F p ++ es' := by
      rw [List.set_append_left _ _ (by omega), setK, hc]; rfl
    have Ms := Mt.sset (es2 := setK (es.length : Int) F p) hFl.symm gt (setK_len _ _ _)
    have hlt := t.lt gt
    refine raw ?_
    repeat (first | (with_reducible refine unr ?_; try simp only [ZZ, ↓reduceIte, Nat.reduceEqDiff, Nat.reduceAdd, Nat.reduceLeDiff, reduceCtorEq, Int.reduceEq, Int.reduceLT, Int.reduceLE, Int.reduceNeg, Int.reduceAdd, Int.reduceSub, Int.reduceToNat, hil', hq, hld, Mt.la.hd, gt, hpl, hat, hw]) | (with_reducible first | refine W1 ?_ | refine W2 ?_ | refine W3 ?_ | refine W4 ?_ | refine W5 ?_ | refine W6 ?_ | refine W7 ?_ | refine W8 ?_ | refine W9 ?_))
    rw [hset]
    refine ⟨i + 1, rfl, ⟨by omega, ?_, ?_, hn, fun j hj => ?_⟩, by omega⟩
    · rw [hsucc]; exact Ms
    · rw [hsucc]; exact Store.get_upd_self _ _ hlt
    · rw [Store.get_upd_ne _ _ hj]; exact hk j hj
  · have hil' : ¬ (i : Int) < (ps.length : Int) := by omega
    rw [List.take_of_length_le (by omega)] at Mt
    refine raw ?_
    repeat (first | (with_reducible refine unr ?_; try simp only [ZZ, ↓reduceIte, Nat.reduceEqDiff, Nat.reduceAdd, Nat.reduceLeDiff, reduceCtorEq, Int.reduceEq, Int.reduceLT, Int.reduceLE, Int.reduceNeg, Int.reduceAdd, Int.reduceSub, Int.reduceToNat, hil']) | (with_reducible first | refine W1 ?_ | refine W2 ?_ | refine W3 ?_ | refine W4 ?_ | refine W5 ?_ | refine W6 ?_ | refine W7 ?_ | refine W8 ?_ | refine W9 ?_))
    exact ⟨(), Mt, hn, fun j hj => hk j (fun e => hj (by simp [slIds, e]))⟩
end Go.Proofs.Ytjjbjibbjbbeaaa
/- Cases. -/
set_option linter.unusedVariables false
set_option linter.unusedSimpArgs false
namespace Go.AL
theorem at_one {es m r : List (List AV)} {n : Nat} (h : n = es.length) (q : List AV) : (es ++ [q] ++ m ++ r)[n]? = some q := by subst h; simp
theorem set_at {es m r : List (List AV)} {n : Nat} (h : n = es.length) (q q' : List AV) : (es ++ [q] ++ m ++ r).set n q' = es ++ [q'] ++ m ++ r := by
  rw [List.append_assoc _ m r, set_one h, ← List.append_assoc]
theorem map_4 (l : List Ins) : ∀ q, q ∈ l.map rawC → q.length = 4 := by
  intro q hq; obtain ⟨y, _, rfl⟩ := List.mem_map.1 hq; rfl
theorem app_4 {a b : List (List AV)} (h : ∀ q, q ∈ a → q.length = 4) (k : ∀ q, q ∈ b → q.length = 4) : ∀ q, q ∈ a ++ b → q.length = 4 := by
  intro q hq; rcases List.mem_append.1 hq with h1 | h1
  · exact h q h1
  · exact k q h1
theorem MB.own {σ s : Store} {N fid : Nat} {v v' df : AV} {es : List (List AV)} (h : MB σ s N fid v v' df es) (hne : es ≠ []) : ∃ id ver es', v' = .own id ver 4 0 es.length ∧ s.get id = some (.cells 139 ver 4 (es ++ es')) := h.la.sl.own hne
theorem altJ_len (g : Gl) (O : ByteArray → Int) (lv : Lv) (d : Int) (last : Bool) : ∀ (l : List (AltH × Cr)) (base : Nat), (altJ g O lv d last base l).length ≤ l.length
  | [], base => by simp [altJ]
  | a :: r, base => by
    rw [altJ_cons, List.length_append, List.length_cons]
    have := altJ_len g O lv d last r (base + (partA g O lv d last base 0 a).length)
    have h : (if a.1.k = 1 then [(conIdx g a.1.nm, (base : Int))] else if a.1.k = 2 then [(a.1.n, (base : Int))] else []).length ≤ 1 := by
      by_cases h1 : a.1.k = 1 <;> by_cases h2 : a.1.k = 2 <;> simp [h1, h2]
    omega
theorem posA_len (g : Gl) (O : ByteArray → Int) (lv : Lv) (d : Int) (last : Bool) : ∀ (l : List (AltH × Cr)) (base : Nat), (posA g O lv d last base l).length ≤ l.length
  | [], base => by simp [posA]
  | a :: r, base => by
    rw [posA, List.length_append, List.length_cons]
    have := posA_len g O lv d last r (base + (partA g O lv d last base 0 a).length)
    have h : (if last then ([] : List Nat) else [base + (partA g O lv d last base 0 a).length - 1]).length ≤ 1 := by cases last <;> simp
    omega
theorem posA_lt (g : Gl) (O : ByteArray → Int) (lv : Lv) (d : Int) (last : Bool) : ∀ (l : List (AltH × Cr)) (base : Nat), ∀ p, p ∈ posA g O lv d last base l → p < base + (altS g O lv d last base 0 l).length
  | [], base => by simp [posA]
  | a :: r, base => by
    intro p hp
    rw [posA] at hp
    rw [altS_cons, List.length_append]
    have h1 : 1 ≤ (partA g O lv d last base 0 a).length := by simp [partA]
    rcases List.mem_append.1 hp with hp | hp
    · have h2 : (partA g O lv d last base ((0 : Nat) : Int) a).length = (partA g O lv d last base 0 a).length := rfl
      cases last
      · simp at hp; omega
      · simp at hp
    · have := posA_lt g O lv d last r (base + (partA g O lv d last base 0 a).length) p hp
      have h2 : (partA g O lv d last base ((0 : Nat) : Int) a).length = (partA g O lv d last base 0 a).length := rfl
      omega
theorem SubE.rf {v w : AV} : ∀ a : List (List AV), SubE v w a a
  | [] => .nil
  | x :: r => .cons (SubL.rf x) (SubE.rf r)
theorem SubE.app {v w : AV} {a b c d : List (List AV)} (h : SubE v w a b) (k : SubE v w c d) : SubE v w (a ++ c) (b ++ d) := by
  induction h with
  | nil => exact k
  | cons h t ih => exact .cons h ih
/-- The state amid a case or a choice: the jumps that are told so far, and the places of those that lead behind all. -/
structure CS (σ s : Store) (N fid : Nat) (v v' df : AV) (es1 : List (List AV)) (op K : Int) (U W : AV) (js : List (Int × Int)) (ps : List Nat) (body : List Ins) : Prop where
  m : MB σ s N fid v v' df (es1 ++ [[.int .i64 op, .int .i64 K, .int .i64 0, U]] ++ body.map rawC)
  u : BesB s N v' U 151 2 (js.map jC)
  w : BesB s N v' W 3 1 (placesC ps)
  d : ∀ j, j ∈ slIds U → j ∉ slIds W
  u0 : js = [] → U = .nils
section
variable {σ s s2 : Store} {N fid : Nat} {v v' df U W : AV} {es1 : List (List AV)} {op K : Int} {js : List (Int × Int)} {ps : List Nat} {body : List Ins}
theorem CS.push (h : CS σ s N fid v v' df es1 op K U W js ps body) (o : AObj) : CS σ (s.push o) N fid v v' df es1 op K U W js ps body := ⟨h.m.push o, h.u.push o, h.w.push o, h.d, h.u0⟩
theorem CS.call (h : CS σ s N fid v v' df es1 op K U W js ps body) (more : List Ins) (k : BPost s fid v' df (es1 ++ [[.int .i64 op, .int .i64 K, .int .i64 0, U]] ++ body.map rawC ++ more.map rawC) s2) :
    ∃ v2, CS σ s2 N fid v v2 df es1 op K U W js ps (body ++ more) ∧ (∀ j, j < s.next → j ≠ fid → j ∉ slIds v' → s2.get j = s.get j) ∧ s.next ≤ s2.next ∧ ∀ j, j ∈ slIds v2 → j ∈ slIds v' ∨ s.next ≤ j := by
  obtain ⟨v2, M2, hk, hf, hn⟩ := h.m.call k
  have hN : N > fid := by have := h.m.fid; have := h.m.le; omega
  refine ⟨v2, ⟨by rw [List.map_append, ← List.append_assoc]; exact M2, h.u.call hN hk hf, h.w.call hN hk hf, h.d, h.u0⟩, hk, hn, hf⟩
theorem CS.len (h : CS σ s N fid v v' df es1 op K U W js ps body) : (es1 ++ [[.int .i64 op, .int .i64 K, .int .i64 0, U]] ++ body.map rawC).length = es1.length + 1 + body.length := by simp; omega
/-- The jump's number is set. -/
theorem CS.setK (h : CS σ s N fid v v' df es1 op K U W js ps body) (K' : Int) {id ver : Nat} {es' : List (List AV)} (hv : v' = .own id ver 4 0 (es1 ++ [[.int .i64 op, .int .i64 K, .int .i64 0, U]] ++ body.map rawC).length) (hg : s.get id = some (.cells 139 ver 4 (es1 ++ [[.int .i64 op, .int .i64 K, .int .i64 0, U]] ++ body.map rawC ++ es'))) :
    CS σ (s.upd id (.cells 139 ver 4 (es1 ++ [[.int .i64 op, .int .i64 K', .int .i64 0, U]] ++ body.map rawC ++ es'))) N fid v v' df es1 op K' U W js ps body := by
  have hin : id ∈ slIds v' := by rw [hv]; simp [slIds]
  refine ⟨?_, h.u.upd _ (fun hm => h.u.dj id hm hin), h.w.upd _ (fun hm => h.w.dj id hm hin), h.d, h.u0⟩
  have hm := h.m
  rw [hv] at hm ⊢
  exact hm.sset (es2 := es1 ++ [[.int .i64 op, .int .i64 K', .int .i64 0, U]] ++ body.map rawC) rfl hg (by simp)
/-- One jump more is told. -/
theorem ok_csJ {bytes : Nat} {Q : AV → Store → Prop} (h : CS σ s N fid v v' df es1 op K U W js ps body) (hb16 : bytes ≤ 100) (hl : js.length ≤ 100000000) (key to : Int) {id ver : Nat} {es' : List (List AV)} (hv : v' = .own id ver 4 0 (es1 ++ [[.int .i64 op, .int .i64 K, .int .i64 0, U]] ++ body.map rawC).length) (hg : s.get id = some (.cells 139 ver 4 (es1 ++ [[.int .i64 op, .int .i64 K, .int .i64 0, U]] ++ body.map rawC ++ es')))
    (hk : ∀ U' s', s'.get id = some (.cells 139 ver 4 (es1 ++ [[.int .i64 op, .int .i64 K, .int .i64 0, U]] ++ body.map rawC ++ es')) → s'.get fid = s.get fid → s.next ≤ s'.next → (∀ j, j < s.next → j ∉ slIds U → s'.get j = s.get j) → U'.cellsOf = some [U'] →
      CS σ (s'.upd id (.cells 139 ver 4 (es1 ++ [[.int .i64 op, .int .i64 K, .int .i64 0, U']] ++ body.map rawC ++ es'))) N fid v v' df es1 op K U' W (js ++ [(key, to)]) ps body → Q U' s') : ok (eApp 151 2 bytes U (some [[.int .i64 key, .int .i64 to]]) s) Q := by
  have hin : id ∈ slIds v' := by rw [hv]; simp [slIds]
  have hid := s.lt hg
  refine ok_besB2 h.m h.u (us2 := [[.int .i64 key, .int .i64 to]]) (by simp) (Nat.le_trans (Nat.mul_le_mul_left _ hb16) (by simp; omega)) (by simp [maxLen]; omega) fun U' s' M2 B2 k2 n2 f2 => ?_
  have hgid : s'.get id = _ := (k2 id hid (fun hm => h.u.dj id hm hin)).trans hg
  have hfid : s'.get fid = s.get fid := k2 fid (s.lt h.m.la.hd) (fun hm => by have := h.u.new fid hm; have := h.m.fid; have := h.m.le; omega)
  have hiU' : id ∉ slIds U' := fun hm => (f2 id hm).elim (fun q => h.u.dj id q hin) (fun q => by omega)
  refine hk U' s' hgid hfid n2 k2 B2.sl.co ⟨?_, ?_, ?_, ?_, by simp⟩
  · rw [hv] at M2 ⊢
    exact M2.sset (es2 := es1 ++ [[.int .i64 op, .int .i64 K, .int .i64 0, U']] ++ body.map rawC) rfl hgid (by simp)
  · rw [List.map_append]
    exact B2.upd _ hiU'
  · refine ⟨h.w.sl.keep fun j hj => ?_, h.w.new, h.w.dj⟩
    rw [Store.get_upd_ne _ _ (fun e => h.w.dj j hj (by rw [e]; exact hin)), k2 j (h.w.sl.lt hj) (fun hm => h.d j hm hj)]
  · intro j hj hw
    exact (f2 j hj).elim (fun q => h.d j q hw) (fun q => by have := h.w.sl.lt hw; omega)
end
end Go.AL
namespace Go.Proofs.Ytjjbjibbjbbeaaa
open Go.AL
/-- What makes a value. -/
abbrev ValC (x : Cr) : Prop := ∀ (σ : Store) (T tid fid : Nat) (g : Gl) (v : AV) (es : List (List AV)) (lv : Lv) (d : Int) (last : Bool), BAt σ fid v (.ptr tid 0 0 0) es → Ab σ T tid g fid v → LvOK lv x.bulk → (∀ q, q ∈ es → q.length = 4) → es.length + 9 * x.bulk ≤ 40000000 → 0 ≤ d → d + 2 * x.bulk ≤ 100000000 →
  ACalls Try.prog 106 [.ptr fid 0 0 0, .agg x.cells, .list (lv.map lvC), .int .i64 d, .bool last] σ fun r s => (∃ z : Unit, r = .tuple [] ∧ BPost σ fid v (.ptr tid 0 0 0) (es ++ (valS g opS lv d last es.length x).map rawC) s)
set_option maxHeartbeats 1000000 in
theorem cases_ok (k : Int) (nm : ByteArray) (n ar : Int) (ps : List ByteArray) (a : Cr) (al : List (AltH × Cr)) (bs : List (ByteArray × Cr)) (pk : List (Int × Cr)) (ia : ValC a) (ih : ∀ x, x ∈ al → ValC x.2)
    (σ : Store) (T tid fid : Nat) (g : Gl) (v : AV) (es : List (List AV)) (lv : Lv) (d : Int) (last : Bool) (h : BAt σ fid v (.ptr tid 0 0 0) es) (ha : Ab σ T tid g fid v) (hlv : LvOK lv (a.bulk + Cr.bulkA al)) (h4 : ∀ q, q ∈ es → q.length = 4)
    (hes : es.length + 9 * (a.bulk + Cr.bulkA al) ≤ 40000000) (hd0 : 0 ≤ d) (hd : d + 2 * (a.bulk + Cr.bulkA al : Nat) ≤ 100000000) :
    ACalls Try.prog 152 [.ptr fid 0 0 0, .agg (Cr.mk k nm n ar ps [a] al bs pk).cells, .list (lv.map lvC), .int .i64 d, .bool last] σ fun r s => (∃ z : Unit, r = .tuple [] ∧ BPost σ fid v (.ptr tid 0 0 0)
      (es ++ ((valS g opS lv d false es.length a) ++ [Ins.mk 13 (altK g opS lv d last (es.length + (valS g opS lv d false es.length a).length + 1) (-1) al) 0 (altJ g opS lv d last (es.length + (valS g opS lv d false es.length a).length + 1) al)] ++
        altS g opS lv d last (es.length + (valS g opS lv d false es.length a).length + 1) (es.length + (valS g opS lv d false es.length a).length + 1 + (altS g opS lv d last (es.length + (valS g opS lv d false es.length a).length + 1) 0 al).length) al).map rawC) s) := by
  refine in152 (by simp) ?_
  unfold c152
  rw [Cr.cells_eq]
  have hal := Cr.lenA al
  try simp only [ZZ, ↓reduceIte, Nat.reduceEqDiff, Nat.reduceAdd, Nat.reduceLeDiff, reduceCtorEq, Int.reduceEq, Int.reduceLT, Int.reduceLE, Int.reduceNeg, Int.reduceAdd, Int.reduceSub, Int.reduceToNat]
  iterate 2 ((with_reducible first | refine W1 ?_ | refine W2 ?_ | refine W3 ?_ | refine W4 ?_ | refine W5 ?_ | refine W6 ?_ | refine W7 ?_ | refine W8 ?_ | refine W9 ?_); refine unr ?_; try simp only [ZZ, ↓reduceIte, Nat.reduceEqDiff, Nat.reduceAdd, Nat.reduceLeDiff, reduceCtorEq, Int.reduceEq, Int.reduceLT, Int.reduceLE, Int.reduceNeg, Int.reduceAdd, Int.reduceSub, Int.reduceToNat])
  generalize hs : Store.push _ _ = s1
  have k1 : Kp σ s1 := by rw [← hs]; exact (Kp.pushed _ _)
  have hn1 : s1.next = σ.next + 1 := by rw [← hs]; rfl
  have M0 := MB.start h k1 (N := σ.next + 1) (by omega)
  have hff := M0.fid
  have e1 : s1.get σ.next = some (.cells 54 0 9 [[.int .i64 k, .str nm, .int .i64 n, .int .i64 ar, strs ps, .list ([a].map Cr.cells), .list (al.map altC), .list (bs.map bindC), .list (pk.map pickC)]]) := by rw [← hs]; simp [Store.push_get, Store.push_next]
  clear hs
  have hvl := valS_len g opS a lv d false es.length
  refine raw ?_
  repeat (first | (with_reducible refine unr ?_; try simp only [ZZ, ↓reduceIte, Nat.reduceEqDiff, Nat.reduceAdd, Nat.reduceLeDiff, reduceCtorEq, Int.reduceEq, Int.reduceLT, Int.reduceLE, Int.reduceNeg, Int.reduceAdd, Int.reduceSub, Int.reduceToNat, e1, Cr.len, Cr.take9]) | (with_reducible first | refine W1 ?_ | refine W2 ?_ | refine W3 ?_ | refine W4 ?_ | refine W5 ?_ | refine W6 ?_ | refine W7 ?_ | refine W8 ?_ | refine W9 ?_))
  refine (ia _ T tid fid g v es lv d false M0.la (M0.ab ha) (hlv.mono (by omega)) h4 (by omega) hd0 (by omega)).mono ?_
  rintro _ s2 ⟨_, rfl, hP⟩
  obtain ⟨v2, M2, hk2, -, hn2⟩ := M0.call hP
  have e2 := hk2 σ.next (by omega) (by omega) (M0.loc (Nat.le_refl _) (by omega))
  rw [e1] at e2
  have hbase : (es ++ (valS g opS lv d false es.length a).map rawC).length = es.length + (valS g opS lv d false es.length a).length := by simp
  have h41 := app_4 h4 (map_4 (valS g opS lv d false es.length a))
  rw [List.map_append, List.map_append, ← List.append_assoc, ← List.append_assoc]
  generalize valS g opS lv d false es.length a = head at M2 hbase h41 hvl ⊢
  generalize hE1 : es ++ head.map rawC = es1 at M2 hbase h41 ⊢
  refine raw ?_
  repeat (first | (with_reducible refine unr ?_; try simp only [ZZ, ↓reduceIte, Nat.reduceEqDiff, Nat.reduceAdd, Nat.reduceLeDiff, reduceCtorEq, Int.reduceEq, Int.reduceLT, Int.reduceLE, Int.reduceNeg, Int.reduceAdd, Int.reduceSub, Int.reduceToNat]) | (with_reducible first | refine W1 ?_ | refine W2 ?_ | refine W3 ?_ | refine W4 ?_ | refine W5 ?_ | refine W6 ?_ | refine W7 ?_ | refine W8 ?_ | refine W9 ?_))
  refine (put_ok M2.la (by omega) 13 (-1)).mono ?_
  rintro _ s3 ⟨_, rfl, hP⟩
  obtain ⟨v3, M3, hk3, -, hn3⟩ := M2.call hP
  have e3 := hk3 σ.next (by omega) (by omega) (M2.loc (Nat.le_refl _) (by omega))
  rw [e2] at e3
  generalize hB : es.length + head.length + 1 = base at hbase ⊢
  have hb1 : es1.length + 1 = base := by omega
  have C0 : CS σ s3 (σ.next + 1) fid v v3 (.ptr tid 0 0 0) es1 13 (-1) .nils .nils [] [] [] := ⟨by simpa [rawC, ik] using M3, BesB.start _ _ _ _ _, by simpa [placesC] using BesB.start _ _ _ _ _, by simp [slIds], fun _ => rfl⟩
  try simp only [ZZ, ↓reduceIte, Nat.reduceEqDiff, Nat.reduceAdd, Nat.reduceLeDiff, reduceCtorEq, Int.reduceEq, Int.reduceLT, Int.reduceLE, Int.reduceNeg, Int.reduceAdd, Int.reduceSub, Int.reduceToNat, e3]
  iterate 2 ((with_reducible first | refine W1 ?_ | refine W2 ?_ | refine W3 ?_ | refine W4 ?_ | refine W5 ?_ | refine W6 ?_ | refine W7 ?_ | refine W8 ?_ | refine W9 ?_); refine unr ?_; try simp only [ZZ, ↓reduceIte, Nat.reduceEqDiff, Nat.reduceAdd, Nat.reduceLeDiff, reduceCtorEq, Int.reduceEq, Int.reduceLT, Int.reduceLE, Int.reduceNeg, Int.reduceAdd, Int.reduceSub, Int.reduceToNat, e3])
  refine AWP_cut [0, 11] (fun y : AV × AV => [.ptr fid 0 0 0, y.2]) (fun y s => ∃ v', CS σ s (σ.next + 1) fid v v' (.ptr tid 0 0 0) es1 13 (altK g opS lv d last base (-1) al) y.1 y.2 (altJ g opS lv d last base al) (posA g opS lv d last base al) (altS g opS lv d last base 0 al)) ?_ ?_
  · refine raw ?_
    repeat (first | (with_reducible refine unr ?_; try simp only [ZZ, ↓reduceIte, Nat.reduceEqDiff, Nat.reduceAdd, Nat.reduceLeDiff, reduceCtorEq, Int.reduceEq, Int.reduceLT, Int.reduceLE, Int.reduceNeg, Int.reduceAdd, Int.reduceSub, Int.reduceToNat, e3]) | (with_reducible first | refine W1 ?_ | refine W2 ?_ | refine W3 ?_ | refine W4 ?_ | refine W5 ?_ | refine W6 ?_ | refine W7 ?_ | refine W8 ?_ | refine W9 ?_))
    refine AWP_while [0, 2, 3, 4, 10, 11, 27, 28, 29] (fun y : (AV × AV × AV) × Nat => al.length - y.2) (fun y => [.ptr fid 0 0 0, .list (lv.map lvC), .int .i64 d, .bool last, .int .i64 es1.length, y.1.2.2, .list (al.map altC), .int .i64 al.length, .int .i64 y.2])
      (fun y s => y.2 ≤ al.length ∧ CS σ s (σ.next + 1) fid v y.1.1 (.ptr tid 0 0 0) es1 13 (altK g opS lv d last base (-1) (al.take y.2)) y.1.2.1 y.1.2.2 (altJ g opS lv d last base (al.take y.2)) (posA g opS lv d last base (al.take y.2)) (altS g opS lv d last base 0 (al.take y.2)))
      ((v3, .nils, .nils), 0) ⟨by simp, by simpa [altK, altJ, posA, altS] using C0⟩ ?_ ?_
    · refine raw ?_
      repeat (first | (with_reducible refine unr ?_; try simp only [ZZ, ↓reduceIte, Nat.reduceEqDiff, Nat.reduceAdd, Nat.reduceLeDiff, reduceCtorEq, Int.reduceEq, Int.reduceLT, Int.reduceLE, Int.reduceNeg, Int.reduceAdd, Int.reduceSub, Int.reduceToNat]) | (with_reducible first | refine W1 ?_ | refine W2 ?_ | refine W3 ?_ | refine W4 ?_ | refine W5 ?_ | refine W6 ?_ | refine W7 ?_ | refine W8 ?_ | refine W9 ?_))
      rfl
    rintro ⟨⟨w, U, W⟩, i⟩ s ⟨hi, C⟩
    simp only at hi C
    have hw := wrap_succ (i := i) (by omega)
    by_cases hil : i < al.length
    · have hil' : (i : Int) < (al.length : Int) := by omega
      obtain ⟨x, hx⟩ : ∃ x, al[i]? = some x := ⟨_, List.getElem?_eq_getElem hil⟩
      have hxm := List.mem_of_getElem? hx
      have hg : (al.map altC)[i]? = some (altC x) := by simp [hx]
      have hbx := Cr.bulkA_take hx
      have hxb := Cr.bulkA_le hxm
      have hsl := altS_len g opS (al.take i) lv d last base 0
      have hsucc := take_succ_at hx
      obtain ⟨hh, x⟩ := x
      simp only at hbx hxb
      have hCl := C.len
      have eK := altK_app g opS lv d last (al.take i) [(hh, x)] base (-1)
      have eJ := altJ_app g opS lv d last (al.take i) [(hh, x)] base
      have eS := altS_app g opS lv d last (al.take i) [(hh, x)] base 0
      have eP := posA_app g opS lv d last (al.take i) [(hh, x)] base
      rw [← hsucc] at eK eJ eS eP
      rw [altK_cons, altK] at eK
      rw [altJ_cons, altJ, List.append_nil] at eJ
      rw [altS_cons, altS, List.append_nil] at eS
      rw [posA, posA, List.append_nil] at eP
      generalize hK0 : altK g opS lv d last base (-1) (al.take i) = K0 at C hCl eK
      generalize hJ0 : altJ g opS lv d last base (al.take i) = J0 at C eJ
      generalize hP0 : posA g opS lv d last base (al.take i) = P0 at C eP
      generalize hS0 : altS g opS lv d last base 0 (al.take i) = S0 at C hCl eK eJ eS eP hsl
      have hJl : J0.length ≤ al.length := by rw [← hJ0]; have := altJ_len g opS lv d last (al.take i) base; simp at this; omega
      have hPl : P0.length ≤ al.length := by rw [← hP0]; have := posA_len g opS lv d last (al.take i) base; simp at this; omega
      have hlenw := C.m.la.sl.len
      rw [hCl, hb1] at hlenw
      have hqf := lt_ne (s.lt C.m.la.hd)
      try simp only [ZZ, ↓reduceIte, Nat.reduceEqDiff, Nat.reduceAdd, Nat.reduceLeDiff, reduceCtorEq, Int.reduceEq, Int.reduceLT, Int.reduceLE, Int.reduceNeg, Int.reduceAdd, Int.reduceSub, Int.reduceToNat, hil', hg, altC, AltH.cells, Cr.len, Cr.take9, C.m.la.hd, hlenw, hqf]
      iterate 11 ((with_reducible first | refine W1 ?_ | refine W2 ?_ | refine W3 ?_ | refine W4 ?_ | refine W5 ?_ | refine W6 ?_ | refine W7 ?_ | refine W8 ?_ | refine W9 ?_); refine unr ?_; try simp only [ZZ, ↓reduceIte, Nat.reduceEqDiff, Nat.reduceAdd, Nat.reduceLeDiff, reduceCtorEq, Int.reduceEq, Int.reduceLT, Int.reduceLE, Int.reduceNeg, Int.reduceAdd, Int.reduceSub, Int.reduceToNat, hil', hg, altC, AltH.cells, Cr.len, Cr.take9, C.m.la.hd, hlenw, hqf])
      have Cp := C.push (.cells 113 0 13 [AV.int .i64 hh.k :: AV.str hh.nm :: AV.int .i64 hh.n :: strs hh.ps :: x.cells])
      have go0 : (s.push (.cells 113 0 13 [AV.int .i64 hh.k :: AV.str hh.nm :: AV.int .i64 hh.n :: strs hh.ps :: x.cells])).get s.next = some (.cells 113 0 13 [AV.int .i64 hh.k :: AV.str hh.nm :: AV.int .i64 hh.n :: strs hh.ps :: x.cells]) := by simp [Store.push_get]
      have gon : s.next ∉ slIds w := fun hm => by have := C.m.la.sl.lt hm; omega
      have gou : s.next ∉ slIds U := fun hm => by have := C.u.sl.lt hm; omega
      have gow : s.next ∉ slIds W := fun hm => by have := C.w.sl.lt hm; omega
      have gof : s.next ≠ fid := by have := s.lt C.m.la.hd; omega
      have hgn : s.next < (s.push (.cells 113 0 13 [AV.int .i64 hh.k :: AV.str hh.nm :: AV.int .i64 hh.n :: strs hh.ps :: x.cells])).next := by rw [Store.push_next]; omega
      generalize Store.push s _ = s' at Cp go0 hgn ⊢
      obtain ⟨id, ver, es', hv, hgid⟩ := Cp.m.own (by simp)
      have hidg : id ≠ s.next := fun e => gon (by rw [hv, ← e]; simp [slIds])
      obtain ⟨K1, hK1⟩ : ∃ K1 : Int, K1 = (if hh.k = 1 ∨ hh.k = 2 then K0 else ((base + S0.length : Nat) : Int)) := ⟨_, rfl⟩
      obtain ⟨J1, hJ1⟩ : ∃ J1 : List (Int × Int), J1 = J0 ++ (if hh.k = 1 then [(conIdx g hh.nm, ((base + S0.length : Nat) : Int))] else if hh.k = 2 then [(hh.n, ((base + S0.length : Nat) : Int))] else []) := ⟨_, rfl⟩
      obtain ⟨oc, hoc⟩ : ∃ oc : List (List AV), oc = [AV.int .i64 hh.k :: AV.str hh.nm :: AV.int .i64 hh.n :: strs hh.ps :: x.cells] := ⟨_, rfl⟩
      have go1 := go0
      rw [← hoc] at go1
      refine AWP_cut [0, 2, 3, 4, 10, 11, 13, 14, 27, 28, 29] (fun U' : AV => [.ptr fid 0 0 0, .list (lv.map lvC), .int .i64 d, .bool last, .int .i64 es1.length, W, .ptr s.next 0 0 0, .int .i64 ((base + S0.length : Nat) : Int), .list (al.map altC), .int .i64 al.length, .int .i64 i])
        (fun U' t => CS σ t (σ.next + 1) fid v w (.ptr tid 0 0 0) es1 13 K1 U' W J1 P0 S0 ∧ t.get s.next = some (.cells 113 0 13 oc) ∧ s'.next ≤ t.next) ?_ ?_
      · by_cases hk1 : hh.k = 1
        · obtain ⟨⟨sm, cm, fv, sme, cme, t1, t2, t3, t4, t5, t6, t7, t8, t9, t10, t11⟩, hsm⟩ := (Cp.m.ab ha).t
          have hL : (es1.length : Int) < ((es1 ++ [[AV.int .i64 13, AV.int .i64 K0, AV.int .i64 0, U]] ++ S0.map rawC).length : Int) := by rw [hCl]; omega
          have hatU : (es1 ++ [[AV.int .i64 13, AV.int .i64 K0, AV.int .i64 0, U]] ++ S0.map rawC ++ es')[es1.length]? = some [AV.int .i64 13, AV.int .i64 K0, AV.int .i64 0, U] := at_one rfl _
          have hdf := Cp.m.la.hd
          rw [hv] at hdf
          rcases t6 hh.nm with ⟨hci, hcf⟩ | ⟨ci, cj, hci, hcf⟩
          · have hcz : conIdx g hh.nm = 0 := by unfold conIdx; rw [hci]
            refine raw ?_
            repeat (first | (with_reducible refine unr ?_; try simp only [ZZ, ↓reduceIte, Nat.reduceEqDiff, Nat.reduceAdd, Nat.reduceLeDiff, reduceCtorEq, Int.reduceEq, Int.reduceLT, Int.reduceLE, Int.reduceNeg, Int.reduceAdd, Int.reduceSub, Int.reduceToNat, go0, hk1, hdf, hgid, hL, hatU, t1, t3, hcf, findVal]) | (with_reducible first | refine W1 ?_ | refine W2 ?_ | refine W3 ?_ | refine W4 ?_ | refine W5 ?_ | refine W6 ?_ | refine W7 ?_ | refine W8 ?_ | refine W9 ?_))
            refine ok_csJ Cp (by omega) (by omega) 0 ((base + S0.length : Nat) : Int) hv hgid ?_
            intro U' s4 g4 f4 n4 k4 co4 C4
            have hset := set_at (m := S0.map rawC) (r := es') (n := es1.length) rfl [AV.int .i64 13, AV.int .i64 K0, AV.int .i64 0, U] [AV.int .i64 13, AV.int .i64 K0, AV.int .i64 0, U']
            rw [hdf] at f4
            have o4 := k4 s.next hgn gou
            rw [go1] at o4
            refine raw ?_
            repeat (first | (with_reducible refine unr ?_; try simp only [ZZ, ↓reduceIte, Nat.reduceEqDiff, Nat.reduceAdd, Nat.reduceLeDiff, reduceCtorEq, Int.reduceEq, Int.reduceLT, Int.reduceLE, Int.reduceNeg, Int.reduceAdd, Int.reduceSub, Int.reduceToNat, f4, g4, hL, hatU, co4]) | (with_reducible first | refine W1 ?_ | refine W2 ?_ | refine W3 ?_ | refine W4 ?_ | refine W5 ?_ | refine W6 ?_ | refine W7 ?_ | refine W8 ?_ | refine W9 ?_))
            rw [hset]
            refine ⟨U', ?_, ?_, n4⟩
            · rw [hK1, hJ1, if_pos (Or.inl hk1), if_pos hk1, hcz]; exact C4
            · rw [Store.get_upd_ne _ _ (fun e => hidg e.symm)]; exact o4
          · have hcz : conIdx g hh.nm = ci := by unfold conIdx; rw [hci]
            refine raw ?_
            repeat (first | (with_reducible refine unr ?_; try simp only [ZZ, ↓reduceIte, Nat.reduceEqDiff, Nat.reduceAdd, Nat.reduceLeDiff, reduceCtorEq, Int.reduceEq, Int.reduceLT, Int.reduceLE, Int.reduceNeg, Int.reduceAdd, Int.reduceSub, Int.reduceToNat, go0, hk1, hdf, hgid, hL, hatU, t1, t3, hcf, findVal]) | (with_reducible first | refine W1 ?_ | refine W2 ?_ | refine W3 ?_ | refine W4 ?_ | refine W5 ?_ | refine W6 ?_ | refine W7 ?_ | refine W8 ?_ | refine W9 ?_))
            refine ok_csJ Cp (by omega) (by omega) (ci : Int) ((base + S0.length : Nat) : Int) hv hgid ?_
            intro U' s4 g4 f4 n4 k4 co4 C4
            have hset := set_at (m := S0.map rawC) (r := es') (n := es1.length) rfl [AV.int .i64 13, AV.int .i64 K0, AV.int .i64 0, U] [AV.int .i64 13, AV.int .i64 K0, AV.int .i64 0, U']
            rw [hdf] at f4
            have o4 := k4 s.next hgn gou
            rw [go1] at o4
            refine raw ?_
            repeat (first | (with_reducible refine unr ?_; try simp only [ZZ, ↓reduceIte, Nat.reduceEqDiff, Nat.reduceAdd, Nat.reduceLeDiff, reduceCtorEq, Int.reduceEq, Int.reduceLT, Int.reduceLE, Int.reduceNeg, Int.reduceAdd, Int.reduceSub, Int.reduceToNat, f4, g4, hL, hatU, co4]) | (with_reducible first | refine W1 ?_ | refine W2 ?_ | refine W3 ?_ | refine W4 ?_ | refine W5 ?_ | refine W6 ?_ | refine W7 ?_ | refine W8 ?_ | refine W9 ?_))
            rw [hset]
            refine ⟨U', ?_, ?_, n4⟩
            · rw [hK1, hJ1, if_pos (Or.inl hk1), if_pos hk1, hcz]; exact C4
            · rw [Store.get_upd_ne _ _ (fun e => hidg e.symm)]; exact o4
        by_cases hk2 : hh.k = 2
        · have hL : (es1.length : Int) < ((es1 ++ [[AV.int .i64 13, AV.int .i64 K0, AV.int .i64 0, U]] ++ S0.map rawC).length : Int) := by rw [hCl]; omega
          have hatU : (es1 ++ [[AV.int .i64 13, AV.int .i64 K0, AV.int .i64 0, U]] ++ S0.map rawC ++ es')[es1.length]? = some [AV.int .i64 13, AV.int .i64 K0, AV.int .i64 0, U] := at_one rfl _
          have hdf := Cp.m.la.hd
          rw [hv] at hdf
          refine raw ?_
          repeat (first | (with_reducible refine unr ?_; try simp only [ZZ, ↓reduceIte, Nat.reduceEqDiff, Nat.reduceAdd, Nat.reduceLeDiff, reduceCtorEq, Int.reduceEq, Int.reduceLT, Int.reduceLE, Int.reduceNeg, Int.reduceAdd, Int.reduceSub, Int.reduceToNat, go0, hk1, hk2, hdf, hgid, hL, hatU]) | (with_reducible first | refine W1 ?_ | refine W2 ?_ | refine W3 ?_ | refine W4 ?_ | refine W5 ?_ | refine W6 ?_ | refine W7 ?_ | refine W8 ?_ | refine W9 ?_))
          refine ok_csJ Cp (by omega) (by omega) hh.n ((base + S0.length : Nat) : Int) hv hgid ?_
          intro U' s4 g4 f4 n4 k4 co4 C4
          have hset := set_at (m := S0.map rawC) (r := es') (n := es1.length) rfl [AV.int .i64 13, AV.int .i64 K0, AV.int .i64 0, U] [AV.int .i64 13, AV.int .i64 K0, AV.int .i64 0, U']
          rw [hdf] at f4
          have o4 := k4 s.next hgn gou
          rw [go1] at o4
          refine raw ?_
          repeat (first | (with_reducible refine unr ?_; try simp only [ZZ, ↓reduceIte, Nat.reduceEqDiff, Nat.reduceAdd, Nat.reduceLeDiff, reduceCtorEq, Int.reduceEq, Int.reduceLT, Int.reduceLE, Int.reduceNeg, Int.reduceAdd, Int.reduceSub, Int.reduceToNat, f4, g4, hL, hatU, co4]) | (with_reducible first | refine W1 ?_ | refine W2 ?_ | refine W3 ?_ | refine W4 ?_ | refine W5 ?_ | refine W6 ?_ | refine W7 ?_ | refine W8 ?_ | refine W9 ?_))
          rw [hset]
          refine ⟨U', ?_, ?_, n4⟩
          · rw [hK1, hJ1, if_pos (Or.inr hk2), if_neg hk1, if_pos hk2]; exact C4
          · rw [Store.get_upd_ne _ _ (fun e => hidg e.symm)]; exact o4
        · have hL : (es1.length : Int) < ((es1 ++ [[AV.int .i64 13, AV.int .i64 K0, AV.int .i64 0, U]] ++ S0.map rawC).length : Int) := by rw [hCl]; omega
          have hatU : (es1 ++ [[AV.int .i64 13, AV.int .i64 K0, AV.int .i64 0, U]] ++ S0.map rawC ++ es')[es1.length]? = some [AV.int .i64 13, AV.int .i64 K0, AV.int .i64 0, U] := at_one rfl _
          have hdf := Cp.m.la.hd
          rw [hv] at hdf
          have hset := set_at (m := S0.map rawC) (r := es') (n := es1.length) rfl [AV.int .i64 13, AV.int .i64 K0, AV.int .i64 0, U] [AV.int .i64 13, AV.int .i64 ((base + S0.length : Nat) : Int), AV.int .i64 0, U]
          have C4 := Cp.setK ((base + S0.length : Nat) : Int) hv hgid
          refine raw ?_
          repeat (first | (with_reducible refine unr ?_; try simp only [ZZ, ↓reduceIte, Nat.reduceEqDiff, Nat.reduceAdd, Nat.reduceLeDiff, reduceCtorEq, Int.reduceEq, Int.reduceLT, Int.reduceLE, Int.reduceNeg, Int.reduceAdd, Int.reduceSub, Int.reduceToNat, go0, hk1, hk2, hdf, hgid, hL, hatU]) | (with_reducible first | refine W1 ?_ | refine W2 ?_ | refine W3 ?_ | refine W4 ?_ | refine W5 ?_ | refine W6 ?_ | refine W7 ?_ | refine W8 ?_ | refine W9 ?_))
          rw [hset]
          refine ⟨U, ?_, ?_⟩
          · rw [hK1, hJ1, if_neg (fun h => h.elim hk1 hk2), if_neg hk1, if_neg hk2, List.append_nil]; exact C4
          · rw [Store.get_upd_ne _ _ (fun e => hidg e.symm)]; exact go1
      rintro U1 t1 ⟨C1, o1, n1⟩
      have o1' := o1
      rw [hoc] at o1'
      have h411 := app_4 (app_4 h41 (b := [[AV.int .i64 13, AV.int .i64 K1, AV.int .i64 0, U1]]) (by simp)) (map_4 S0)
      have hCl1 := C1.len
      have hlt1 := t1.lt o1
      have gof1 : s.next ≠ fid := gof
      have goN : ∀ {v' : AV}, s.next ∉ slIds w → True := fun _ => trivial
      obtain ⟨first, hfirst⟩ : ∃ f : Ins, f = (if hh.k = 1 then ik 12 hh.ps.length else ik 6 1) := ⟨_, rfl⟩
      try simp only [ZZ, ↓reduceIte, Nat.reduceEqDiff, Nat.reduceAdd, Nat.reduceLeDiff, reduceCtorEq, Int.reduceEq, Int.reduceLT, Int.reduceLE, Int.reduceNeg, Int.reduceAdd, Int.reduceSub, Int.reduceToNat, o1']
      iterate 2 ((with_reducible first | refine W1 ?_ | refine W2 ?_ | refine W3 ?_ | refine W4 ?_ | refine W5 ?_ | refine W6 ?_ | refine W7 ?_ | refine W8 ?_ | refine W9 ?_); refine unr ?_; try simp only [ZZ, ↓reduceIte, Nat.reduceEqDiff, Nat.reduceAdd, Nat.reduceLeDiff, reduceCtorEq, Int.reduceEq, Int.reduceLT, Int.reduceLE, Int.reduceNeg, Int.reduceAdd, Int.reduceSub, Int.reduceToNat, o1'])
      refine AWP_cut [0, 2, 3, 4, 10, 11, 13, 15, 27, 28, 29] (fun _ : Unit => [.ptr fid 0 0 0, .list (lv.map lvC), .int .i64 d, .bool last, .int .i64 es1.length, W, .ptr s.next 0 0 0, .int .i64 hh.ps.length, .list (al.map altC), .int .i64 al.length, .int .i64 i])
        (fun _ t => ∃ w', CS σ t (σ.next + 1) fid v w' (.ptr tid 0 0 0) es1 13 K1 U1 W J1 P0 (S0 ++ [first]) ∧ t.get s.next = some (.cells 113 0 13 oc) ∧ t1.next ≤ t.next ∧ s.next ∉ slIds w') ?_ ?_
      · by_cases hk1 : hh.k = 1
        · rw [if_pos hk1] at hfirst
          have hd' : decide (hh.k = 1) = true := decide_eq_true hk1
          refine raw ?_
          repeat (first | (with_reducible refine unr ?_; try simp only [ZZ, ↓reduceIte, Nat.reduceEqDiff, Nat.reduceAdd, Nat.reduceLeDiff, reduceCtorEq, Int.reduceEq, Int.reduceLT, Int.reduceLE, Int.reduceNeg, Int.reduceAdd, Int.reduceSub, Int.reduceToNat, o1', hd']) | (with_reducible first | refine W1 ?_ | refine W2 ?_ | refine W3 ?_ | refine W4 ?_ | refine W5 ?_ | refine W6 ?_ | refine W7 ?_ | refine W8 ?_ | refine W9 ?_))
          refine (put_ok C1.m.la (by rw [hCl1]; omega) 12 _).mono ?_
          rintro _ t2 ⟨_, rfl, hP⟩
          obtain ⟨w2, C2, hk2', hn2', hf2'⟩ := C1.call [first] (by rw [hfirst]; exact hP)
          refine raw ?_
          repeat (first | (with_reducible refine unr ?_; try simp only [ZZ, ↓reduceIte, Nat.reduceEqDiff, Nat.reduceAdd, Nat.reduceLeDiff, reduceCtorEq, Int.reduceEq, Int.reduceLT, Int.reduceLE, Int.reduceNeg, Int.reduceAdd, Int.reduceSub, Int.reduceToNat]) | (with_reducible first | refine W1 ?_ | refine W2 ?_ | refine W3 ?_ | refine W4 ?_ | refine W5 ?_ | refine W6 ?_ | refine W7 ?_ | refine W8 ?_ | refine W9 ?_))
          exact ⟨(), w2, C2, by rw [hk2' s.next hlt1 gof gon]; exact o1, hn2', fun hm => (hf2' _ hm).elim gon (fun q => by omega)⟩
        · rw [if_neg hk1] at hfirst
          have hd' : decide (hh.k = 1) = false := decide_eq_false hk1
          refine raw ?_
          repeat (first | (with_reducible refine unr ?_; try simp only [ZZ, ↓reduceIte, Nat.reduceEqDiff, Nat.reduceAdd, Nat.reduceLeDiff, reduceCtorEq, Int.reduceEq, Int.reduceLT, Int.reduceLE, Int.reduceNeg, Int.reduceAdd, Int.reduceSub, Int.reduceToNat, o1', hd']) | (with_reducible first | refine W1 ?_ | refine W2 ?_ | refine W3 ?_ | refine W4 ?_ | refine W5 ?_ | refine W6 ?_ | refine W7 ?_ | refine W8 ?_ | refine W9 ?_))
          refine (put_ok C1.m.la (by rw [hCl1]; omega) 6 1).mono ?_
          rintro _ t2 ⟨_, rfl, hP⟩
          obtain ⟨w2, C2, hk2', hn2', hf2'⟩ := C1.call [first] (by rw [hfirst]; exact hP)
          refine raw ?_
          repeat (first | (with_reducible refine unr ?_; try simp only [ZZ, ↓reduceIte, Nat.reduceEqDiff, Nat.reduceAdd, Nat.reduceLeDiff, reduceCtorEq, Int.reduceEq, Int.reduceLT, Int.reduceLE, Int.reduceNeg, Int.reduceAdd, Int.reduceSub, Int.reduceToNat]) | (with_reducible first | refine W1 ?_ | refine W2 ?_ | refine W3 ?_ | refine W4 ?_ | refine W5 ?_ | refine W6 ?_ | refine W7 ?_ | refine W8 ?_ | refine W9 ?_))
          exact ⟨(), w2, C2, by rw [hk2' s.next hlt1 gof gon]; exact o1, hn2', fun hm => (hf2' _ hm).elim gon (fun q => by omega)⟩
      rintro _ t2 ⟨w2, C2, o2, n2, gon2⟩
      have o2' := o2
      rw [hoc] at o2'
      have hCl2 := C2.len
      rw [show (S0 ++ [first]).length = S0.length + 1 by simp] at hCl2
      have h42 := app_4 (app_4 h41 (b := [[AV.int .i64 13, AV.int .i64 K1, AV.int .i64 0, U1]]) (by simp)) (map_4 (S0 ++ [first]))
      have wd1 : IntKind.i64.wrap (d + (hh.ps.length : Int)) = d + (hh.ps.length : Int) := wrap_of (by omega) (by omega)
      have wd2 : IntKind.i64.wrap (d + (hh.ps.length : Int) - 1) = d + (hh.ps.length : Int) - 1 := wrap_of (by omega) (by omega)
      have hlw : LvOK (withS lv hh.ps (d + hh.ps.length - 1) (-1)) x.bulk := hlv.with hh.ps (d + hh.ps.length - 1) (-1) (.inr rfl) (by omega) (by omega)
      have hlvl := hlv.len
      have htlt := t2.lt o2
      refine raw ?_
      repeat (first | (with_reducible refine unr ?_; try simp only [ZZ, ↓reduceIte, Nat.reduceEqDiff, Nat.reduceAdd, Nat.reduceLeDiff, reduceCtorEq, Int.reduceEq, Int.reduceLT, Int.reduceLE, Int.reduceNeg, Int.reduceAdd, Int.reduceSub, Int.reduceToNat, o2', Cr.len, Cr.take9, wd1, wd2]) | (with_reducible first | refine W1 ?_ | refine W2 ?_ | refine W3 ?_ | refine W4 ?_ | refine W5 ?_ | refine W6 ?_ | refine W7 ?_ | refine W8 ?_ | refine W9 ?_))
      refine (with_ok lv hh.ps (d + hh.ps.length - 1) (-1) (by omega) (by omega) (.inr rfl) _).mono ?_
      rintro _ _ ⟨rfl, rfl⟩
      rename_i t2
      refine raw ?_
      repeat (first | (with_reducible refine unr ?_; try simp only [ZZ, ↓reduceIte, Nat.reduceEqDiff, Nat.reduceAdd, Nat.reduceLeDiff, reduceCtorEq, Int.reduceEq, Int.reduceLT, Int.reduceLE, Int.reduceNeg, Int.reduceAdd, Int.reduceSub, Int.reduceToNat, o2', Cr.len, Cr.take9]) | (with_reducible first | refine W1 ?_ | refine W2 ?_ | refine W3 ?_ | refine W4 ?_ | refine W5 ?_ | refine W6 ?_ | refine W7 ?_ | refine W8 ?_ | refine W9 ?_))
      have hvx := valS_len g opS x (withS lv hh.ps (d + hh.ps.length - 1) (-1)) (d + hh.ps.length) last (base + S0.length + 1)
      have hix := ih (hh, x) hxm t2 T tid fid g w2 _ (withS lv hh.ps (d + hh.ps.length - 1) (-1)) (d + hh.ps.length) last C2.m.la (C2.m.ab ha) hlw h42 (by rw [hCl2]; simp only; omega) (by omega) (by simp only; omega)
      rw [hCl2, show es1.length + 1 + (S0.length + 1) = base + S0.length + 1 by omega] at hix
      obtain ⟨vx, hvxe⟩ : ∃ vx, vx = valS g opS (withS lv hh.ps (d + hh.ps.length - 1) (-1)) (d + hh.ps.length) last (base + S0.length + 1) x := ⟨_, rfl⟩
      simp only at hix
      rw [← hvxe] at hix hvx
      refine hix.mono ?_
      rintro _ t3 ⟨_, rfl, hP⟩
      obtain ⟨w3, C3, hk3', hn3', hf3'⟩ := C2.call vx hP
      have o3 := hk3' s.next htlt gof gon2
      rw [o2] at o3
      have gon3 : s.next ∉ slIds w3 := fun hm => (hf3' _ hm).elim gon2 (fun q => by omega)
      have o3' := o3
      rw [hoc] at o3'
      have hCl3 := C3.len
      rw [show (S0 ++ [first] ++ vx).length = S0.length + 1 + vx.length by simp; omega] at hCl3
      have hlt3 := t3.lt o3
      try simp only [ZZ, ↓reduceIte, Nat.reduceEqDiff, Nat.reduceAdd, Nat.reduceLeDiff, reduceCtorEq, Int.reduceEq, Int.reduceLT, Int.reduceLE, Int.reduceNeg, Int.reduceAdd, Int.reduceSub, Int.reduceToNat]
      iterate 0 ((with_reducible first | refine W1 ?_ | refine W2 ?_ | refine W3 ?_ | refine W4 ?_ | refine W5 ?_ | refine W6 ?_ | refine W7 ?_ | refine W8 ?_ | refine W9 ?_); refine unr ?_; try simp only [ZZ, ↓reduceIte, Nat.reduceEqDiff, Nat.reduceAdd, Nat.reduceLeDiff, reduceCtorEq, Int.reduceEq, Int.reduceLT, Int.reduceLE, Int.reduceNeg, Int.reduceAdd, Int.reduceSub, Int.reduceToNat])
      obtain ⟨sl, hsl'⟩ : ∃ sl : List Ins, sl = (if hh.k = 1 ∧ last = false then [ik 7 hh.ps.length] else []) := ⟨_, rfl⟩
      have hsll : sl.length ≤ 1 := by rw [hsl']; split <;> simp
      refine AWP_cut [0, 2, 3, 4, 10, 11, 27, 28, 29] (fun _ : Unit => [.ptr fid 0 0 0, .list (lv.map lvC), .int .i64 d, .bool last, .int .i64 es1.length, W, .list (al.map altC), .int .i64 al.length, .int .i64 i])
        (fun _ t => ∃ w', CS σ t (σ.next + 1) fid v w' (.ptr tid 0 0 0) es1 13 K1 U1 W J1 P0 (S0 ++ [first] ++ vx ++ sl)) ?_ ?_
      · by_cases hs : hh.k = 1 ∧ last = false
        · rw [if_pos hs] at hsl'
          obtain ⟨hk1, hl0⟩ := hs
          have hd' : decide (hh.k = 1) = true := decide_eq_true hk1
          subst hl0
          refine raw ?_
          repeat (first | (with_reducible refine unr ?_; try simp only [ZZ, ↓reduceIte, Nat.reduceEqDiff, Nat.reduceAdd, Nat.reduceLeDiff, reduceCtorEq, Int.reduceEq, Int.reduceLT, Int.reduceLE, Int.reduceNeg, Int.reduceAdd, Int.reduceSub, Int.reduceToNat, o3', hd']) | (with_reducible first | refine W1 ?_ | refine W2 ?_ | refine W3 ?_ | refine W4 ?_ | refine W5 ?_ | refine W6 ?_ | refine W7 ?_ | refine W8 ?_ | refine W9 ?_))
          refine (put_ok C3.m.la (by rw [hCl3]; omega) 7 _).mono ?_
          rintro _ t4 ⟨_, rfl, hP⟩
          obtain ⟨w4, C4, -, -, -⟩ := C3.call [ik 7 hh.ps.length] hP
          refine raw ?_
          repeat (first | (with_reducible refine unr ?_; try simp only [ZZ, ↓reduceIte, Nat.reduceEqDiff, Nat.reduceAdd, Nat.reduceLeDiff, reduceCtorEq, Int.reduceEq, Int.reduceLT, Int.reduceLE, Int.reduceNeg, Int.reduceAdd, Int.reduceSub, Int.reduceToNat]) | (with_reducible first | refine W1 ?_ | refine W2 ?_ | refine W3 ?_ | refine W4 ?_ | refine W5 ?_ | refine W6 ?_ | refine W7 ?_ | refine W8 ?_ | refine W9 ?_))
          rw [hsl']
          exact ⟨(), w4, C4⟩
        · rw [if_neg hs] at hsl'
          rw [hsl', List.append_nil]
          cases last with
          | true =>
            by_cases hk1 : hh.k = 1
            · have hd' : decide (hh.k = 1) = true := decide_eq_true hk1
              refine raw ?_
              repeat (first | (with_reducible refine unr ?_; try simp only [ZZ, ↓reduceIte, Nat.reduceEqDiff, Nat.reduceAdd, Nat.reduceLeDiff, reduceCtorEq, Int.reduceEq, Int.reduceLT, Int.reduceLE, Int.reduceNeg, Int.reduceAdd, Int.reduceSub, Int.reduceToNat, o3', hd']) | (with_reducible first | refine W1 ?_ | refine W2 ?_ | refine W3 ?_ | refine W4 ?_ | refine W5 ?_ | refine W6 ?_ | refine W7 ?_ | refine W8 ?_ | refine W9 ?_))
              exact ⟨(), w3, C3⟩
            · have hd' : decide (hh.k = 1) = false := decide_eq_false hk1
              refine raw ?_
              repeat (first | (with_reducible refine unr ?_; try simp only [ZZ, ↓reduceIte, Nat.reduceEqDiff, Nat.reduceAdd, Nat.reduceLeDiff, reduceCtorEq, Int.reduceEq, Int.reduceLT, Int.reduceLE, Int.reduceNeg, Int.reduceAdd, Int.reduceSub, Int.reduceToNat, o3', hd']) | (with_reducible first | refine W1 ?_ | refine W2 ?_ | refine W3 ?_ | refine W4 ?_ | refine W5 ?_ | refine W6 ?_ | refine W7 ?_ | refine W8 ?_ | refine W9 ?_))
              exact ⟨(), w3, C3⟩
          | false =>
            have hk1 : ¬ hh.k = 1 := fun hk => hs ⟨hk, rfl⟩
            have hd' : decide (hh.k = 1) = false := decide_eq_false hk1
            refine raw ?_
            repeat (first | (with_reducible refine unr ?_; try simp only [ZZ, ↓reduceIte, Nat.reduceEqDiff, Nat.reduceAdd, Nat.reduceLeDiff, reduceCtorEq, Int.reduceEq, Int.reduceLT, Int.reduceLE, Int.reduceNeg, Int.reduceAdd, Int.reduceSub, Int.reduceToNat, o3', hd']) | (with_reducible first | refine W1 ?_ | refine W2 ?_ | refine W3 ?_ | refine W4 ?_ | refine W5 ?_ | refine W6 ?_ | refine W7 ?_ | refine W8 ?_ | refine W9 ?_))
            exact ⟨(), w3, C3⟩
      rintro _ t4 ⟨w4, C4⟩
      have hCl4 := C4.len
      rw [show (S0 ++ [first] ++ vx ++ sl).length = S0.length + 1 + vx.length + sl.length by simp; omega] at hCl4
      refine raw ?_
      repeat (first | (with_reducible refine unr ?_; try simp only [ZZ, ↓reduceIte, Nat.reduceEqDiff, Nat.reduceAdd, Nat.reduceLeDiff, reduceCtorEq, Int.reduceEq, Int.reduceLT, Int.reduceLE, Int.reduceNeg, Int.reduceAdd, Int.reduceSub, Int.reduceToNat]) | (with_reducible first | refine W1 ?_ | refine W2 ?_ | refine W3 ?_ | refine W4 ?_ | refine W5 ?_ | refine W6 ?_ | refine W7 ?_ | refine W8 ?_ | refine W9 ?_))
      refine (leave_ok C4.m C4.w (by rw [hCl4]; omega) (by omega) last).mono ?_
      rintro W5 t5 ⟨w5, M5, B5, n5, k5, fv5, fw5⟩
      refine raw ?_
      repeat (first | (with_reducible refine unr ?_; try simp only [ZZ, ↓reduceIte, Nat.reduceEqDiff, Nat.reduceAdd, Nat.reduceLeDiff, reduceCtorEq, Int.reduceEq, Int.reduceLT, Int.reduceLE, Int.reduceNeg, Int.reduceAdd, Int.reduceSub, Int.reduceToNat, hw]) | (with_reducible first | refine W1 ?_ | refine W2 ?_ | refine W3 ?_ | refine W4 ?_ | refine W5 ?_ | refine W6 ?_ | refine W7 ?_ | refine W8 ?_ | refine W9 ?_))
      have hpart : ∀ e : Int, partA g opS lv d last (base + S0.length) e (hh, x) = [first] ++ vx ++ sl ++ (if last then [] else [ik 15 e]) := fun e => by rw [partA, hfirst, hvxe, hsl']; simp
      simp only at eK eJ
      rw [← hK1] at eK
      rw [← hJ1] at eJ
      rw [hpart] at eS eP
      refine ⟨((w5, U1, W5), i + 1), rfl, ⟨by simp only; omega, ?_⟩, by simp only; omega⟩
      simp only
      rw [eK, eJ, eS, eP]
      refine ⟨?_, ⟨C4.u.sl.keep fun j hj => ?_, C4.u.new, fun j hj hm => ?_⟩, ?_, fun j hj hm => ?_, C4.u0⟩
      · have e : (S0 ++ ([first] ++ vx ++ sl ++ (if last then [] else [ik 15 ((0 : Nat) : Int)]))).map rawC = (S0 ++ [first] ++ vx ++ sl).map rawC ++ (if last then [] else [rawC (ik 15 0)]) := by cases last <;> simp
        rw [e, ← List.append_assoc]
        exact M5
      · exact k5 j (C4.u.sl.lt hj) (fun e => by have := C4.u.new j hj; omega) (C4.u.dj j hj) (C4.d j hj)
      · exact (fv5 j hm).elim (C4.u.dj j hj) (fun q => by have := C4.u.sl.lt hj; omega)
      · have e : (P0 ++ if last then ([] : List Nat) else [base + S0.length + ([first] ++ vx ++ sl ++ (if last then [] else [ik 15 (0 : Int)])).length - 1]) = P0 ++ if last then [] else [(es1 ++ [[AV.int .i64 13, AV.int .i64 K1, AV.int .i64 0, U1]] ++ (S0 ++ [first] ++ vx ++ sl).map rawC).length] := by
          cases last with
          | true => rfl
          | false =>
            rw [hCl4]
            simp only [Bool.false_eq_true, if_false, List.length_append, List.length_cons, List.length_nil]
            congr 2
            omega
        rw [e]
        exact B5
      · exact (fw5 j hm).elim (C4.d j hj) (fun q => by have := C4.u.sl.lt hj; omega)
    · have hil' : ¬ (i : Int) < (al.length : Int) := by omega
      rw [List.take_of_length_le (by omega)] at C
      refine raw ?_
      repeat (first | (with_reducible refine unr ?_; try simp only [ZZ, ↓reduceIte, Nat.reduceEqDiff, Nat.reduceAdd, Nat.reduceLeDiff, reduceCtorEq, Int.reduceEq, Int.reduceLT, Int.reduceLE, Int.reduceNeg, Int.reduceAdd, Int.reduceSub, Int.reduceToNat, hil']) | (with_reducible first | refine W1 ?_ | refine W2 ?_ | refine W3 ?_ | refine W4 ?_ | refine W5 ?_ | refine W6 ?_ | refine W7 ?_ | refine W8 ?_ | refine W9 ?_))
      exact ⟨(U, W), rfl, w, C⟩
  · rintro ⟨U, W⟩ s ⟨w, C⟩
    simp only [List.zip_cons_cons, List.zip_nil_right]
    have hPl := posA_len g opS lv d last al base
    have hPlt := posA_lt g opS lv d last al base
    have hland := land_alt g opS lv d last (base + (altS g opS lv d last base 0 al).length) al base
    have hSl := altS_len g opS al lv d last base 0
    have hCl := C.len
    generalize hK0 : altK g opS lv d last base (-1) al = K0 at C hCl ⊢
    generalize hJ0 : altJ g opS lv d last base al = J0 at C ⊢
    suffices hfin : ∀ (s : Store) (w : AV), MB σ s (σ.next + 1) fid v w (.ptr tid 0 0 0) (es1 ++ [rawC ⟨13, K0, 0, J0⟩] ++ (altS g opS lv d last base 0 al).map rawC) → BesB s (σ.next + 1) w W 3 1 (placesC (posA g opS lv d last base al)) →
        AWP Try.prog Try.f152.ntmps (.reg [⟨(some 144), .move (.t 0), none⟩, ⟨(some 145), .move (.t 11), none⟩, ⟨(some 146), .call 168 [.t 144, .t 145], none⟩]) (fun e t s => match e with | .exit _ => False | _ => ∃ z : Unit, BPost σ fid v (.ptr tid 0 0 0) (es1 ++ [rawC ⟨13, K0, 0, J0⟩] ++ (altS g opS lv d last base (base + (altS g opS lv d last base 0 al).length) al).map rawC) s) (env [(0, .ptr fid 0 0 0), (11, W)]) s by
      by_cases hJ : J0 = []
      · have hU := C.u0 hJ
        subst hJ
        subst hU
        exact hfin s w C.m C.w
      · have hraw : rawC ⟨13, K0, 0, J0⟩ = [.int .i64 13, .int .i64 K0, .int .i64 0, .list (J0.map jC)] := by simp only [rawC, if_neg hJ]
        obtain ⟨id, ver, es', hv, hgid⟩ := C.m.own (by simp)
        have hin : id ∈ slIds w := by rw [hv]; simp [slIds]
        refine AWP_frozeO C.u.sl hgid (fun hm => C.u.dj id hm hin) (os' := es1 ++ [rawC ⟨13, K0, 0, J0⟩] ++ (altS g opS lv d last base 0 al).map rawC ++ es') ?_ fun s5 z1 z2 z3 => ?_
        · rw [hraw]
          exact (((SubE.rf _).app (.cons (.cons (.refl _) (.cons (.refl _) (.cons (.refl _) (.cons .here .nil)))) .nil)).app (SubE.rf _)).app (SubE.rf _)
        · have hfu : fid ∉ slIds U := fun hm => by have := C.u.new fid hm; omega
          have hfi : fid ≠ id := fun e => C.m.la.nv (e ▸ hin)
          refine hfin s5 w ⟨⟨?_, ?_, C.m.la.nv⟩, C.m.le, by rw [z1]; exact C.m.next, fun j hj a b => ?_, C.m.fresh, C.m.fid⟩ ⟨C.w.sl.keep fun j hj => ?_, C.w.new, C.w.dj⟩
          · rw [z3 fid hfu hfi]; exact C.m.la.hd
          · refine .inr ⟨id, ver, es', ?_, z2⟩
            rw [hv]; simp
          · rw [z3 j (fun hm => by have := C.u.new j hm; omega) (fun e => (C.m.fresh id hin).elim (fun q => b (e ▸ q.1)) (fun q => by omega)), C.m.keep j hj a b]
          · exact z3 j (fun hm => C.d j hm hj) (fun e => C.w.dj j hj (e ▸ hin))
    intro s w M B
    have hLe : (es1 ++ [rawC ⟨13, K0, 0, J0⟩] ++ (altS g opS lv d last base 0 al).map rawC).length = base + (altS g opS lv d last base 0 al).length := by simp; omega
    refine raw ?_
    repeat (first | (with_reducible refine unr ?_; try simp only [ZZ, ↓reduceIte, Nat.reduceEqDiff, Nat.reduceAdd, Nat.reduceLeDiff, reduceCtorEq, Int.reduceEq, Int.reduceLT, Int.reduceLE, Int.reduceNeg, Int.reduceAdd, Int.reduceSub, Int.reduceToNat]) | (with_reducible first | refine W1 ?_ | refine W2 ?_ | refine W3 ?_ | refine W4 ?_ | refine W5 ?_ | refine W6 ?_ | refine W7 ?_ | refine W8 ?_ | refine W9 ?_))
    refine (land_ok M B (fun p hp => by rw [hLe]; exact hPlt p hp) (app_4 (app_4 h41 (by simp [rawC])) (map_4 _)) (by rw [hLe]; omega) (by omega)).mono ?_
    rintro _ s2 ⟨_, rfl, M2, -, -⟩
    refine raw ?_
    repeat (first | (with_reducible refine unr ?_; try simp only [ZZ, ↓reduceIte, Nat.reduceEqDiff, Nat.reduceAdd, Nat.reduceLeDiff, reduceCtorEq, Int.reduceEq, Int.reduceLT, Int.reduceLE, Int.reduceNeg, Int.reduceAdd, Int.reduceSub, Int.reduceToNat]) | (with_reducible first | refine W1 ?_ | refine W2 ?_ | refine W3 ?_ | refine W4 ?_ | refine W5 ?_ | refine W6 ?_ | refine W7 ?_ | refine W8 ?_ | refine W9 ?_))
    refine ⟨(), ?_⟩
    rw [hLe] at M2
    have := hland (es1 ++ [rawC ⟨13, K0, 0, J0⟩]) [] (by simp; omega)
    rw [List.append_nil, List.append_nil] at this
    rw [this] at M2
    exact M2.out
end Go.Proofs.Ytjjbjibbjbbeaaa
/- Choices. -/
set_option linter.unusedVariables false
set_option linter.unusedSimpArgs false
namespace Go.AL
theorem pickJ_len (g : Gl) (O : ByteArray → Int) (lv : Lv) (d : Int) (last : Bool) : ∀ (l : List (Int × Cr)) (base : Nat), (pickJ g O lv d last base l).length = l.length
  | [], base => by simp [pickJ]
  | a :: r, base => by rw [pickJ_cons, List.length_cons, List.length_cons, pickJ_len g O lv d last r]
theorem posP_len (g : Gl) (O : ByteArray → Int) (lv : Lv) (d : Int) (last : Bool) : ∀ (l : List (Int × Cr)) (base : Nat), (posP g O lv d last base l).length ≤ l.length
  | [], base => by simp [posP]
  | a :: r, base => by
    rw [posP, List.length_append, List.length_cons]
    have := posP_len g O lv d last r (base + (partP g O lv d last base 0 a.2).length)
    have h : (if last then ([] : List Nat) else [base + (partP g O lv d last base 0 a.2).length - 1]).length ≤ 1 := by cases last <;> simp
    omega
theorem posP_lt (g : Gl) (O : ByteArray → Int) (lv : Lv) (d : Int) (last : Bool) : ∀ (l : List (Int × Cr)) (base : Nat), ∀ p, p ∈ posP g O lv d last base l → p < base + (pickS g O lv d last base 0 l).length
  | [], base => by simp [posP]
  | a :: r, base => by
    intro p hp
    rw [posP] at hp
    rw [pickS_cons, List.length_append]
    have h2 : (partP g O lv d last base ((0 : Nat) : Int) a.2).length = (partP g O lv d last base 0 a.2).length := rfl
    rcases List.mem_append.1 hp with hp | hp
    · cases last
      · have h1 : 1 ≤ (partP g O lv d false base 0 a.2).length := by simp [partP]
        simp at hp; omega
      · simp at hp
    · have := posP_lt g O lv d last r (base + (partP g O lv d last base 0 a.2).length) p hp
      omega
theorem pickS_one (g : Gl) (O : ByteArray → Int) (lv : Lv) (d : Int) (last : Bool) (base e : Nat) (a : Int × Cr) : pickS g O lv d last base e [a] = partP g O lv d last base e a.2 := by rw [pickS_cons, pickS, List.append_nil]
theorem posP_one (g : Gl) (O : ByteArray → Int) (lv : Lv) (d : Int) (last : Bool) (base : Nat) (a : Int × Cr) : posP g O lv d last base [a] = if last then [] else [base + (partP g O lv d last base 0 a.2).length - 1] := by rw [posP, posP, List.append_nil]
theorem pickJ_one (g : Gl) (O : ByteArray → Int) (lv : Lv) (d : Int) (last : Bool) (base : Nat) (a : Int × Cr) : pickJ g O lv d last base [a] = [(a.1, (base : Int))] := by rw [pickJ_cons, pickJ]
theorem CS.leave {σ s s2 : Store} {N fid : Nat} {v v' v2 df U W r : AV} {es1 : List (List AV)} {op K : Int} {js : List (Int × Int)} {ps : List Nat} {body : List Ins} (C : CS σ s N fid v v' df es1 op K U W js ps body) (last : Bool)
    (M : MB σ s2 N fid v v2 df (es1 ++ [[.int .i64 op, .int .i64 K, .int .i64 0, U]] ++ body.map rawC ++ (if last then [] else [rawC (ik 15 0)]))) (B : BesB s2 N v2 r 3 1 (placesC (ps ++ if last then [] else [(es1 ++ [[.int .i64 op, .int .i64 K, .int .i64 0, U]] ++ body.map rawC).length])))
    (k5 : ∀ j, j < s.next → j ≠ fid → j ∉ slIds v' → j ∉ slIds W → s2.get j = s.get j) (fv5 : ∀ j, j ∈ slIds v2 → j ∈ slIds v' ∨ s.next ≤ j) (fw5 : ∀ j, j ∈ slIds r → j ∈ slIds W ∨ s.next ≤ j) :
    CS σ s2 N fid v v2 df es1 op K U r js (ps ++ if last then [] else [es1.length + 1 + body.length]) (body ++ if last then [] else [ik 15 0]) := by
  have hf : N > fid := by have := C.m.fid; have := C.m.le; omega
  refine ⟨?_, ⟨C.u.sl.keep fun j hj => ?_, C.u.new, fun j hj hm => ?_⟩, ?_, fun j hj hm => ?_, C.u0⟩
  · have e : (body ++ (if last then [] else [ik 15 0])).map rawC = body.map rawC ++ (if last then [] else [rawC (ik 15 0)]) := by cases last <;> simp
    rw [e, ← List.append_assoc]
    exact M
  · exact k5 j (C.u.sl.lt hj) (fun e => by have := C.u.new j hj; omega) (C.u.dj j hj) (C.d j hj)
  · exact (fv5 j hm).elim (C.u.dj j hj) (fun q => by have := C.u.sl.lt hj; omega)
  · rw [C.len] at B; exact B
  · exact (fw5 j hm).elim (C.d j hj) (fun q => by have := C.u.sl.lt hj; omega)
end Go.AL
namespace Go.Proofs.Ytjjbjibbjbbeaaa
open Go.AL
set_option maxHeartbeats 1000000 in
theorem pick_ok (k : Int) (nm : ByteArray) (n ar : Int) (ps : List ByteArray) (a : Cr) (al : List (AltH × Cr)) (bs : List (ByteArray × Cr)) (pk : List (Int × Cr)) (ia : ValC a) (ih : ∀ x, x ∈ pk → ValC x.2)
    (σ : Store) (T tid fid : Nat) (g : Gl) (v : AV) (es : List (List AV)) (lv : Lv) (d : Int) (last : Bool) (h : BAt σ fid v (.ptr tid 0 0 0) es) (ha : Ab σ T tid g fid v) (hlv : LvOK lv (a.bulk + Cr.bulkP pk)) (h4 : ∀ q, q ∈ es → q.length = 4)
    (hes : es.length + 9 + 9 * (a.bulk + Cr.bulkP pk) ≤ 40000000) (hd0 : 0 ≤ d) (hd : d + 2 * (a.bulk + Cr.bulkP pk : Nat) ≤ 100000000) :
    ACalls Try.prog 153 [.ptr fid 0 0 0, .agg (Cr.mk k nm n ar ps [a] al bs pk).cells, .list (lv.map lvC), .int .i64 d, .bool last] σ fun r s => (∃ z : Unit, r = .tuple [] ∧ BPost σ fid v (.ptr tid 0 0 0)
      (es ++ ([Ins.mk 14 ((es.length + 1 : Nat) : Int) 0 (pickJ g opS lv d last (es.length + 1 + (partP g opS lv d last (es.length + 1) 0 a).length) pk)] ++
        pickS g opS lv d last (es.length + 1) (es.length + 1 + (pickS g opS lv d last (es.length + 1) 0 ((0, a) :: pk)).length) ((0, a) :: pk)).map rawC) s) := by
  refine in153 (by simp) ?_
  unfold c153
  rw [List.map_append, ← List.append_assoc]
  rw [Cr.cells_eq]
  have hpk := Cr.lenP pk
  try simp only [ZZ, ↓reduceIte, Nat.reduceEqDiff, Nat.reduceAdd, Nat.reduceLeDiff, reduceCtorEq, Int.reduceEq, Int.reduceLT, Int.reduceLE, Int.reduceNeg, Int.reduceAdd, Int.reduceSub, Int.reduceToNat]
  iterate 2 ((with_reducible first | refine W1 ?_ | refine W2 ?_ | refine W3 ?_ | refine W4 ?_ | refine W5 ?_ | refine W6 ?_ | refine W7 ?_ | refine W8 ?_ | refine W9 ?_); refine unr ?_; try simp only [ZZ, ↓reduceIte, Nat.reduceEqDiff, Nat.reduceAdd, Nat.reduceLeDiff, reduceCtorEq, Int.reduceEq, Int.reduceLT, Int.reduceLE, Int.reduceNeg, Int.reduceAdd, Int.reduceSub, Int.reduceToNat])
  generalize hs : Store.push _ _ = s1
  have k1 : Kp σ s1 := by rw [← hs]; exact (Kp.pushed _ _)
  have hn1 : s1.next = σ.next + 1 := by rw [← hs]; rfl
  have M0 := MB.start h k1 (N := σ.next + 1) (by omega)
  have hff := M0.fid
  have e1 : s1.get σ.next = some (.cells 54 0 9 [[.int .i64 k, .str nm, .int .i64 n, .int .i64 ar, strs ps, .list ([a].map Cr.cells), .list (al.map altC), .list (bs.map bindC), .list (pk.map pickC)]]) := by rw [← hs]; simp [Store.push_get, Store.push_next]
  clear hs
  have hvl := valS_len g opS a lv d last (es.length + 1)
  refine raw ?_
  repeat (first | (with_reducible refine unr ?_; try simp only [ZZ, ↓reduceIte, Nat.reduceEqDiff, Nat.reduceAdd, Nat.reduceLeDiff, reduceCtorEq, Int.reduceEq, Int.reduceLT, Int.reduceLE, Int.reduceNeg, Int.reduceAdd, Int.reduceSub, Int.reduceToNat]) | (with_reducible first | refine W1 ?_ | refine W2 ?_ | refine W3 ?_ | refine W4 ?_ | refine W5 ?_ | refine W6 ?_ | refine W7 ?_ | refine W8 ?_ | refine W9 ?_))
  refine (put_ok M0.la (by omega) 14 0).mono ?_
  rintro _ s3 ⟨_, rfl, hP⟩
  obtain ⟨v3, M3, hk3, -, hn3⟩ := M0.call hP
  have e3 := hk3 σ.next (by omega) (by omega) (M0.loc (Nat.le_refl _) (by omega))
  rw [e1] at e3
  obtain ⟨b0, hb0⟩ : ∃ b0 : List Ins, b0 = [] := ⟨_, rfl⟩
  have C0 : CS σ s3 (σ.next + 1) fid v v3 (.ptr tid 0 0 0) es 14 0 .nils .nils [] [] b0 := ⟨by subst hb0; simpa [rawC, ik] using M3, BesB.start _ _ _ _ _, by simpa [placesC] using BesB.start _ _ _ _ _, by simp [slIds], fun _ => rfl⟩
  have hb0l : b0.length = 0 := by rw [hb0]; rfl
  generalize hB : es.length + 1 = base at hvl ⊢
  obtain ⟨id, ver, es', hv, hgid⟩ := C0.m.own (by simp)
  have hCl0 := C0.len
  rw [hb0l] at hCl0
  have hlen0 := C0.m.la.sl.len
  rw [hCl0, hv, show es.length + 1 + 0 = base by omega] at hlen0
  have hL : (es.length : Int) < ((es ++ [[AV.int .i64 14, AV.int .i64 0, AV.int .i64 0, .nils]] ++ b0.map rawC).length : Int) := by rw [hCl0]; omega
  have hatU : (es ++ [[AV.int .i64 14, AV.int .i64 0, AV.int .i64 0, .nils]] ++ b0.map rawC ++ es')[es.length]? = some [AV.int .i64 14, AV.int .i64 0, AV.int .i64 0, .nils] := at_one rfl _
  have hset := set_at (m := b0.map rawC) (r := es') (n := es.length) rfl [AV.int .i64 14, AV.int .i64 0, AV.int .i64 0, .nils] [AV.int .i64 14, AV.int .i64 ((base : Nat) : Int), AV.int .i64 0, .nils]
  have C1 := C0.setK (base : Int) hv hgid
  have hdf := C0.m.la.hd
  rw [hv] at hdf
  have hin : id ∈ slIds v3 := by rw [hv]; simp [slIds]
  have hidl : id ≠ σ.next := fun e => C0.m.loc (j := σ.next) (Nat.le_refl _) (by omega) (e ▸ hin)
  try simp only [ZZ, ↓reduceIte, Nat.reduceEqDiff, Nat.reduceAdd, Nat.reduceLeDiff, reduceCtorEq, Int.reduceEq, Int.reduceLT, Int.reduceLE, Int.reduceNeg, Int.reduceAdd, Int.reduceSub, Int.reduceToNat, hdf, hgid, hlen0, hL, hatU]
  iterate 4 ((with_reducible first | refine W1 ?_ | refine W2 ?_ | refine W3 ?_ | refine W4 ?_ | refine W5 ?_ | refine W6 ?_ | refine W7 ?_ | refine W8 ?_ | refine W9 ?_); refine unr ?_; try simp only [ZZ, ↓reduceIte, Nat.reduceEqDiff, Nat.reduceAdd, Nat.reduceLeDiff, reduceCtorEq, Int.reduceEq, Int.reduceLT, Int.reduceLE, Int.reduceNeg, Int.reduceAdd, Int.reduceSub, Int.reduceToNat, hdf, hgid, hlen0, hL, hatU])
  rw [hset]
  generalize hs4 : s3.upd id _ = s4 at C1 ⊢
  have e4 : s4.get σ.next = some (.cells 54 0 9 [[.int .i64 k, .str nm, .int .i64 n, .int .i64 ar, strs ps, .list ([a].map Cr.cells), .list (al.map altC), .list (bs.map bindC), .list (pk.map pickC)]]) := by rw [← hs4, Store.get_upd_ne _ _ (fun e => hidl e.symm)]; exact e3
  clear hs4
  have hCl1 := C1.len
  rw [hb0l, show es.length + 1 + 0 = base by omega] at hCl1
  have h42 := app_4 (app_4 h4 (b := [[AV.int .i64 14, AV.int .i64 (base : Int), AV.int .i64 0, .nils]]) (by simp)) (map_4 b0)
  have hia := ia s4 T tid fid g v3 _ lv d last C1.m.la (C1.m.ab ha) (hlv.mono (by omega)) h42 (by rw [hCl1]; omega) hd0 (by omega)
  rw [hCl1] at hia
  have hpa : ∀ e : Int, partP g opS lv d last base e a = valS g opS lv d last base a ++ (if last then [] else [ik 15 e]) := fun e => rfl
  have hpl := partP_len g opS lv d last base 0 a
  generalize valS g opS lv d last base a = vx at hia hvl hpa hpl
  refine raw ?_
  repeat (first | (with_reducible refine unr ?_; try simp only [ZZ, ↓reduceIte, Nat.reduceEqDiff, Nat.reduceAdd, Nat.reduceLeDiff, reduceCtorEq, Int.reduceEq, Int.reduceLT, Int.reduceLE, Int.reduceNeg, Int.reduceAdd, Int.reduceSub, Int.reduceToNat, e4, Cr.len, Cr.take9]) | (with_reducible first | refine W1 ?_ | refine W2 ?_ | refine W3 ?_ | refine W4 ?_ | refine W5 ?_ | refine W6 ?_ | refine W7 ?_ | refine W8 ?_ | refine W9 ?_))
  refine hia.mono ?_
  rintro _ s5 ⟨_, rfl, hP⟩
  obtain ⟨v5, C5, hk5, hn5, hf5⟩ := C1.call vx hP
  have e5 := hk5 σ.next (s4.lt e4) (by omega) (C1.m.loc (Nat.le_refl _) (by omega))
  rw [e4] at e5
  have hCl5 := C5.len
  rw [show (b0 ++ vx).length = vx.length by simp [hb0l]] at hCl5
  refine raw ?_
  repeat (first | (with_reducible refine unr ?_; try simp only [ZZ, ↓reduceIte, Nat.reduceEqDiff, Nat.reduceAdd, Nat.reduceLeDiff, reduceCtorEq, Int.reduceEq, Int.reduceLT, Int.reduceLE, Int.reduceNeg, Int.reduceAdd, Int.reduceSub, Int.reduceToNat]) | (with_reducible first | refine W1 ?_ | refine W2 ?_ | refine W3 ?_ | refine W4 ?_ | refine W5 ?_ | refine W6 ?_ | refine W7 ?_ | refine W8 ?_ | refine W9 ?_))
  refine (leave_ok C5.m C5.w (by rw [hCl5]; omega) (by simp) last).mono ?_
  rintro Wx6 s6 ⟨v6, M6, B6, n6, k6, fv6, fw6⟩
  have C6 := C5.leave last M6 B6 k6 fv6 fw6
  have e6 := k6 σ.next (s5.lt e5) (by omega) (C5.m.loc (Nat.le_refl _) (by omega)) (fun hm => by have := C5.w.new _ hm; omega)
  rw [e5] at e6
  have epk : ∀ l : List (Int × Cr), pickS g opS lv d last base 0 ((0, a) :: l) = vx ++ (if last then [] else [ik 15 ((0 : Nat) : Int)]) ++ pickS g opS lv d last (base + (partP g opS lv d last base 0 a).length) 0 l := fun l => by rw [pickS_cons, hpa]
  have epp : ∀ l : List (Int × Cr), posP g opS lv d last base ((0, a) :: l) = (if last then [] else [base + (partP g opS lv d last base 0 a).length - 1]) ++ posP g opS lv d last (base + (partP g opS lv d last base 0 a).length) l := fun l => by rw [posP]
  have C7 : CS σ s6 (σ.next + 1) fid v v6 (.ptr tid 0 0 0) es 14 (base : Int) .nils Wx6 (pickJ g opS lv d last (base + (partP g opS lv d last base 0 a).length) []) (posP g opS lv d last base ((0, a) :: [])) (pickS g opS lv d last base 0 ((0, a) :: [])) := by
    rw [epk, epp, pickJ, posP, pickS, List.append_nil, List.append_nil]
    have h1 : (if last then ([] : List Nat) else [base + (partP g opS lv d last base 0 a).length - 1]) = [] ++ if last then [] else [es.length + 1 + (b0 ++ vx).length] := by
      cases last with
      | true => rfl
      | false =>
        rw [hpl]
        simp only [Bool.false_eq_true, if_false, List.nil_append, List.length_append, hb0l]
        congr 1
        omega
    have h2 : vx ++ (if last then [] else [ik 15 ((0 : Nat) : Int)]) = b0 ++ vx ++ if last then [] else [ik 15 0] := by rw [hb0]; rfl
    rw [h1, h2]
    exact C6
  clear C6 C5 C1 C0 M6 B6
  have hplb : (partP g opS lv d last base 0 a).length ≤ vx.length + 1 := by rw [hpl]; cases last <;> simp
  generalize hb1 : base + (partP g opS lv d last base 0 a).length = base1 at C7 epk epp ⊢
  try simp only [ZZ, ↓reduceIte, Nat.reduceEqDiff, Nat.reduceAdd, Nat.reduceLeDiff, reduceCtorEq, Int.reduceEq, Int.reduceLT, Int.reduceLE, Int.reduceNeg, Int.reduceAdd, Int.reduceSub, Int.reduceToNat]
  iterate 0 ((with_reducible first | refine W1 ?_ | refine W2 ?_ | refine W3 ?_ | refine W4 ?_ | refine W5 ?_ | refine W6 ?_ | refine W7 ?_ | refine W8 ?_ | refine W9 ?_); refine unr ?_; try simp only [ZZ, ↓reduceIte, Nat.reduceEqDiff, Nat.reduceAdd, Nat.reduceLeDiff, reduceCtorEq, Int.reduceEq, Int.reduceLT, Int.reduceLE, Int.reduceNeg, Int.reduceAdd, Int.reduceSub, Int.reduceToNat])
  refine AWP_cut [0, 11] (fun y : AV × AV => [.ptr fid 0 0 0, y.2]) (fun y s => ∃ v', CS σ s (σ.next + 1) fid v v' (.ptr tid 0 0 0) es 14 (base : Int) y.1 y.2 (pickJ g opS lv d last base1 pk) (posP g opS lv d last base ((0, a) :: pk)) (pickS g opS lv d last base 0 ((0, a) :: pk))) ?_ ?_
  · refine raw ?_
    repeat (first | (with_reducible refine unr ?_; try simp only [ZZ, ↓reduceIte, Nat.reduceEqDiff, Nat.reduceAdd, Nat.reduceLeDiff, reduceCtorEq, Int.reduceEq, Int.reduceLT, Int.reduceLE, Int.reduceNeg, Int.reduceAdd, Int.reduceSub, Int.reduceToNat, e6]) | (with_reducible first | refine W1 ?_ | refine W2 ?_ | refine W3 ?_ | refine W4 ?_ | refine W5 ?_ | refine W6 ?_ | refine W7 ?_ | refine W8 ?_ | refine W9 ?_))
    refine AWP_while [0, 2, 3, 4, 10, 11, 42, 43, 44] (fun y : (AV × AV × AV) × Nat => pk.length - y.2) (fun y => [.ptr fid 0 0 0, .list (lv.map lvC), .int .i64 d, .bool last, .int .i64 es.length, y.1.2.2, .list (pk.map pickC), .int .i64 pk.length, .int .i64 y.2])
      (fun y s => y.2 ≤ pk.length ∧ CS σ s (σ.next + 1) fid v y.1.1 (.ptr tid 0 0 0) es 14 (base : Int) y.1.2.1 y.1.2.2 (pickJ g opS lv d last base1 (pk.take y.2)) (posP g opS lv d last base ((0, a) :: pk.take y.2)) (pickS g opS lv d last base 0 ((0, a) :: pk.take y.2)))
      ((v6, .nils, Wx6), 0) ⟨by simp, by simpa using C7⟩ ?_ ?_
    · refine raw ?_
      repeat (first | (with_reducible refine unr ?_; try simp only [ZZ, ↓reduceIte, Nat.reduceEqDiff, Nat.reduceAdd, Nat.reduceLeDiff, reduceCtorEq, Int.reduceEq, Int.reduceLT, Int.reduceLE, Int.reduceNeg, Int.reduceAdd, Int.reduceSub, Int.reduceToNat]) | (with_reducible first | refine W1 ?_ | refine W2 ?_ | refine W3 ?_ | refine W4 ?_ | refine W5 ?_ | refine W6 ?_ | refine W7 ?_ | refine W8 ?_ | refine W9 ?_))
      rfl
    rintro ⟨⟨w, U, W⟩, i⟩ s ⟨hi, C⟩
    simp only at hi C
    have hw := wrap_succ (i := i) (by omega)
    by_cases hil : i < pk.length
    · have hil' : (i : Int) < (pk.length : Int) := by omega
      obtain ⟨x, hx⟩ : ∃ x, pk[i]? = some x := ⟨_, List.getElem?_eq_getElem hil⟩
      have hxm := List.mem_of_getElem? hx
      have hg : (pk.map pickC)[i]? = some (pickC x) := by simp [hx]
      have hbx := Cr.bulkP_take hx
      have hxb := Cr.bulkP_le hxm
      have hsl := pickS_len g opS (pk.take i) lv d last base1 0
      have hsucc := take_succ_at hx
      obtain ⟨hh, x⟩ := x
      simp only at hbx hxb
      have hCl := C.len
      have hS0l : (pickS g opS lv d last base 0 ((0, a) :: pk.take i)).length = (base1 - base) + (pickS g opS lv d last base1 0 (pk.take i)).length := by
        rw [pickS_cons, List.length_append]
        simp only
        rw [hb1]
        have : (partP g opS lv d last base ((0 : Nat) : Int) a).length = (partP g opS lv d last base 0 a).length := rfl
        omega
      have eJ := pickJ_app g opS lv d last (pk.take i) [(hh, x)] base1
      have eS := pickS_app g opS lv d last ((0, a) :: pk.take i) [(hh, x)] base 0
      have eP := posP_app g opS lv d last ((0, a) :: pk.take i) [(hh, x)] base
      rw [List.cons_append, ← hsucc] at eS eP
      rw [← hsucc] at eJ
      rw [pickJ_one] at eJ
      rw [pickS_one] at eS
      rw [posP_one] at eP
      have hJl : (pickJ g opS lv d last base1 (pk.take i)).length ≤ pk.length := by rw [pickJ_len]; simp; omega
      have hPl : (posP g opS lv d last base ((0, a) :: pk.take i)).length ≤ pk.length + 1 := by have := posP_len g opS lv d last ((0, a) :: pk.take i) base; simp at this; omega
      have hbse : base1 + (pickS g opS lv d last base1 0 (pk.take i)).length = base + (pickS g opS lv d last base 0 ((0, a) :: pk.take i)).length := by omega
      rw [hbse] at eJ
      generalize hJ0 : pickJ g opS lv d last base1 (pk.take i) = J0 at C eJ hJl
      generalize hP0 : posP g opS lv d last base ((0, a) :: pk.take i) = P0 at C eP hPl
      generalize hS0 : pickS g opS lv d last base 0 ((0, a) :: pk.take i) = S0 at C hCl eJ eS eP hS0l
      have hlenw := C.m.la.sl.len
      rw [hCl, hB] at hlenw
      have hqf := lt_ne (s.lt C.m.la.hd)
      have Cp := C.push (.cells 116 0 10 [AV.int .i64 hh :: x.cells])
      have go0 : (s.push (.cells 116 0 10 [AV.int .i64 hh :: x.cells])).get s.next = some (.cells 116 0 10 [AV.int .i64 hh :: x.cells]) := by simp [Store.push_get]
      have gon : s.next ∉ slIds w := fun hm => by have := C.m.la.sl.lt hm; omega
      have gou : s.next ∉ slIds U := fun hm => by have := C.u.sl.lt hm; omega
      have gof : s.next ≠ fid := by have := s.lt C.m.la.hd; omega
      have hgn : s.next < (s.push (.cells 116 0 10 [AV.int .i64 hh :: x.cells])).next := by rw [Store.push_next]; omega
      try simp only [ZZ, ↓reduceIte, Nat.reduceEqDiff, Nat.reduceAdd, Nat.reduceLeDiff, reduceCtorEq, Int.reduceEq, Int.reduceLT, Int.reduceLE, Int.reduceNeg, Int.reduceAdd, Int.reduceSub, Int.reduceToNat, hil', hg, pickC, Cr.len, Cr.take9]
      iterate 9 ((with_reducible first | refine W1 ?_ | refine W2 ?_ | refine W3 ?_ | refine W4 ?_ | refine W5 ?_ | refine W6 ?_ | refine W7 ?_ | refine W8 ?_ | refine W9 ?_); refine unr ?_; try simp only [ZZ, ↓reduceIte, Nat.reduceEqDiff, Nat.reduceAdd, Nat.reduceLeDiff, reduceCtorEq, Int.reduceEq, Int.reduceLT, Int.reduceLE, Int.reduceNeg, Int.reduceAdd, Int.reduceSub, Int.reduceToNat, hil', hg, pickC, Cr.len, Cr.take9])
      generalize Store.push s _ = s' at Cp go0 hgn ⊢
      obtain ⟨id, ver, es2, hv2, hgid2⟩ := Cp.m.own (by simp)
      have hidg : id ≠ s.next := fun e => gon (by rw [hv2, ← e]; simp [slIds])
      have hL2 : (es.length : Int) < ((es ++ [[AV.int .i64 14, AV.int .i64 (base : Int), AV.int .i64 0, U]] ++ S0.map rawC).length : Int) := by rw [hCl]; omega
      have hatU2 : (es ++ [[AV.int .i64 14, AV.int .i64 (base : Int), AV.int .i64 0, U]] ++ S0.map rawC ++ es2)[es.length]? = some [AV.int .i64 14, AV.int .i64 (base : Int), AV.int .i64 0, U] := at_one rfl _
      have hdf2 := Cp.m.la.hd
      rw [hv2] at hdf2 hlenw
      refine raw ?_
      repeat (first | (with_reducible refine unr ?_; try simp only [ZZ, ↓reduceIte, Nat.reduceEqDiff, Nat.reduceAdd, Nat.reduceLeDiff, reduceCtorEq, Int.reduceEq, Int.reduceLT, Int.reduceLE, Int.reduceNeg, Int.reduceAdd, Int.reduceSub, Int.reduceToNat, go0, hdf2, hgid2, hL2, hatU2, hlenw]) | (with_reducible first | refine W1 ?_ | refine W2 ?_ | refine W3 ?_ | refine W4 ?_ | refine W5 ?_ | refine W6 ?_ | refine W7 ?_ | refine W8 ?_ | refine W9 ?_))
      refine ok_csJ Cp (by omega) (by omega) hh ((base + S0.length : Nat) : Int) hv2 hgid2 ?_
      intro U4 s4' g4 f4 n4' k4 co4 C4
      have hset2 := set_at (m := S0.map rawC) (r := es2) (n := es.length) rfl [AV.int .i64 14, AV.int .i64 (base : Int), AV.int .i64 0, U] [AV.int .i64 14, AV.int .i64 (base : Int), AV.int .i64 0, U4]
      rw [hdf2] at f4
      have o4 := k4 s.next hgn gou
      rw [go0] at o4
      try simp only [ZZ, ↓reduceIte, Nat.reduceEqDiff, Nat.reduceAdd, Nat.reduceLeDiff, reduceCtorEq, Int.reduceEq, Int.reduceLT, Int.reduceLE, Int.reduceNeg, Int.reduceAdd, Int.reduceSub, Int.reduceToNat, f4, g4, hL2, hatU2, co4]
      iterate 0 ((with_reducible first | refine W1 ?_ | refine W2 ?_ | refine W3 ?_ | refine W4 ?_ | refine W5 ?_ | refine W6 ?_ | refine W7 ?_ | refine W8 ?_ | refine W9 ?_); refine unr ?_; try simp only [ZZ, ↓reduceIte, Nat.reduceEqDiff, Nat.reduceAdd, Nat.reduceLeDiff, reduceCtorEq, Int.reduceEq, Int.reduceLT, Int.reduceLE, Int.reduceNeg, Int.reduceAdd, Int.reduceSub, Int.reduceToNat, f4, g4, hL2, hatU2, co4])
      rw [hset2]
      generalize hs5 : s4'.upd id _ = s5' at C4 ⊢
      have o5 : s5'.get s.next = some (.cells 116 0 10 [AV.int .i64 hh :: x.cells]) := by rw [← hs5, Store.get_upd_ne _ _ (fun e => hidg e.symm)]; exact o4
      clear hs5
      have hlt5 := s5'.lt o5
      have hCl4 := C4.len
      have h411 := app_4 (app_4 h4 (b := [[AV.int .i64 14, AV.int .i64 (base : Int), AV.int .i64 0, U4]]) (by simp)) (map_4 S0)
      have hvx := valS_len g opS x lv d last (base + S0.length)
      have hix := ih (hh, x) hxm s5' T tid fid g w _ lv d last C4.m.la (C4.m.ab ha) (hlv.mono (by simp only; omega)) h411 (by rw [hCl4]; simp only; omega) hd0 (by simp only; omega)
      rw [hCl4, show es.length + 1 + S0.length = base + S0.length by omega] at hix
      simp only at hix
      have hpx : ∀ e : Int, partP g opS lv d last (base + S0.length) e x = valS g opS lv d last (base + S0.length) x ++ (if last then [] else [ik 15 e]) := fun e => rfl
      generalize valS g opS lv d last (base + S0.length) x = wx at hix hvx hpx
      refine raw ?_
      repeat (first | (with_reducible refine unr ?_; try simp only [ZZ, ↓reduceIte, Nat.reduceEqDiff, Nat.reduceAdd, Nat.reduceLeDiff, reduceCtorEq, Int.reduceEq, Int.reduceLT, Int.reduceLE, Int.reduceNeg, Int.reduceAdd, Int.reduceSub, Int.reduceToNat, o5, Cr.len, Cr.take9]) | (with_reducible first | refine W1 ?_ | refine W2 ?_ | refine W3 ?_ | refine W4 ?_ | refine W5 ?_ | refine W6 ?_ | refine W7 ?_ | refine W8 ?_ | refine W9 ?_))
      refine hix.mono ?_
      rintro _ t6 ⟨_, rfl, hP⟩
      obtain ⟨v7, C7', hk7, hn7, hf7⟩ := C4.call wx hP
      have hCl7 := C7'.len
      rw [show (S0 ++ wx).length = S0.length + wx.length by simp] at hCl7
      refine raw ?_
      repeat (first | (with_reducible refine unr ?_; try simp only [ZZ, ↓reduceIte, Nat.reduceEqDiff, Nat.reduceAdd, Nat.reduceLeDiff, reduceCtorEq, Int.reduceEq, Int.reduceLT, Int.reduceLE, Int.reduceNeg, Int.reduceAdd, Int.reduceSub, Int.reduceToNat]) | (with_reducible first | refine W1 ?_ | refine W2 ?_ | refine W3 ?_ | refine W4 ?_ | refine W5 ?_ | refine W6 ?_ | refine W7 ?_ | refine W8 ?_ | refine W9 ?_))
      refine (leave_ok C7'.m C7'.w (by rw [hCl7]; omega) (by omega) last).mono ?_
      rintro Wx8 t8 ⟨v8, M8, B8, n8, k8, fv8, fw8⟩
      have C8 := C7'.leave last M8 B8 k8 fv8 fw8
      refine raw ?_
      repeat (first | (with_reducible refine unr ?_; try simp only [ZZ, ↓reduceIte, Nat.reduceEqDiff, Nat.reduceAdd, Nat.reduceLeDiff, reduceCtorEq, Int.reduceEq, Int.reduceLT, Int.reduceLE, Int.reduceNeg, Int.reduceAdd, Int.reduceSub, Int.reduceToNat, hw]) | (with_reducible first | refine W1 ?_ | refine W2 ?_ | refine W3 ?_ | refine W4 ?_ | refine W5 ?_ | refine W6 ?_ | refine W7 ?_ | refine W8 ?_ | refine W9 ?_))
      refine ⟨((v8, U4, Wx8), i + 1), rfl, ⟨by simp only; omega, ?_⟩, by simp only; omega⟩
      simp only
      rw [eJ, eS, eP]
      have h1 : partP g opS lv d last (base + S0.length) ((0 : Nat) : Int) (hh, x).2 = wx ++ (if last then [] else [ik 15 0]) := hpx _
      have h2 : (partP g opS lv d last (base + S0.length) 0 (hh, x).2).length = wx.length + (if last then 0 else 1) := by show (partP g opS lv d last (base + S0.length) 0 x).length = _; rw [hpx]; cases last <;> simp
      have h3 : (if last then ([] : List Nat) else [base + S0.length + (partP g opS lv d last (base + S0.length) 0 (hh, x).2).length - 1]) = if last then [] else [es.length + 1 + (S0 ++ wx).length] := by
        rw [h2]
        cases last with
        | true => rfl
        | false =>
          simp only [Bool.false_eq_true, if_false, List.length_append]
          congr 1
          omega
      rw [h1, h3, ← List.append_assoc]
      exact C8
    · have hil' : ¬ (i : Int) < (pk.length : Int) := by omega
      rw [List.take_of_length_le (by omega)] at C
      refine raw ?_
      repeat (first | (with_reducible refine unr ?_; try simp only [ZZ, ↓reduceIte, Nat.reduceEqDiff, Nat.reduceAdd, Nat.reduceLeDiff, reduceCtorEq, Int.reduceEq, Int.reduceLT, Int.reduceLE, Int.reduceNeg, Int.reduceAdd, Int.reduceSub, Int.reduceToNat, hil']) | (with_reducible first | refine W1 ?_ | refine W2 ?_ | refine W3 ?_ | refine W4 ?_ | refine W5 ?_ | refine W6 ?_ | refine W7 ?_ | refine W8 ?_ | refine W9 ?_))
      exact ⟨(U, W), rfl, w, C⟩
  rintro ⟨U, W⟩ s ⟨w, C⟩
  simp only [List.zip_cons_cons, List.zip_nil_right]
  have hPl := posP_len g opS lv d last ((0, a) :: pk) base
  have hPlt := posP_lt g opS lv d last ((0, a) :: pk) base
  have hland := land_pick g opS lv d last (base + (pickS g opS lv d last base 0 ((0, a) :: pk)).length) ((0, a) :: pk) base
  have hSl := pickS_len g opS ((0, a) :: pk) lv d last base 0
  have hbp : Cr.bulkP ((0, a) :: pk) = a.bulk + Cr.bulkP pk := by rw [Cr.bulkP]
  rw [List.length_cons] at hPl
  have hCl := C.len
  generalize hJ0 : pickJ g opS lv d last base1 pk = J0 at C ⊢
  suffices hfin : ∀ (s : Store) (w : AV), MB σ s (σ.next + 1) fid v w (.ptr tid 0 0 0) (es ++ [rawC ⟨14, (base : Int), 0, J0⟩] ++ (pickS g opS lv d last base 0 ((0, a) :: pk)).map rawC) → BesB s (σ.next + 1) w W 3 1 (placesC (posP g opS lv d last base ((0, a) :: pk))) →
      AWP Try.prog Try.f153.ntmps (.reg [⟨(some 85), .move (.t 0), none⟩, ⟨(some 86), .move (.t 11), none⟩, ⟨(some 87), .call 168 [.t 85, .t 86], none⟩]) (fun e t s => match e with | .exit _ => False | _ => ∃ z : Unit, BPost σ fid v (.ptr tid 0 0 0) (es ++ [rawC ⟨14, (base : Int), 0, J0⟩] ++ (pickS g opS lv d last base (base + (pickS g opS lv d last base 0 ((0, a) :: pk)).length) ((0, a) :: pk)).map rawC) s) (env [(0, .ptr fid 0 0 0), (11, W)]) s by
    by_cases hJ : J0 = []
    · have hU := C.u0 hJ
      subst hJ
      subst hU
      exact hfin s w C.m C.w
    · have hraw : rawC ⟨14, (base : Int), 0, J0⟩ = [AV.int .i64 14, .int .i64 (base : Int), .int .i64 0, .list (J0.map jC)] := by simp only [rawC, if_neg hJ]
      obtain ⟨id, ver, es', hv, hgid⟩ := C.m.own (by simp)
      have hin : id ∈ slIds w := by rw [hv]; simp [slIds]
      refine AWP_frozeO C.u.sl hgid (fun hm => C.u.dj id hm hin) (os' := es ++ [rawC ⟨14, (base : Int), 0, J0⟩] ++ (pickS g opS lv d last base 0 ((0, a) :: pk)).map rawC ++ es') ?_ fun s5 z1 z2 z3 => ?_
      · rw [hraw]
        exact (((SubE.rf _).app (.cons (.cons (.refl _) (.cons (.refl _) (.cons (.refl _) (.cons .here .nil)))) .nil)).app (SubE.rf _)).app (SubE.rf _)
      · have hfu : fid ∉ slIds U := fun hm => by have := C.u.new fid hm; omega
        have hfi : fid ≠ id := fun e => C.m.la.nv (e ▸ hin)
        refine hfin s5 w ⟨⟨?_, ?_, C.m.la.nv⟩, C.m.le, by rw [z1]; exact C.m.next, fun j hj a b => ?_, C.m.fresh, C.m.fid⟩ ⟨C.w.sl.keep fun j hj => ?_, C.w.new, C.w.dj⟩
        · rw [z3 fid hfu hfi]; exact C.m.la.hd
        · refine .inr ⟨id, ver, es', ?_, z2⟩
          rw [hv]; simp
        · rw [z3 j (fun hm => by have := C.u.new j hm; omega) (fun e => (C.m.fresh id hin).elim (fun q => b (e ▸ q.1)) (fun q => by omega)), C.m.keep j hj a b]
        · exact z3 j (fun hm => C.d j hm hj) (fun e => C.w.dj j hj (e ▸ hin))
  intro s w M B
  have hLe : (es ++ [rawC ⟨14, (base : Int), 0, J0⟩] ++ (pickS g opS lv d last base 0 ((0, a) :: pk)).map rawC).length = base + (pickS g opS lv d last base 0 ((0, a) :: pk)).length := by simp; omega
  refine raw ?_
  repeat (first | (with_reducible refine unr ?_; try simp only [ZZ, ↓reduceIte, Nat.reduceEqDiff, Nat.reduceAdd, Nat.reduceLeDiff, reduceCtorEq, Int.reduceEq, Int.reduceLT, Int.reduceLE, Int.reduceNeg, Int.reduceAdd, Int.reduceSub, Int.reduceToNat]) | (with_reducible first | refine W1 ?_ | refine W2 ?_ | refine W3 ?_ | refine W4 ?_ | refine W5 ?_ | refine W6 ?_ | refine W7 ?_ | refine W8 ?_ | refine W9 ?_))
  refine (land_ok M B (fun p hp => by rw [hLe]; exact hPlt p hp) (app_4 (app_4 h4 (by simp [rawC])) (map_4 _)) (by rw [hLe]; omega) (by omega)).mono ?_
  rintro _ s2 ⟨_, rfl, M2, -, -⟩
  refine raw ?_
  repeat (first | (with_reducible refine unr ?_; try simp only [ZZ, ↓reduceIte, Nat.reduceEqDiff, Nat.reduceAdd, Nat.reduceLeDiff, reduceCtorEq, Int.reduceEq, Int.reduceLT, Int.reduceLE, Int.reduceNeg, Int.reduceAdd, Int.reduceSub, Int.reduceToNat]) | (with_reducible first | refine W1 ?_ | refine W2 ?_ | refine W3 ?_ | refine W4 ?_ | refine W5 ?_ | refine W6 ?_ | refine W7 ?_ | refine W8 ?_ | refine W9 ?_))
  refine ⟨(), ?_⟩
  rw [hLe] at M2
  have := hland (es ++ [rawC ⟨14, (base : Int), 0, J0⟩]) [] (by simp; omega)
  rw [List.append_nil, List.append_nil] at this
  rw [this] at M2
  exact M2.out
end Go.Proofs.Ytjjbjibbjbbeaaa
/- Values' codes. -/
set_option linter.unusedVariables false
set_option linter.unusedSimpArgs false
namespace Go.AL
section
variable (g : Gl) (O : ByteArray → Int)
theorem valL_one (lv : Lv) (d : Int) (base : Nat) (last : Bool) (a : Cr) : (valL g O lv d base 1 last [a]).flatten = valS g O lv d last base a := by rw [valL, valL]; simp
theorem valL_two (lv : Lv) (d : Int) (base : Nat) (last : Bool) (a b : Cr) : (valL g O lv d base 2 last [a, b]).flatten = valS g O lv d last base a ++ valS g O lv (d + 1) last (base + (valS g O lv d last base a).length) b := by rw [valL, valL, valL]; simp
theorem valS_9 (lv : Lv) (d : Int) (last : Bool) (base : Nat) (nm : ByteArray) (n ar : Int) (ps : List ByteArray) (a b : Cr) (al : List (AltH × Cr)) (bs : List (ByteArray × Cr)) (pk : List (Int × Cr)) :
    valS g O lv d last base (.mk 9 nm n ar ps [a, b] al bs pk) = valS g O lv d false base a ++ valS g O lv (d + 1) false (base + (valS g O lv d false base a).length) b ++ [⟨16, 0, n, []⟩] ++ (if last then endS d else []) := by
  rw [valS, if_pos rfl, valL_two]
theorem valS_7 (lv : Lv) (d : Int) (last : Bool) (base : Nat) (nm : ByteArray) (n ar : Int) (ps : List ByteArray) (a : Cr) (al : List (AltH × Cr)) (bs : List (ByteArray × Cr)) (pk : List (Int × Cr)) :
    valS g O lv d last base (.mk 7 nm n ar ps [a] al bs pk) = bindS g O lv d bs ++ valS g O (withS lv (bs.map (·.1)) d 1) (d + bs.length) last (base + (bindS g O lv d bs).length) a ++ (if last then [] else [ik 7 bs.length]) := by
  rw [valS, if_neg (by decide), if_pos rfl, valL_one]
theorem valS_8 (lv : Lv) (d : Int) (last : Bool) (base : Nat) (nm : ByteArray) (n ar : Int) (ps : List ByteArray) (a : Cr) (al : List (AltH × Cr)) (bs : List (ByteArray × Cr)) (pk : List (Int × Cr)) :
    valS g O lv d last base (.mk 8 nm n ar ps [a] al bs pk) = (valS g O lv d false base a) ++ [Ins.mk 13 (altK g O lv d last (base + (valS g O lv d false base a).length + 1) (-1) al) 0 (altJ g O lv d last (base + (valS g O lv d false base a).length + 1) al)] ++
        altS g O lv d last (base + (valS g O lv d false base a).length + 1) (base + (valS g O lv d false base a).length + 1 + (altS g O lv d last (base + (valS g O lv d false base a).length + 1) 0 al).length) al := by
  rw [valS, if_neg (by decide), if_neg (by decide), if_pos rfl, valL_one]
theorem valS_11 (lv : Lv) (d : Int) (last : Bool) (base : Nat) (nm : ByteArray) (n ar : Int) (ps : List ByteArray) (a : Cr) (al : List (AltH × Cr)) (bs : List (ByteArray × Cr)) (pk : List (Int × Cr)) :
    valS g O lv d last base (.mk 11 nm n ar ps [a] al bs pk) = [Ins.mk 14 ((base + 1 : Nat) : Int) 0 (pickJ g O lv d last (base + 1 + (partP g O lv d last (base + 1) 0 a).length) pk)] ++
        pickS g O lv d last (base + 1) (base + 1 + (pickS g O lv d last (base + 1) 0 ((0, a) :: pk)).length) ((0, a) :: pk) := by
  rw [valS, if_neg (by decide), if_neg (by decide), if_neg (by decide), if_pos rfl, valL_one, pickS_cons]
  have e1 : base + 1 + (valS g O lv d last (base + 1) a).length + (if last then 0 else 1) = base + 1 + (partP g O lv d last (base + 1) 0 a).length := by rw [partP_len]; omega
  have e2 : (pickS g O lv d last (base + 1) 0 ((0, a) :: pk)).length = (partP g O lv d last (base + 1) 0 a).length + (pickS g O lv d last (base + 1 + (partP g O lv d last (base + 1) 0 a).length) 0 pk).length := by rw [pickS_cons, List.length_append]; rfl
  rw [e1, e2, ← Nat.add_assoc]
  rw [List.append_assoc]
  rfl
end
end Go.AL
namespace Go.Proofs.Ytjjbjibbjbbeaaa
open Go.AL
set_option maxHeartbeats 1000000 in
theorem value_ok : ∀ x : Cr, x.Tw → ValC x := by
  intro x
  induction x using Cr.ind with
  | _ k nm n ar ps gs al bs pk ih1 ih2 ih3 ih4 =>
    intro htw
    have htw0 := htw
    cases htw with
    | mk h0 h2 h1 g1 g2 g3 g4 =>
    have i1 := fun x hx => ih1 x hx (g1 x hx)
    have i2 := fun x hx => ih2 x hx (g2 x hx)
    have i4 := fun x hx => ih4 x hx (g4 x hx)
    have hlat : LatC (.mk k nm n ar ps gs al bs pk) := later_ok _ htw0
    have hbinds := fun (x : ByteArray × Cr) (hx : x ∈ bs) => later_ok x.2 (g3 x hx)
    intro σ T tid fid g v es lv d last h ha hlv h4 hes hd0 hd
    have hlv0 := hlv
    have hes0 := hes
    have hd00 := hd
    rw [Cr.bulk] at hlv hes hd
    have hbl := Cr.lenB2 bs
    refine in106 (by simp) ?_
    unfold c106
    have hce := Cr.cells_eq k nm n ar ps gs al bs pk
    try simp only [ZZ, ↓reduceIte, Nat.reduceEqDiff, Nat.reduceAdd, Nat.reduceLeDiff, reduceCtorEq, Int.reduceEq, Int.reduceLT, Int.reduceLE, Int.reduceNeg, Int.reduceAdd, Int.reduceSub, Int.reduceToNat, Cr.len]
    iterate 2 ((with_reducible first | refine W1 ?_ | refine W2 ?_ | refine W3 ?_ | refine W4 ?_ | refine W5 ?_ | refine W6 ?_ | refine W7 ?_ | refine W8 ?_ | refine W9 ?_); refine unr ?_; try simp only [ZZ, ↓reduceIte, Nat.reduceEqDiff, Nat.reduceAdd, Nat.reduceLeDiff, reduceCtorEq, Int.reduceEq, Int.reduceLT, Int.reduceLE, Int.reduceNeg, Int.reduceAdd, Int.reduceSub, Int.reduceToNat, Cr.len])
    generalize hs : Store.push _ _ = s1
    have k1 : Kp σ s1 := by rw [← hs]; exact (Kp.pushed _ _)
    have hn1 : s1.next = σ.next + 1 := by rw [← hs]; rfl
    have M0 := MB.start h k1 (N := σ.next + 1) (by omega)
    have hff := M0.fid
    have e0 : s1.get σ.next = some (.cells 54 0 9 [(Cr.mk k nm n ar ps gs al bs pk).cells]) := by rw [← hs]; simp [Store.push_get, Store.push_next]
    have e1 := e0
    rw [hce] at e1
    clear hs
    have hloc : ∀ (s2 : Store) (v2 : AV), (∀ j, j < s1.next → j ≠ fid → j ∉ slIds v → s2.get j = s1.get j) → s2.get σ.next = s1.get σ.next := fun s2 v2 hk => hk σ.next (by omega) (by omega) (M0.loc (Nat.le_refl _) (by omega))
    by_cases hk9 : k = 9
    · obtain ⟨a, b, rfl⟩ : ∃ a b, gs = [a, b] := by
        match gs, h2 (.inr hk9) with
        | [a, b], _ => exact ⟨a, b, rfl⟩
      subst hk9
      rw [valS_9]
      have hb2 : a.bulk + b.bulk = Cr.bulkL [a, b] := by rw [Cr.bulkL, Cr.bulkL, Cr.bulkL]; omega
      have l1 := valS_len g opS a lv d false es.length
      have hwd : IntKind.i64.wrap (d + 1) = d + 1 := wrap_of (by omega) (by omega)
      refine raw ?_
      repeat (first | (with_reducible refine unr ?_; try simp only [ZZ, ↓reduceIte, Nat.reduceEqDiff, Nat.reduceAdd, Nat.reduceLeDiff, reduceCtorEq, Int.reduceEq, Int.reduceLT, Int.reduceLE, Int.reduceNeg, Int.reduceAdd, Int.reduceSub, Int.reduceToNat, e1, Cr.len, Cr.take9]) | (with_reducible first | refine W1 ?_ | refine W2 ?_ | refine W3 ?_ | refine W4 ?_ | refine W5 ?_ | refine W6 ?_ | refine W7 ?_ | refine W8 ?_ | refine W9 ?_))
      refine (i1 a (by simp) _ T tid fid g v es lv d false M0.la (M0.ab ha) (hlv.mono (by omega)) h4 (by omega) hd0 (by omega)).mono ?_
      rintro _ s2 ⟨_, rfl, hP⟩
      obtain ⟨v2, M2, hk2', -, hn2⟩ := M0.call hP
      have e2 := hk2' σ.next (by omega) (by omega) (M0.loc (Nat.le_refl _) (by omega))
      rw [e1] at e2
      have l2 := valS_len g opS b lv (d + 1) false (es.length + (valS g opS lv d false es.length a).length)
      have hib := i1 b (by simp) s2 T tid fid g v2 _ lv (d + 1) false M2.la (M2.ab ha) (hlv.mono (by omega)) (app_4 h4 (map_4 _)) (by simp only [List.length_append, List.length_map]; omega) (by omega) (by omega)
      rw [List.length_append, List.length_map] at hib
      refine raw ?_
      repeat (first | (with_reducible refine unr ?_; try simp only [ZZ, ↓reduceIte, Nat.reduceEqDiff, Nat.reduceAdd, Nat.reduceLeDiff, reduceCtorEq, Int.reduceEq, Int.reduceLT, Int.reduceLE, Int.reduceNeg, Int.reduceAdd, Int.reduceSub, Int.reduceToNat, e2, Cr.len, Cr.take9, hwd]) | (with_reducible first | refine W1 ?_ | refine W2 ?_ | refine W3 ?_ | refine W4 ?_ | refine W5 ?_ | refine W6 ?_ | refine W7 ?_ | refine W8 ?_ | refine W9 ?_))
      refine hib.mono ?_
      rintro _ s3 ⟨_, rfl, hP⟩
      obtain ⟨v3, M3, hk3', -, hn3⟩ := M2.call hP
      have e3 := hk3' σ.next (by omega) (by omega) (M2.loc (Nat.le_refl _) (by omega))
      rw [e2] at e3
      refine raw ?_
      repeat (first | (with_reducible refine unr ?_; try simp only [ZZ, ↓reduceIte, Nat.reduceEqDiff, Nat.reduceAdd, Nat.reduceLeDiff, reduceCtorEq, Int.reduceEq, Int.reduceLT, Int.reduceLE, Int.reduceNeg, Int.reduceAdd, Int.reduceSub, Int.reduceToNat, e3]) | (with_reducible first | refine W1 ?_ | refine W2 ?_ | refine W3 ?_ | refine W4 ?_ | refine W5 ?_ | refine W6 ?_ | refine W7 ?_ | refine W8 ?_ | refine W9 ?_))
      refine (number_ok M3.la (by simp only [List.length_append, List.length_map]; omega) 16 n).mono ?_
      rintro _ s4 ⟨_, rfl, hP⟩
      obtain ⟨v4, M4, -, -, -⟩ := M3.call hP
      cases last with
      | true =>
        refine raw ?_
        repeat (first | (with_reducible refine unr ?_; try simp only [ZZ, ↓reduceIte, Nat.reduceEqDiff, Nat.reduceAdd, Nat.reduceLeDiff, reduceCtorEq, Int.reduceEq, Int.reduceLT, Int.reduceLE, Int.reduceNeg, Int.reduceAdd, Int.reduceSub, Int.reduceToNat]) | (with_reducible first | refine W1 ?_ | refine W2 ?_ | refine W3 ?_ | refine W4 ?_ | refine W5 ?_ | refine W6 ?_ | refine W7 ?_ | refine W8 ?_ | refine W9 ?_))
        refine (end_ok M4.la (by simp only [List.length_append, List.length_map, List.length_cons, List.length_nil]; omega) d).mono ?_
        rintro _ s5 ⟨_, rfl, hP⟩
        obtain ⟨v5, M5, -, -, -⟩ := M4.call hP
        refine raw ?_
        repeat (first | (with_reducible refine unr ?_; try simp only [ZZ, ↓reduceIte, Nat.reduceEqDiff, Nat.reduceAdd, Nat.reduceLeDiff, reduceCtorEq, Int.reduceEq, Int.reduceLT, Int.reduceLE, Int.reduceNeg, Int.reduceAdd, Int.reduceSub, Int.reduceToNat]) | (with_reducible first | refine W1 ?_ | refine W2 ?_ | refine W3 ?_ | refine W4 ?_ | refine W5 ?_ | refine W6 ?_ | refine W7 ?_ | refine W8 ?_ | refine W9 ?_))
        refine ⟨(), ?_⟩
        have := M5.out
        simpa only [if_true, List.map_append, List.map_cons, List.map_nil, List.append_assoc, List.cons_append, List.nil_append] using this
      | false =>
        refine raw ?_
        repeat (first | (with_reducible refine unr ?_; try simp only [ZZ, ↓reduceIte, Nat.reduceEqDiff, Nat.reduceAdd, Nat.reduceLeDiff, reduceCtorEq, Int.reduceEq, Int.reduceLT, Int.reduceLE, Int.reduceNeg, Int.reduceAdd, Int.reduceSub, Int.reduceToNat]) | (with_reducible first | refine W1 ?_ | refine W2 ?_ | refine W3 ?_ | refine W4 ?_ | refine W5 ?_ | refine W6 ?_ | refine W7 ?_ | refine W8 ?_ | refine W9 ?_))
        refine ⟨(), ?_⟩
        have := M4.out
        simpa only [Bool.false_eq_true, if_false, List.map_append, List.map_cons, List.map_nil, List.append_assoc, List.cons_append, List.nil_append, List.append_nil] using this
    by_cases hk7 : k = 7
    · obtain ⟨a, rfl⟩ : ∃ a, gs = [a] := by
        match gs, h1 (.inr (.inl hk7)) with
        | [a], _ => exact ⟨a, rfl⟩
      subst hk7
      rw [valS_7]
      have hb2 : a.bulk = Cr.bulkL [a] := by rw [Cr.bulkL, Cr.bulkL]; omega
      have lb := latB_len g opS bs (withS lv (bs.map (·.1)) d 1) (d + bs.length) (bs.length : Int)
      have hbl2 : (bindS g opS lv d bs).length = 1 + (latB g opS (withS lv (bs.map (·.1)) d 1) (d + bs.length) (bs.length : Int) bs).length := by rw [bindS, List.length_cons]; omega
      have l2 := valS_len g opS a (withS lv (bs.map (·.1)) d 1) (d + bs.length) last (es.length + (bindS g opS lv d bs).length)
      have hwd : IntKind.i64.wrap (d + (bs.length : Int)) = d + (bs.length : Int) := wrap_of (by omega) (by omega)
      refine raw ?_
      repeat (first | (with_reducible refine unr ?_; try simp only [ZZ, ↓reduceIte, Nat.reduceEqDiff, Nat.reduceAdd, Nat.reduceLeDiff, reduceCtorEq, Int.reduceEq, Int.reduceLT, Int.reduceLE, Int.reduceNeg, Int.reduceAdd, Int.reduceSub, Int.reduceToNat, e1, Cr.len, Cr.take9]) | (with_reducible first | refine W1 ?_ | refine W2 ?_ | refine W3 ?_ | refine W4 ?_ | refine W5 ?_ | refine W6 ?_ | refine W7 ?_ | refine W8 ?_ | refine W9 ?_))
      refine (binds_ok bs hbinds _ T tid fid g v es lv d M0.la (M0.ab ha) (hlv.mono (by omega)) (by omega) hd0 (by omega)).mono ?_
      rintro _ s2 ⟨_, rfl, hP⟩
      obtain ⟨v2, M2, hk2', -, hn2⟩ := M0.call hP
      have e2 := hk2' σ.next (by omega) (by omega) (M0.loc (Nat.le_refl _) (by omega))
      rw [e1] at e2
      have hlw : LvOK (withS lv (bs.map (·.1)) d 1) a.bulk := hlv.with _ d 1 (.inl rfl) (by omega) (by simp; omega)
      have hia := i1 a (by simp) s2 T tid fid g v2 _ (withS lv (bs.map (·.1)) d 1) (d + bs.length) last M2.la (M2.ab ha) hlw (app_4 h4 (map_4 _)) (by simp only [List.length_append, List.length_map]; omega) (by omega) (by omega)
      rw [List.length_append, List.length_map] at hia
      refine raw ?_
      repeat (first | (with_reducible refine unr ?_; try simp only [ZZ, ↓reduceIte, Nat.reduceEqDiff, Nat.reduceAdd, Nat.reduceLeDiff, reduceCtorEq, Int.reduceEq, Int.reduceLT, Int.reduceLE, Int.reduceNeg, Int.reduceAdd, Int.reduceSub, Int.reduceToNat, e2, Cr.len, Cr.take9, hwd]) | (with_reducible first | refine W1 ?_ | refine W2 ?_ | refine W3 ?_ | refine W4 ?_ | refine W5 ?_ | refine W6 ?_ | refine W7 ?_ | refine W8 ?_ | refine W9 ?_))
      refine hia.mono ?_
      rintro _ s3 ⟨_, rfl, hP⟩
      obtain ⟨v3, M3, hk3', -, hn3⟩ := M2.call hP
      cases last with
      | true =>
        refine raw ?_
        repeat (first | (with_reducible refine unr ?_; try simp only [ZZ, ↓reduceIte, Nat.reduceEqDiff, Nat.reduceAdd, Nat.reduceLeDiff, reduceCtorEq, Int.reduceEq, Int.reduceLT, Int.reduceLE, Int.reduceNeg, Int.reduceAdd, Int.reduceSub, Int.reduceToNat]) | (with_reducible first | refine W1 ?_ | refine W2 ?_ | refine W3 ?_ | refine W4 ?_ | refine W5 ?_ | refine W6 ?_ | refine W7 ?_ | refine W8 ?_ | refine W9 ?_))
        refine ⟨(), ?_⟩
        have := M3.out
        simpa only [if_true, List.map_append, List.append_assoc, List.append_nil] using this
      | false =>
        refine raw ?_
        repeat (first | (with_reducible refine unr ?_; try simp only [ZZ, ↓reduceIte, Nat.reduceEqDiff, Nat.reduceAdd, Nat.reduceLeDiff, reduceCtorEq, Int.reduceEq, Int.reduceLT, Int.reduceLE, Int.reduceNeg, Int.reduceAdd, Int.reduceSub, Int.reduceToNat]) | (with_reducible first | refine W1 ?_ | refine W2 ?_ | refine W3 ?_ | refine W4 ?_ | refine W5 ?_ | refine W6 ?_ | refine W7 ?_ | refine W8 ?_ | refine W9 ?_))
        refine (put_ok M3.la (by simp only [List.length_append, List.length_map]; omega) 7 _).mono ?_
        rintro _ s4 ⟨_, rfl, hP⟩
        obtain ⟨v4, M4, -, -, -⟩ := M3.call hP
        refine raw ?_
        repeat (first | (with_reducible refine unr ?_; try simp only [ZZ, ↓reduceIte, Nat.reduceEqDiff, Nat.reduceAdd, Nat.reduceLeDiff, reduceCtorEq, Int.reduceEq, Int.reduceLT, Int.reduceLE, Int.reduceNeg, Int.reduceAdd, Int.reduceSub, Int.reduceToNat]) | (with_reducible first | refine W1 ?_ | refine W2 ?_ | refine W3 ?_ | refine W4 ?_ | refine W5 ?_ | refine W6 ?_ | refine W7 ?_ | refine W8 ?_ | refine W9 ?_))
        refine ⟨(), ?_⟩
        have := M4.out
        simpa only [Bool.false_eq_true, if_false, List.map_append, List.map_cons, List.map_nil, List.append_assoc] using this
    by_cases hk8 : k = 8
    · obtain ⟨a, rfl⟩ : ∃ a, gs = [a] := by
        match gs, h1 (.inr (.inr (.inl hk8))) with
        | [a], _ => exact ⟨a, rfl⟩
      subst hk8
      rw [valS_8]
      have hb2 : a.bulk = Cr.bulkL [a] := by rw [Cr.bulkL, Cr.bulkL]; omega
      have hc := cases_ok 8 nm n ar ps a al bs pk (i1 a (by simp)) i2 s1 T tid fid g v es lv d last M0.la (M0.ab ha) (hlv.mono (by omega)) h4 (by omega) hd0 (by omega)
      have hd8 : (Cr.mk 8 nm n ar ps [a] al bs pk).cells[0]? = some (.int .i64 8) := by rw [hce]; rfl
      refine raw ?_
      repeat (first | (with_reducible refine unr ?_; try simp only [ZZ, ↓reduceIte, Nat.reduceEqDiff, Nat.reduceAdd, Nat.reduceLeDiff, reduceCtorEq, Int.reduceEq, Int.reduceLT, Int.reduceLE, Int.reduceNeg, Int.reduceAdd, Int.reduceSub, Int.reduceToNat, e0, hd8, Cr.len, Cr.take9]) | (with_reducible first | refine W1 ?_ | refine W2 ?_ | refine W3 ?_ | refine W4 ?_ | refine W5 ?_ | refine W6 ?_ | refine W7 ?_ | refine W8 ?_ | refine W9 ?_))
      refine hc.mono ?_
      rintro _ s2 ⟨_, rfl, hP⟩
      obtain ⟨v2, M2, -, -, -⟩ := M0.call hP
      refine raw ?_
      repeat (first | (with_reducible refine unr ?_; try simp only [ZZ, ↓reduceIte, Nat.reduceEqDiff, Nat.reduceAdd, Nat.reduceLeDiff, reduceCtorEq, Int.reduceEq, Int.reduceLT, Int.reduceLE, Int.reduceNeg, Int.reduceAdd, Int.reduceSub, Int.reduceToNat]) | (with_reducible first | refine W1 ?_ | refine W2 ?_ | refine W3 ?_ | refine W4 ?_ | refine W5 ?_ | refine W6 ?_ | refine W7 ?_ | refine W8 ?_ | refine W9 ?_))
      exact ⟨(), M2.out⟩
    by_cases hk11 : k = 11
    · obtain ⟨a, rfl⟩ : ∃ a, gs = [a] := by
        match gs, h1 (.inr (.inr (.inr hk11))) with
        | [a], _ => exact ⟨a, rfl⟩
      subst hk11
      rw [valS_11]
      have hb2 : a.bulk = Cr.bulkL [a] := by rw [Cr.bulkL, Cr.bulkL]; omega
      have hc := pick_ok 11 nm n ar ps a al bs pk (i1 a (by simp)) i4 s1 T tid fid g v es lv d last M0.la (M0.ab ha) (hlv.mono (by omega)) h4 (by omega) hd0 (by omega)
      have hd8 : (Cr.mk 11 nm n ar ps [a] al bs pk).cells[0]? = some (.int .i64 11) := by rw [hce]; rfl
      refine raw ?_
      repeat (first | (with_reducible refine unr ?_; try simp only [ZZ, ↓reduceIte, Nat.reduceEqDiff, Nat.reduceAdd, Nat.reduceLeDiff, reduceCtorEq, Int.reduceEq, Int.reduceLT, Int.reduceLE, Int.reduceNeg, Int.reduceAdd, Int.reduceSub, Int.reduceToNat, e0, hd8, Cr.len, Cr.take9]) | (with_reducible first | refine W1 ?_ | refine W2 ?_ | refine W3 ?_ | refine W4 ?_ | refine W5 ?_ | refine W6 ?_ | refine W7 ?_ | refine W8 ?_ | refine W9 ?_))
      refine hc.mono ?_
      rintro _ s2 ⟨_, rfl, hP⟩
      obtain ⟨v2, M2, -, -, -⟩ := M0.call hP
      refine raw ?_
      repeat (first | (with_reducible refine unr ?_; try simp only [ZZ, ↓reduceIte, Nat.reduceEqDiff, Nat.reduceAdd, Nat.reduceLeDiff, reduceCtorEq, Int.reduceEq, Int.reduceLT, Int.reduceLE, Int.reduceNeg, Int.reduceAdd, Int.reduceSub, Int.reduceToNat]) | (with_reducible first | refine W1 ?_ | refine W2 ?_ | refine W3 ?_ | refine W4 ?_ | refine W5 ?_ | refine W6 ?_ | refine W7 ?_ | refine W8 ?_ | refine W9 ?_))
      exact ⟨(), M2.out⟩
    by_cases hk10 : k = 10
    · subst hk10
      rw [valS, if_neg (by decide), if_neg (by decide), if_neg (by decide), if_neg (by decide), if_pos rfl]
      refine raw ?_
      repeat (first | (with_reducible refine unr ?_; try simp only [ZZ, ↓reduceIte, Nat.reduceEqDiff, Nat.reduceAdd, Nat.reduceLeDiff, reduceCtorEq, Int.reduceEq, Int.reduceLT, Int.reduceLE, Int.reduceNeg, Int.reduceAdd, Int.reduceSub, Int.reduceToNat, e1]) | (with_reducible first | refine W1 ?_ | refine W2 ?_ | refine W3 ?_ | refine W4 ?_ | refine W5 ?_ | refine W6 ?_ | refine W7 ?_ | refine W8 ?_ | refine W9 ?_))
      refine (put_ok M0.la (by omega) 17 0).mono ?_
      rintro _ s2 ⟨_, rfl, hP⟩
      obtain ⟨v2, M2, -, -, -⟩ := M0.call hP
      refine raw ?_
      repeat (first | (with_reducible refine unr ?_; try simp only [ZZ, ↓reduceIte, Nat.reduceEqDiff, Nat.reduceAdd, Nat.reduceLeDiff, reduceCtorEq, Int.reduceEq, Int.reduceLT, Int.reduceLE, Int.reduceNeg, Int.reduceAdd, Int.reduceSub, Int.reduceToNat]) | (with_reducible first | refine W1 ?_ | refine W2 ?_ | refine W3 ?_ | refine W4 ?_ | refine W5 ?_ | refine W6 ?_ | refine W7 ?_ | refine W8 ?_ | refine W9 ?_))
      exact ⟨(), M2.out⟩
    by_cases hk3 : k = 3
    · subst hk3
      rw [valS, if_neg (by decide), if_neg (by decide), if_neg (by decide), if_neg (by decide), if_neg (by decide), if_pos rfl]
      refine raw ?_
      repeat (first | (with_reducible refine unr ?_; try simp only [ZZ, ↓reduceIte, Nat.reduceEqDiff, Nat.reduceAdd, Nat.reduceLeDiff, reduceCtorEq, Int.reduceEq, Int.reduceLT, Int.reduceLE, Int.reduceNeg, Int.reduceAdd, Int.reduceSub, Int.reduceToNat, e1]) | (with_reducible first | refine W1 ?_ | refine W2 ?_ | refine W3 ?_ | refine W4 ?_ | refine W5 ?_ | refine W6 ?_ | refine W7 ?_ | refine W8 ?_ | refine W9 ?_))
      refine (number_ok M0.la (by omega) 3 n).mono ?_
      rintro _ s2 ⟨_, rfl, hP⟩
      obtain ⟨v4, M4, -, -, -⟩ := M0.call hP
      cases last with
      | true =>
        refine raw ?_
        repeat (first | (with_reducible refine unr ?_; try simp only [ZZ, ↓reduceIte, Nat.reduceEqDiff, Nat.reduceAdd, Nat.reduceLeDiff, reduceCtorEq, Int.reduceEq, Int.reduceLT, Int.reduceLE, Int.reduceNeg, Int.reduceAdd, Int.reduceSub, Int.reduceToNat]) | (with_reducible first | refine W1 ?_ | refine W2 ?_ | refine W3 ?_ | refine W4 ?_ | refine W5 ?_ | refine W6 ?_ | refine W7 ?_ | refine W8 ?_ | refine W9 ?_))
        refine (end_ok M4.la (by simp only [List.length_append, List.length_map, List.length_cons, List.length_nil]; omega) d).mono ?_
        rintro _ s5 ⟨_, rfl, hP⟩
        obtain ⟨v5, M5, -, -, -⟩ := M4.call hP
        refine raw ?_
        repeat (first | (with_reducible refine unr ?_; try simp only [ZZ, ↓reduceIte, Nat.reduceEqDiff, Nat.reduceAdd, Nat.reduceLeDiff, reduceCtorEq, Int.reduceEq, Int.reduceLT, Int.reduceLE, Int.reduceNeg, Int.reduceAdd, Int.reduceSub, Int.reduceToNat]) | (with_reducible first | refine W1 ?_ | refine W2 ?_ | refine W3 ?_ | refine W4 ?_ | refine W5 ?_ | refine W6 ?_ | refine W7 ?_ | refine W8 ?_ | refine W9 ?_))
        refine ⟨(), ?_⟩
        have := M5.out
        simpa only [if_true, List.map_append, List.map_cons, List.map_nil, List.append_assoc, List.cons_append, List.nil_append] using this
      | false =>
        refine raw ?_
        repeat (first | (with_reducible refine unr ?_; try simp only [ZZ, ↓reduceIte, Nat.reduceEqDiff, Nat.reduceAdd, Nat.reduceLeDiff, reduceCtorEq, Int.reduceEq, Int.reduceLT, Int.reduceLE, Int.reduceNeg, Int.reduceAdd, Int.reduceSub, Int.reduceToNat]) | (with_reducible first | refine W1 ?_ | refine W2 ?_ | refine W3 ?_ | refine W4 ?_ | refine W5 ?_ | refine W6 ?_ | refine W7 ?_ | refine W8 ?_ | refine W9 ?_))
        refine ⟨(), ?_⟩
        have := M4.out
        simpa only [Bool.false_eq_true, if_false, List.map_append, List.map_cons, List.map_nil, List.append_assoc, List.cons_append, List.nil_append, List.append_nil] using this
    rw [valS, if_neg hk9, if_neg hk7, if_neg hk8, if_neg hk11, if_neg hk10, if_neg hk3]
    have l1 := latS_len g opS (.mk k nm n ar ps gs al bs pk) lv d
    rw [Cr.bulk] at l1
    have hd8 : (Cr.mk k nm n ar ps gs al bs pk).cells[0]? = some (.int .i64 k) := by rw [hce]; rfl
    have hll := hlat s1 T tid fid g v es lv d M0.la (M0.ab ha) hlv0 (by omega) hd0 hd00
    refine raw ?_
    repeat (first | (with_reducible refine unr ?_; try simp only [ZZ, ↓reduceIte, Nat.reduceEqDiff, Nat.reduceAdd, Nat.reduceLeDiff, reduceCtorEq, Int.reduceEq, Int.reduceLT, Int.reduceLE, Int.reduceNeg, Int.reduceAdd, Int.reduceSub, Int.reduceToNat, e0, hd8, hk9, hk7, hk8, hk11, hk10, hk3, Cr.len, Cr.take9]) | (with_reducible first | refine W1 ?_ | refine W2 ?_ | refine W3 ?_ | refine W4 ?_ | refine W5 ?_ | refine W6 ?_ | refine W7 ?_ | refine W8 ?_ | refine W9 ?_))
    refine hll.mono ?_
    rintro _ s3 ⟨_, rfl, hP⟩
    obtain ⟨v3, M3, -, -, -⟩ := M0.call hP
    cases last with
    | true =>
      refine raw ?_
      repeat (first | (with_reducible refine unr ?_; try simp only [ZZ, ↓reduceIte, Nat.reduceEqDiff, Nat.reduceAdd, Nat.reduceLeDiff, reduceCtorEq, Int.reduceEq, Int.reduceLT, Int.reduceLE, Int.reduceNeg, Int.reduceAdd, Int.reduceSub, Int.reduceToNat]) | (with_reducible first | refine W1 ?_ | refine W2 ?_ | refine W3 ?_ | refine W4 ?_ | refine W5 ?_ | refine W6 ?_ | refine W7 ?_ | refine W8 ?_ | refine W9 ?_))
      refine (end_ok M3.la (by simp only [List.length_append, List.length_map]; omega) d).mono ?_
      rintro _ s5 ⟨_, rfl, hP⟩
      obtain ⟨v5, M5, -, -, -⟩ := M3.call hP
      refine raw ?_
      repeat (first | (with_reducible refine unr ?_; try simp only [ZZ, ↓reduceIte, Nat.reduceEqDiff, Nat.reduceAdd, Nat.reduceLeDiff, reduceCtorEq, Int.reduceEq, Int.reduceLT, Int.reduceLE, Int.reduceNeg, Int.reduceAdd, Int.reduceSub, Int.reduceToNat]) | (with_reducible first | refine W1 ?_ | refine W2 ?_ | refine W3 ?_ | refine W4 ?_ | refine W5 ?_ | refine W6 ?_ | refine W7 ?_ | refine W8 ?_ | refine W9 ?_))
      refine ⟨(), ?_⟩
      have := M5.out
      simpa only [if_true, List.map_append, List.append_assoc] using this
    | false =>
      refine raw ?_
      repeat (first | (with_reducible refine unr ?_; try simp only [ZZ, ↓reduceIte, Nat.reduceEqDiff, Nat.reduceAdd, Nat.reduceLeDiff, reduceCtorEq, Int.reduceEq, Int.reduceLT, Int.reduceLE, Int.reduceNeg, Int.reduceAdd, Int.reduceSub, Int.reduceToNat]) | (with_reducible first | refine W1 ?_ | refine W2 ?_ | refine W3 ?_ | refine W4 ?_ | refine W5 ?_ | refine W6 ?_ | refine W7 ?_ | refine W8 ?_ | refine W9 ?_))
      refine (put_ok M3.la (by simp only [List.length_append, List.length_map]; omega) 9 0).mono ?_
      rintro _ s5 ⟨_, rfl, hP⟩
      obtain ⟨v5, M5, -, -, -⟩ := M3.call hP
      refine raw ?_
      repeat (first | (with_reducible refine unr ?_; try simp only [ZZ, ↓reduceIte, Nat.reduceEqDiff, Nat.reduceAdd, Nat.reduceLeDiff, reduceCtorEq, Int.reduceEq, Int.reduceLT, Int.reduceLE, Int.reduceNeg, Int.reduceAdd, Int.reduceSub, Int.reduceToNat]) | (with_reducible first | refine W1 ?_ | refine W2 ?_ | refine W3 ?_ | refine W4 ?_ | refine W5 ?_ | refine W6 ?_ | refine W7 ?_ | refine W8 ?_ | refine W9 ?_))
      refine ⟨(), ?_⟩
      have := M5.out
      simpa only [Bool.false_eq_true, if_false, List.map_append, List.map_cons, List.map_nil, List.append_assoc] using this
end Go.Proofs.Ytjjbjibbjbbeaaa
/- Codes of supercombinators, constructors, operators. -/
set_option linter.unusedVariables false
set_option linter.unusedSimpArgs false
namespace Go.AL
structure Cd where
  nm : ByteArray
  ar : Int
  con : Bool
  ops : List Ins
def codeC (c : Cd) : List AV := [.str c.nm, .int .i64 c.ar, .bool c.con, .list (c.ops.map insC)]
def codeR (c : Cd) : List AV := [.str c.nm, .int .i64 c.ar, .bool c.con, .list (c.ops.map rawC)]
theorem leD_raw (i : Ins) : LeDL (rawC i) (insC i) := by
  unfold rawC insC
  refine .cons (.refl _) (.cons (.refl _) (.cons (.refl _) (.cons ?_ .nil)))
  split
  · rename_i h; rw [h]; exact .nil
  · exact .refl _
theorem leD_code (c : Cd) : LeD (.agg (codeR c)) (.agg (codeC c)) := .agg (.cons (.refl _) (.cons (.refl _) (.cons (.refl _) (.cons (.list (leDE_map leD_raw c.ops)) .nil))))
noncomputable def superS (g : Gl) (p : Sup) : Cd := ⟨p.nm, p.ps.length, false, valS g opS (withS [] p.ps ((p.ps.length : Int) - 1) (-1)) p.ps.length true 0 p.bd⟩
def conS (k : Nat) (c : ByteArray × Nat) : Cd := ⟨c.1, c.2, true, ⟨11, c.2, k, []⟩ :: endS 0⟩
def opS' (op : Int) : Cd := ⟨nameS op, 2, false, [ik 1 0, ik 9 0, ik 1 2, ik 9 0, ⟨16, 0, op, []⟩] ++ endS 2⟩
theorem rawC_cln {n : Nat} (i : Ins) : ∀ c, c ∈ rawC i → Cln n c := by
  intro c hc
  simp only [rawC, List.mem_cons, List.not_mem_nil, or_false] at hc
  rcases hc with rfl | rfl | rfl | rfl
  · exact .int _ _
  · exact .int _ _
  · exact .int _ _
  · split
    · exact .nils
    · refine .list' fun e he c hc => ?_
      obtain ⟨p, _, rfl⟩ := List.mem_map.1 he
      simp only [jC, List.mem_cons, List.not_mem_nil, or_false] at hc
      rcases hc with rfl | rfl <;> exact .int _ _
theorem codeR_cln {n : Nat} (c : Cd) : Cln n (.agg (codeR c)) := by
  refine .agg' fun x hx => ?_
  simp only [codeR, List.mem_cons, List.not_mem_nil, or_false] at hx
  rcases hx with rfl | rfl | rfl | rfl
  · exact .str _
  · exact .int _ _
  · exact .bool _
  · refine .list' fun e he c hc => ?_
    obtain ⟨p, _, rfl⟩ := List.mem_map.1 he
    exact rawC_cln p c hc
/-- What a builder of one's own leaves. -/
theorem FP.code {σ s : Store} {v : AV} {c : Cd} {p : AV → Prop} (hs : SliceAt s v 139 4 (c.ops.map rawC)) (k : Kp σ s) (hf : ∀ j, j ∈ slIds v → σ.next ≤ j) (hp : p (.agg (codeR c))) : FP σ p (.agg [.str c.nm, .int .i64 c.ar, .bool c.con, v]) s :=
  FP.mk (.agg (codeR c)) hs (.agg (.cons (.refl _) (.cons (.refl _) (.cons (.refl _) (.cons .here .nil))))) hp (codeR_cln c) k hf
/-- The store behind a builder of one's own, and the result laid. -/
theorem own_upd {σ s1 s2 : Store} {fid id : Nat} {v2 df : AV} {es : List (List AV)} (k1 : Kp σ s1) (hf : σ.next ≤ fid) (hb : BAt s2 fid v2 df es) (hn : s1.next ≤ s2.next) (hk : ∀ j, j < s1.next → j ≠ fid → j ∉ slIds AV.nils → s2.get j = s1.get j) (hfr : ∀ j, j ∈ slIds v2 → j ∈ slIds AV.nils ∨ s1.next ≤ j) (hid : σ.next ≤ id) (hid2 : id < s1.next) (o : AObj) :
    SliceAt (s2.upd id o) v2 139 4 es ∧ Kp σ (s2.upd id o) ∧ ∀ j, j ∈ slIds v2 → σ.next ≤ j := by
  have hv : ∀ j, j ∈ slIds v2 → s1.next ≤ j := fun j hj => (hfr j hj).elim (fun q => by simp [slIds] at q) (fun q => q)
  have := k1.next
  refine ⟨hb.sl.keep fun j hj => Store.get_upd_ne _ _ (by have := hv j hj; omega), ⟨by rw [Store.upd_next]; omega, fun j hj => ?_⟩, fun j hj => by have := hv j hj; omega⟩
  rw [Store.get_upd_ne _ _ (by omega), hk j (by omega) (by omega) (by simp [slIds]), k1.keep j hj]
end Go.AL
namespace Go.Proofs.Ytjjbjibbjbbeaaa
open Go.AL
theorem super_ok (p : Sup) (htw : p.bd.Tw) (σ : Store) (T tid : Nat) (g : Gl) (ht : TAt σ T tid g) (hT : T ≤ σ.next) (hb : p.ps.length + p.bd.bulk ≤ 4000000) :
    ACalls Try.prog 57 [.ptr tid 0 0 0, .agg (supC p)] σ fun r s => r = .agg (codeC (superS g p)) ∧ s = σ := by
  refine ACalls_leD ((ACalls_fp (p := fun r => r = .agg (codeR (superS g p))) ?_).mono fun r s h => ⟨_, by rw [h.1]; exact leD_code _, rfl, h.2⟩)
  refine in57 (by simp) ?_
  unfold c57
  have hsl := supC_len p
  try simp only [ZZ, ↓reduceIte, Nat.reduceEqDiff, Nat.reduceAdd, Nat.reduceLeDiff, reduceCtorEq, Int.reduceEq, Int.reduceLT, Int.reduceLE, Int.reduceNeg, Int.reduceAdd, Int.reduceSub, Int.reduceToNat, hsl]
  iterate 4 ((with_reducible first | refine W1 ?_ | refine W2 ?_ | refine W3 ?_ | refine W4 ?_ | refine W5 ?_ | refine W6 ?_ | refine W7 ?_ | refine W8 ?_ | refine W9 ?_); refine unr ?_; try simp only [ZZ, ↓reduceIte, Nat.reduceEqDiff, Nat.reduceAdd, Nat.reduceLeDiff, reduceCtorEq, Int.reduceEq, Int.reduceLT, Int.reduceLE, Int.reduceNeg, Int.reduceAdd, Int.reduceSub, Int.reduceToNat, hsl])
  generalize hs : Store.push _ _ = s1
  have k1 : Kp σ s1 := by rw [← hs]; exact ((Kp.pushed _ _).push _).push _
  have hn1 : s1.next = σ.next + 3 := by rw [← hs]; rfl
  have e1 : s1.get σ.next = some (.cells 71 0 11 [.str p.nm :: strs p.ps :: p.bd.cells]) := by rw [← hs]; simp [Store.push_get, Store.push_next, supC]; intro h; omega
  have e2 : s1.get (σ.next + 1) = some (.cells 81 0 4 [[.str ⟨#[]⟩, .int .i64 0, .bool false, .nils]]) := by rw [← hs]; simp [Store.push_get, Store.push_next]
  have e3 : s1.get (σ.next + 2) = some (.cells 157 0 2 [[.ptr tid 0 0 0, .nils]]) := by rw [← hs]; simp [Store.push_get, Store.push_next]
  clear hs
  have hB : BAt s1 (σ.next + 2) .nils (.ptr tid 0 0 0) [] := ⟨e3, .nil _ _ _, by simp [slIds]⟩
  have hA : Ab s1 T tid g (σ.next + 2) .nils := ⟨ht.keep fun j hj => k1.keep j (by omega), by omega, by simp [slIds], by omega⟩
  have wn : IntKind.i64.wrap ((p.ps.length : Int) - 1) = (p.ps.length : Int) - 1 := wrap_of (by omega) (by omega)
  have hwi0 := with_ok [] p.ps ((p.ps.length : Int) - 1) (-1) (by simp; omega) (by omega) (.inr rfl) s1
  have hwi := ACalls_argsD (args := [.nils, strs p.ps, .int .i64 ((p.ps.length : Int) - 1), .int .i64 (-1)]) (.cons .nil (.cons (.refl _) (.cons (.refl _) (.cons (.refl _) .nil)))) hwi0
  clear hwi0
  refine raw ?_
  repeat (first | (with_reducible refine unr ?_; try simp only [ZZ, ↓reduceIte, Nat.reduceEqDiff, Nat.reduceAdd, Nat.reduceLeDiff, reduceCtorEq, Int.reduceEq, Int.reduceLT, Int.reduceLE, Int.reduceNeg, Int.reduceAdd, Int.reduceSub, Int.reduceToNat, e1, Cr.len, Cr.take9, wn]) | (with_reducible first | refine W1 ?_ | refine W2 ?_ | refine W3 ?_ | refine W4 ?_ | refine W5 ?_ | refine W6 ?_ | refine W7 ?_ | refine W8 ?_ | refine W9 ?_))
  refine hwi.mono ?_
  clear hwi
  rintro _ _ ⟨rfl, rfl⟩
  rename_i s1
  have hlw : LvOK (withS [] p.ps ((p.ps.length : Int) - 1) (-1)) p.bd.bulk := LvOK.with (n := p.ps.length + p.bd.bulk) ⟨by simp; omega, by simp⟩ p.ps _ (-1) (.inr rfl) (by omega) (by omega)
  have hval := value_ok p.bd htw s1 T tid (σ.next + 2) g .nils [] (withS [] p.ps ((p.ps.length : Int) - 1) (-1)) p.ps.length true hB hA hlw (by simp) (by simp; omega) (by omega) (by omega)
  refine raw ?_
  repeat (first | (with_reducible refine unr ?_; try simp only [ZZ, ↓reduceIte, Nat.reduceEqDiff, Nat.reduceAdd, Nat.reduceLeDiff, reduceCtorEq, Int.reduceEq, Int.reduceLT, Int.reduceLE, Int.reduceNeg, Int.reduceAdd, Int.reduceSub, Int.reduceToNat, e1, Cr.len, Cr.take9]) | (with_reducible first | refine W1 ?_ | refine W2 ?_ | refine W3 ?_ | refine W4 ?_ | refine W5 ?_ | refine W6 ?_ | refine W7 ?_ | refine W8 ?_ | refine W9 ?_))
  refine hval.mono ?_
  rintro _ s2 ⟨_, rfl, hP⟩
  obtain ⟨v2, hb2, hn2, hk2, hf2⟩ := hP
  have f1 := hk2 σ.next (by omega) (by omega) (by simp [slIds])
  have f2 := hk2 (σ.next + 1) (by omega) (by omega) (by simp [slIds])
  rw [e1] at f1
  rw [e2] at f2
  have hu : ∀ o, (s2.upd (σ.next + 1) o).get (σ.next + 1) = some o := fun o => Store.get_upd_self _ _ (s2.lt f2)
  refine raw ?_
  repeat (first | (with_reducible refine unr ?_; try simp only [ZZ, ↓reduceIte, Nat.reduceEqDiff, Nat.reduceAdd, Nat.reduceLeDiff, reduceCtorEq, Int.reduceEq, Int.reduceLT, Int.reduceLE, Int.reduceNeg, Int.reduceAdd, Int.reduceSub, Int.reduceToNat, f1, f2, hb2.hd, hb2.sl.co, hu]) | (with_reducible first | refine W1 ?_ | refine W2 ?_ | refine W3 ?_ | refine W4 ?_ | refine W5 ?_ | refine W6 ?_ | refine W7 ?_ | refine W8 ?_ | refine W9 ?_))
  obtain ⟨q1, q2, q3⟩ := own_upd k1 (by omega) hb2 hn2 hk2 hf2 (id := σ.next + 1) (by omega) (by omega) (.cells 81 0 4 [[AV.str p.nm, AV.int .i64 p.ps.length, AV.bool false, v2]])
  exact FP.code (c := superS g p) q1 q2 q3 rfl
theorem con_ok (k : Nat) (c : ByteArray × Nat) (σ : Store) (T tid : Nat) (g : Gl) (ht : TAt σ T tid g) (hT : T ≤ σ.next) (hk : g.con[k]? = some c) :
    ACalls Try.prog 58 [.ptr tid 0 0 0, .int .i64 (k : Int), .str c.1] σ fun r s => r = .agg (codeC (conS k c)) ∧ s = σ := by
  refine ACalls_leD ((ACalls_fp (p := fun r => r = .agg (codeR (conS k c))) ?_).mono fun r s h => ⟨_, by rw [h.1]; exact leD_code _, rfl, h.2⟩)
  refine in58 (by simp) ?_
  unfold c58
  try simp only [ZZ, ↓reduceIte, Nat.reduceEqDiff, Nat.reduceAdd, Nat.reduceLeDiff, reduceCtorEq, Int.reduceEq, Int.reduceLT, Int.reduceLE, Int.reduceNeg, Int.reduceAdd, Int.reduceSub, Int.reduceToNat]
  iterate 4 ((with_reducible first | refine W1 ?_ | refine W2 ?_ | refine W3 ?_ | refine W4 ?_ | refine W5 ?_ | refine W6 ?_ | refine W7 ?_ | refine W8 ?_ | refine W9 ?_); refine unr ?_; try simp only [ZZ, ↓reduceIte, Nat.reduceEqDiff, Nat.reduceAdd, Nat.reduceLeDiff, reduceCtorEq, Int.reduceEq, Int.reduceLT, Int.reduceLE, Int.reduceNeg, Int.reduceAdd, Int.reduceSub, Int.reduceToNat])
  generalize hs : Store.push _ _ = s1
  have k1 : Kp σ s1 := by rw [← hs]; exact (Kp.pushed _ _).push _
  have hn1 : s1.next = σ.next + 2 := by rw [← hs]; rfl
  have e2 : s1.get σ.next = some (.cells 81 0 4 [[.str ⟨#[]⟩, .int .i64 0, .bool false, .nils]]) := by rw [← hs]; simp [Store.push_get, Store.push_next]
  have e3 : s1.get (σ.next + 1) = some (.cells 157 0 2 [[.ptr tid 0 0 0, .nils]]) := by rw [← hs]; simp [Store.push_get, Store.push_next]
  clear hs
  have hB : BAt s1 (σ.next + 1) .nils (.ptr tid 0 0 0) [] := ⟨e3, .nil _ _ _, by simp [slIds]⟩
  have hA : Ab s1 T tid g (σ.next + 1) .nils := ⟨ht.keep fun j hj => k1.keep j (by omega), by omega, by simp [slIds], by omega⟩
  have M0 := MB.start hB (.refl s1) (N := s1.next) rfl
  obtain ⟨⟨sm, cm, fv, sme, cme, t1, t2, t3, t4, t5, t6, t7, t8, t9, t10, t11⟩, hsm⟩ := hA.t
  obtain ⟨q, hq, hep⟩ := t7.rds.iad k [.int .i64 (c.2 : Int)] (by simp [hk])
  have hld := hep.load none
  refine raw ?_
  repeat (first | (with_reducible refine unr ?_; try simp only [ZZ, ↓reduceIte, Nat.reduceEqDiff, Nat.reduceAdd, Nat.reduceLeDiff, reduceCtorEq, Int.reduceEq, Int.reduceLT, Int.reduceLE, Int.reduceNeg, Int.reduceAdd, Int.reduceSub, Int.reduceToNat, e3, t1, hq, hld]) | (with_reducible first | refine W1 ?_ | refine W2 ?_ | refine W3 ?_ | refine W4 ?_ | refine W5 ?_ | refine W6 ?_ | refine W7 ?_ | refine W8 ?_ | refine W9 ?_))
  refine ok_mbapp M0 (rawC ⟨11, c.2, k, []⟩) rfl (by simp) ?_
  intro v1 s2 hd hn hkk hco M1
  refine raw ?_
  repeat (first | (with_reducible refine unr ?_; try simp only [ZZ, ↓reduceIte, Nat.reduceEqDiff, Nat.reduceAdd, Nat.reduceLeDiff, reduceCtorEq, Int.reduceEq, Int.reduceLT, Int.reduceLE, Int.reduceNeg, Int.reduceAdd, Int.reduceSub, Int.reduceToNat, hd, hco]) | (with_reducible first | refine W1 ?_ | refine W2 ?_ | refine W3 ?_ | refine W4 ?_ | refine W5 ?_ | refine W6 ?_ | refine W7 ?_ | refine W8 ?_ | refine W9 ?_))
  refine (end_ok M1.la (by simp) 0).mono ?_
  rintro _ s3 ⟨_, rfl, hP⟩
  obtain ⟨v3, M3, k3, -, n3⟩ := M1.call hP
  obtain ⟨⟨sm', cm', fv', sme', cme', u1, u2, u3, u4, u5, u6, u7, u8, u9, u10, u11⟩, hsm'⟩ := (M3.ab hA).t
  obtain ⟨q', hq', hep'⟩ := u7.rds.iad k [.int .i64 (c.2 : Int)] (by simp [hk])
  have hld' := hep'.load none
  have f2 := M3.keep σ.next (by omega) (by omega) (by simp [slIds])
  rw [e2] at f2
  have hu : ∀ o, (s3.upd σ.next o).get σ.next = some o := fun o => Store.get_upd_self _ _ (s3.lt f2)
  refine raw ?_
  repeat (first | (with_reducible refine unr ?_; try simp only [ZZ, ↓reduceIte, Nat.reduceEqDiff, Nat.reduceAdd, Nat.reduceLeDiff, reduceCtorEq, Int.reduceEq, Int.reduceLT, Int.reduceLE, Int.reduceNeg, Int.reduceAdd, Int.reduceSub, Int.reduceToNat, M3.la.hd, M3.la.sl.co, u1, hq', hld', f2, hu]) | (with_reducible first | refine W1 ?_ | refine W2 ?_ | refine W3 ?_ | refine W4 ?_ | refine W5 ?_ | refine W6 ?_ | refine W7 ?_ | refine W8 ?_ | refine W9 ?_))
  obtain ⟨q1, q2, q3⟩ := own_upd k1 (by omega) M3.la M3.next M3.keep (fun j hj => (M3.fresh j hj).elim (fun q => .inl q.1) .inr) (id := σ.next) (by omega) (by omega) (.cells 81 0 4 [[AV.str c.1, AV.int .i64 c.2, AV.bool true, v3]])
  exact FP.code (c := conS k c) (by simpa [conS] using q1) q2 q3 rfl
theorem oper_ok (op : Int) (σ : Store) (T tid : Nat) (g : Gl) (ht : TAt σ T tid g) (hT : T ≤ σ.next) :
    ACalls Try.prog 59 [.ptr tid 0 0 0, .int .i64 op] σ fun r s => r = .agg (codeC (opS' op)) ∧ s = σ := by
  refine ACalls_leD ((ACalls_fp (p := fun r => r = .agg (codeR (opS' op))) ?_).mono fun r s h => ⟨_, by rw [h.1]; exact leD_code _, rfl, h.2⟩)
  refine in59 (by simp) ?_
  unfold c59
  try simp only [ZZ, ↓reduceIte, Nat.reduceEqDiff, Nat.reduceAdd, Nat.reduceLeDiff, reduceCtorEq, Int.reduceEq, Int.reduceLT, Int.reduceLE, Int.reduceNeg, Int.reduceAdd, Int.reduceSub, Int.reduceToNat]
  iterate 4 ((with_reducible first | refine W1 ?_ | refine W2 ?_ | refine W3 ?_ | refine W4 ?_ | refine W5 ?_ | refine W6 ?_ | refine W7 ?_ | refine W8 ?_ | refine W9 ?_); refine unr ?_; try simp only [ZZ, ↓reduceIte, Nat.reduceEqDiff, Nat.reduceAdd, Nat.reduceLeDiff, reduceCtorEq, Int.reduceEq, Int.reduceLT, Int.reduceLE, Int.reduceNeg, Int.reduceAdd, Int.reduceSub, Int.reduceToNat])
  generalize hs : Store.push _ _ = s1
  have k1 : Kp σ s1 := by rw [← hs]; exact (Kp.pushed _ _).push _
  have hn1 : s1.next = σ.next + 2 := by rw [← hs]; rfl
  have e2 : s1.get σ.next = some (.cells 81 0 4 [[.str ⟨#[]⟩, .int .i64 0, .bool false, .nils]]) := by rw [← hs]; simp [Store.push_get, Store.push_next]
  have e3 : s1.get (σ.next + 1) = some (.cells 157 0 2 [[.ptr tid 0 0 0, .nils]]) := by rw [← hs]; simp [Store.push_get, Store.push_next]
  clear hs
  have hB : BAt s1 (σ.next + 1) .nils (.ptr tid 0 0 0) [] := ⟨e3, .nil _ _ _, by simp [slIds]⟩
  have M0 := MB.start hB (.refl s1) (N := s1.next) rfl
  refine raw ?_
  repeat (first | (with_reducible refine unr ?_; try simp only [ZZ, ↓reduceIte, Nat.reduceEqDiff, Nat.reduceAdd, Nat.reduceLeDiff, reduceCtorEq, Int.reduceEq, Int.reduceLT, Int.reduceLE, Int.reduceNeg, Int.reduceAdd, Int.reduceSub, Int.reduceToNat]) | (with_reducible first | refine W1 ?_ | refine W2 ?_ | refine W3 ?_ | refine W4 ?_ | refine W5 ?_ | refine W6 ?_ | refine W7 ?_ | refine W8 ?_ | refine W9 ?_))
  refine (put_ok M0.la (by simp) 1 0).mono ?_
  rintro _ s2 ⟨_, rfl, hP⟩
  obtain ⟨v2, M2, -, -, -⟩ := M0.call hP
  refine raw ?_
  repeat (first | (with_reducible refine unr ?_; try simp only [ZZ, ↓reduceIte, Nat.reduceEqDiff, Nat.reduceAdd, Nat.reduceLeDiff, reduceCtorEq, Int.reduceEq, Int.reduceLT, Int.reduceLE, Int.reduceNeg, Int.reduceAdd, Int.reduceSub, Int.reduceToNat]) | (with_reducible first | refine W1 ?_ | refine W2 ?_ | refine W3 ?_ | refine W4 ?_ | refine W5 ?_ | refine W6 ?_ | refine W7 ?_ | refine W8 ?_ | refine W9 ?_))
  refine (put_ok M2.la (by simp) 9 0).mono ?_
  rintro _ s3 ⟨_, rfl, hP⟩
  obtain ⟨v3, M3, -, -, -⟩ := M2.call hP
  refine raw ?_
  repeat (first | (with_reducible refine unr ?_; try simp only [ZZ, ↓reduceIte, Nat.reduceEqDiff, Nat.reduceAdd, Nat.reduceLeDiff, reduceCtorEq, Int.reduceEq, Int.reduceLT, Int.reduceLE, Int.reduceNeg, Int.reduceAdd, Int.reduceSub, Int.reduceToNat]) | (with_reducible first | refine W1 ?_ | refine W2 ?_ | refine W3 ?_ | refine W4 ?_ | refine W5 ?_ | refine W6 ?_ | refine W7 ?_ | refine W8 ?_ | refine W9 ?_))
  refine (put_ok M3.la (by simp) 1 2).mono ?_
  rintro _ s4 ⟨_, rfl, hP⟩
  obtain ⟨v4, M4, -, -, -⟩ := M3.call hP
  refine raw ?_
  repeat (first | (with_reducible refine unr ?_; try simp only [ZZ, ↓reduceIte, Nat.reduceEqDiff, Nat.reduceAdd, Nat.reduceLeDiff, reduceCtorEq, Int.reduceEq, Int.reduceLT, Int.reduceLE, Int.reduceNeg, Int.reduceAdd, Int.reduceSub, Int.reduceToNat]) | (with_reducible first | refine W1 ?_ | refine W2 ?_ | refine W3 ?_ | refine W4 ?_ | refine W5 ?_ | refine W6 ?_ | refine W7 ?_ | refine W8 ?_ | refine W9 ?_))
  refine (put_ok M4.la (by simp) 9 0).mono ?_
  rintro _ s5 ⟨_, rfl, hP⟩
  obtain ⟨v5, M5, -, -, -⟩ := M4.call hP
  refine raw ?_
  repeat (first | (with_reducible refine unr ?_; try simp only [ZZ, ↓reduceIte, Nat.reduceEqDiff, Nat.reduceAdd, Nat.reduceLeDiff, reduceCtorEq, Int.reduceEq, Int.reduceLT, Int.reduceLE, Int.reduceNeg, Int.reduceAdd, Int.reduceSub, Int.reduceToNat]) | (with_reducible first | refine W1 ?_ | refine W2 ?_ | refine W3 ?_ | refine W4 ?_ | refine W5 ?_ | refine W6 ?_ | refine W7 ?_ | refine W8 ?_ | refine W9 ?_))
  refine (number_ok M5.la (by simp) 16 op).mono ?_
  rintro _ s6 ⟨_, rfl, hP⟩
  obtain ⟨v6, M6, -, -, -⟩ := M5.call hP
  refine raw ?_
  repeat (first | (with_reducible refine unr ?_; try simp only [ZZ, ↓reduceIte, Nat.reduceEqDiff, Nat.reduceAdd, Nat.reduceLeDiff, reduceCtorEq, Int.reduceEq, Int.reduceLT, Int.reduceLE, Int.reduceNeg, Int.reduceAdd, Int.reduceSub, Int.reduceToNat]) | (with_reducible first | refine W1 ?_ | refine W2 ?_ | refine W3 ?_ | refine W4 ?_ | refine W5 ?_ | refine W6 ?_ | refine W7 ?_ | refine W8 ?_ | refine W9 ?_))
  refine (end_ok M6.la (by simp) 2).mono ?_
  rintro _ s7 ⟨_, rfl, hP⟩
  obtain ⟨v7, M7, -, -, -⟩ := M6.call hP
  have f2 := M7.keep σ.next (by omega) (by omega) (by simp [slIds])
  rw [e2] at f2
  have hu : ∀ o, (s7.upd σ.next o).get σ.next = some o := fun o => Store.get_upd_self _ _ (s7.lt f2)
  refine raw ?_
  repeat (first | (with_reducible refine unr ?_; try simp only [ZZ, ↓reduceIte, Nat.reduceEqDiff, Nat.reduceAdd, Nat.reduceLeDiff, reduceCtorEq, Int.reduceEq, Int.reduceLT, Int.reduceLE, Int.reduceNeg, Int.reduceAdd, Int.reduceSub, Int.reduceToNat, M7.la.hd]) | (with_reducible first | refine W1 ?_ | refine W2 ?_ | refine W3 ?_ | refine W4 ?_ | refine W5 ?_ | refine W6 ?_ | refine W7 ?_ | refine W8 ?_ | refine W9 ?_))
  refine (opNameX op _).mono ?_
  rintro _ _ ⟨rfl, rfl⟩
  rename_i s7
  refine raw ?_
  repeat (first | (with_reducible refine unr ?_; try simp only [ZZ, ↓reduceIte, Nat.reduceEqDiff, Nat.reduceAdd, Nat.reduceLeDiff, reduceCtorEq, Int.reduceEq, Int.reduceLT, Int.reduceLE, Int.reduceNeg, Int.reduceAdd, Int.reduceSub, Int.reduceToNat, M7.la.hd, M7.la.sl.co, f2, hu]) | (with_reducible first | refine W1 ?_ | refine W2 ?_ | refine W3 ?_ | refine W4 ?_ | refine W5 ?_ | refine W6 ?_ | refine W7 ?_ | refine W8 ?_ | refine W9 ?_))
  obtain ⟨q1, q2, q3⟩ := own_upd k1 (by omega) M7.la M7.next M7.keep (fun j hj => (M7.fresh j hj).elim (fun q => .inl q.1) .inr) (id := σ.next) (by omega) (by omega) (.cells 81 0 4 [[AV.str (nameS op), AV.int .i64 2, AV.bool false, v7]])
  exact FP.code (c := opS' op) (by simpa [opS'] using q1) q2 q3 rfl
end Go.Proofs.Ytjjbjibbjbbeaaa
/- Which expressions may be: how many parts they have. -/
set_option linter.unusedVariables false
set_option linter.unusedSimpArgs false
namespace Go.AL
/-- What may be, where some names are in scope or none. -/
inductive Cr.Rt : Bool → Cr → Prop
  | mk {sc inner : Bool} {k : Int} {nm : ByteArray} {n ar : Int} {ps : List ByteArray} {gs : List Cr} {al : List (AltH × Cr)} {bs : List (ByteArray × Cr)} {pk : List (Int × Cr)} (hk : 1 ≤ k ∧ k ≤ 11) (h0 : k = 9 → 1 ≤ n ∧ n ≤ 11) (h2 : k = 5 ∨ k = 9 → gs.length = 2) (h1 : k = 6 ∨ k = 7 ∨ k = 8 ∨ k = 11 → gs.length = 1) (hv : k = 1 → sc = true) (hb : k = 7 → bs ≠ []) (hn : k ≠ 6 → k ≠ 7 → inner = sc)
    (g1 : ∀ x, x ∈ gs → Cr.Rt inner x) (g2 : ∀ x, x ∈ al → Cr.Rt (sc || !x.1.ps.isEmpty) x.2) (g5 : ∀ x, x ∈ al → x.1.k = 1 ∨ x.1.ps = []) (g3 : ∀ x, x ∈ bs → Cr.Rt inner x.2) (g4 : ∀ x, x ∈ pk → Cr.Rt sc x.2) : Cr.Rt sc (.mk k nm n ar ps gs al bs pk)
theorem Cr.Rt.tw {sc : Bool} {x : Cr} (h : x.Rt sc) : x.Tw := by
  induction h with
  | mk hk h0 h2 h1 hv hb hn g1 g2 g5 g3 g4 i1 i2 i3 i4 => exact .mk h0 h2 h1 i1 i2 i3 i4
theorem Cr.Rt.nil {sc : Bool} {k : Int} {nm : ByteArray} {n ar : Int} {ps : List ByteArray} {gs : List Cr} {al : List (AltH × Cr)} {bs : List (ByteArray × Cr)} {pk : List (Int × Cr)} (hk : 1 ≤ k ∧ k ≤ 11) (hv : k = 1 → sc = true) (h9 : k ≠ 9) (h5 : k ≠ 5) (h6 : k ≠ 6) (h7 : k ≠ 7) (h8 : k ≠ 8) (h11 : k ≠ 11)
    (h : (ps.length : Int) = 0 ∧ (gs.length : Int) = 0 ∧ (al.length : Int) = 0 ∧ (bs.length : Int) = 0 ∧ (pk.length : Int) = 0) : (Cr.mk k nm n ar ps gs al bs pk).Rt sc := by
  obtain ⟨_, h1, h2, h3, h4⟩ := h
  have h1 : gs = [] := List.eq_nil_of_length_eq_zero (by omega)
  have h2 : al = [] := List.eq_nil_of_length_eq_zero (by omega)
  have h3 : bs = [] := List.eq_nil_of_length_eq_zero (by omega)
  have h4 : pk = [] := List.eq_nil_of_length_eq_zero (by omega)
  subst h1 h2 h3 h4
  exact .mk hk (fun h => absurd h h9) (fun h => by omega) (fun h => by omega) hv (fun h => absurd h h7) (fun _ _ => rfl) (by simp) (by simp) (by simp) (by simp) (by simp)
/-- Whether names are in scope. -/
def inS (l : List ByteArray) : Bool := !l.isEmpty
theorem inS_mem {l : List ByteArray} {s : ByteArray} (h : s ∈ l) : inS l = true := by cases l with
  | nil => simp at h
  | cons a r => rfl
theorem inS_app (l m : List ByteArray) : inS (l ++ m) = (inS l || !m.isEmpty) := by cases l <;> simp [inS]
end Go.AL
namespace Go.Proofs.Ytjjbjibbjbbeaaa
open Go.AL
/-- The numbers of parts. -/
structure RtP (k n : Int) (gs : List Cr) (bs : List (ByteArray × Cr)) (sc inner : Bool) : Prop where
  hk : 1 ≤ k ∧ k ≤ 11
  h0 : k = 9 → 1 ≤ n ∧ n ≤ 11
  h2 : k = 5 ∨ k = 9 → gs.length = 2
  h1 : k = 6 ∨ k = 7 ∨ k = 8 ∨ k = 11 → gs.length = 1
  hv : k = 1 → sc = true
  hb : k = 7 → bs ≠ []
  hn : k ≠ 6 → k ≠ 7 → inner = sc
/-- What is said of an alternative. -/
def AltQ (x : AltH) : Prop := x.k = 1 ∨ x.ps = []
def AltP (ins : List ByteArray) (x : AltH × Cr) : Prop := AltQ x.1 ∧ x.2.Rt (inS ins || !x.1.ps.isEmpty)
/-- What is said of the parts. -/
abbrev RightAtT (x : Cr) : Prop := ∀ (σ : Store) (cid : Nat) (v : AV) (l ins : List ByteArray), Chk σ cid v l → ins.length + x.bulk ≤ 50000000 → ACalls Try.prog 86 [.ptr cid 0 0 0, .agg x.cells, strs ins] σ fun r σ' => (∃ b : Bool, r = .bool b ∧ (b = true → x.Rt (inS ins))) ∧ σ' = σ
theorem picksT_ok (pk : List (Int × Cr)) (ih : ∀ x, x ∈ pk → RightAtT x.2) (σ : Store) (cid : Nat) (v : AV) (l ins : List ByteArray) (hc : Chk σ cid v l) (hb : ins.length + Cr.bulkP pk ≤ 50000000) :
    ACalls Try.prog 145 [.ptr cid 0 0 0, .list (pk.map pickC), strs ins] σ fun r σ' => RB (∀ x, x ∈ pk → x.2.Rt (inS ins)) r ∧ σ' = σ := by
  refine ACalls_fp (p := RB _) ?_
  refine in145 (by simp) ?_
  unfold c145
  have hpl := Cr.lenP pk
  refine raw ?_
  repeat (first | (with_reducible refine unr ?_; try simp only [ZZ, ↓reduceIte, Nat.reduceEqDiff, Nat.reduceAdd, Nat.reduceLeDiff, reduceCtorEq, Int.reduceEq, Int.reduceLT, Int.reduceLE, Int.reduceNeg, Int.reduceAdd, Int.reduceSub, Int.reduceToNat]) | (with_reducible first | refine W1 ?_ | refine W2 ?_ | refine W3 ?_ | refine W4 ?_ | refine W5 ?_ | refine W6 ?_ | refine W7 ?_ | refine W8 ?_ | refine W9 ?_))
  refine AWP_while [0, 1, 2, 7, 10, 11, 12] (fun y : AV × Nat => pk.length - y.2) (fun y => [.ptr cid 0 0 0, .list (pk.map pickC), strs ins, y.1, .list (pk.map pickC), .int .i64 pk.length, .int .i64 y.2])
    (fun y t => y.2 ≤ pk.length ∧ Grow σ t y.1 3 1 (((pk.take y.2).map (·.1)).map fun s => [.int .i64 s]) ∧ ∀ x, x ∈ pk.take y.2 → x.2.Rt (inS ins)) (.nils, 0) ⟨by simp, .start _ _ _, by simp⟩ ?_ ?_
  · refine raw ?_
    repeat (first | (with_reducible refine unr ?_; try simp only [ZZ, ↓reduceIte, Nat.reduceEqDiff, Nat.reduceAdd, Nat.reduceLeDiff, reduceCtorEq, Int.reduceEq, Int.reduceLT, Int.reduceLE, Int.reduceNeg, Int.reduceAdd, Int.reduceSub, Int.reduceToNat]) | (with_reducible first | refine W1 ?_ | refine W2 ?_ | refine W3 ?_ | refine W4 ?_ | refine W5 ?_ | refine W6 ?_ | refine W7 ?_ | refine W8 ?_ | refine W9 ?_))
    rfl
  rintro ⟨u, i⟩ t ⟨hi, hG, hall⟩
  simp only at hi hG hall
  have hw := wrap_succ (i := i) (by omega)
  by_cases hil : i < pk.length
  · have hil' : (i : Int) < (pk.length : Int) := by omega
    obtain ⟨x, hx⟩ : ∃ x, pk[i]? = some x := ⟨_, List.getElem?_eq_getElem hil⟩
    have hxm := List.mem_of_getElem? hx
    have hg : (pk.map pickC)[i]? = some (pickC x) := by simp [hx]
    have hxb := Cr.bulkP_le hxm
    refine raw ?_
    repeat' (first | (with_reducible refine unr ?_; try simp only [ZZ, ↓reduceIte, Nat.reduceEqDiff, Nat.reduceAdd, Nat.reduceLeDiff, reduceCtorEq, Int.reduceEq, Int.reduceLT, Int.reduceLE, Int.reduceNeg, Int.reduceAdd, Int.reduceSub, Int.reduceToNat, hil', hg, pickC, Cr.len, Cr.take9, str_nil, *]) | (with_reducible first | refine W1 ?_ | refine W2 ?_ | refine W3 ?_ | refine W4 ?_ | refine W5 ?_ | refine W6 ?_ | refine W7 ?_ | refine W8 ?_ | refine W9 ?_ | refine ok_idx (by first | assumption | omega) (fun b hb => raw ?_) | refine ok_iad (by first | assumption | omega) (fun x hx hxm => raw ?_) | refine And.intro (by omega) (raw ?_) | (refine guardW_b (fun h => raw ?_) (fun h => raw ?_) <;> try simp only [Ty] at h) | (refine ePick_b (fun h => raw ?_) (fun h => raw ?_) <;> try simp only [Ty] at h) | (refine condW_b (fun h => raw ?_) (fun h => raw ?_) <;> try simp only [Ty] at h) | (refine (containsI' (hG.push _).sl.rds (by simp; omega) _).mono ?_; rintro _ _ ⟨⟨b, rfl, hb⟩, rfl⟩; refine raw ?_) | (refine (ih x hxm _ cid v l ins ((hc.keep hG.kp).keep (.pushed _ _)) (by omega)).mono ?_; rintro _ _ ⟨⟨b, rfl, hb⟩, rfl⟩; refine raw ?_)))
    · exact FP.same (hG.kp.trans (.pushed _ _)) RB.f (.bool _)
    · exact FP.same (hG.kp.trans (.pushed _ _)) RB.f (.bool _)
    · refine ok_grow (hG.push _) (es2 := [[.int .i64 x.1]]) (by simp) (by simp; omega) (by simp [maxLen]; omega) ?_
      intro v' t3 hG3 _ _
      refine raw ?_
      repeat (first | (with_reducible refine unr ?_; try simp only [ZZ, ↓reduceIte, Nat.reduceEqDiff, Nat.reduceAdd, Nat.reduceLeDiff, reduceCtorEq, Int.reduceEq, Int.reduceLT, Int.reduceLE, Int.reduceNeg, Int.reduceAdd, Int.reduceSub, Int.reduceToNat, hw]) | (with_reducible first | refine W1 ?_ | refine W2 ?_ | refine W3 ?_ | refine W4 ?_ | refine W5 ?_ | refine W6 ?_ | refine W7 ?_ | refine W8 ?_ | refine W9 ?_))
      refine ⟨(v', i + 1), rfl, ⟨by simp only; omega, ?_, all_succ hall hx (hb h)⟩, by simp only; omega⟩
      have : ((pk.take (i + 1)).map (·.1)).map (fun x => [AV.int .i64 x]) = ((pk.take i).map (·.1)).map (fun x => [AV.int .i64 x]) ++ [[AV.int .i64 x.1]] := by rw [List.take_add_one, hx]; simp
      simp only [this]; exact hG3
  · have hil' : ¬ (i : Int) < (pk.length : Int) := by omega
    rw [List.take_of_length_le (by omega)] at hG hall
    refine raw ?_
    repeat (first | (with_reducible refine unr ?_; try simp only [ZZ, ↓reduceIte, Nat.reduceEqDiff, Nat.reduceAdd, Nat.reduceLeDiff, reduceCtorEq, Int.reduceEq, Int.reduceLT, Int.reduceLE, Int.reduceNeg, Int.reduceAdd, Int.reduceSub, Int.reduceToNat, hil']) | (with_reducible first | refine W1 ?_ | refine W2 ?_ | refine W3 ?_ | refine W4 ?_ | refine W5 ?_ | refine W6 ?_ | refine W7 ?_ | refine W8 ?_ | refine W9 ?_))
    exact FP.same hG.kp (RB.t hall) (.bool _)
theorem altsT_ok (al : List (AltH × Cr)) (ih : ∀ x, x ∈ al → RightAtT x.2) (σ : Store) (cid : Nat) (v : AV) (l ins : List ByteArray) (hc : Chk σ cid v l) (hb : ins.length + Cr.bulkA al ≤ 50000000) :
    ACalls Try.prog 144 [.ptr cid 0 0 0, .list (al.map altC), strs ins] σ fun r σ' => RB (∀ x, x ∈ al → AltP ins x) r ∧ σ' = σ := by
  refine ACalls_fp (p := RB _) ?_
  refine in144 (by simp) ?_
  unfold c144
  have hpl := Cr.lenA al
  refine raw ?_
  repeat (first | (with_reducible refine unr ?_; try simp only [ZZ, ↓reduceIte, Nat.reduceEqDiff, Nat.reduceAdd, Nat.reduceLeDiff, reduceCtorEq, Int.reduceEq, Int.reduceLT, Int.reduceLE, Int.reduceNeg, Int.reduceAdd, Int.reduceSub, Int.reduceToNat]) | (with_reducible first | refine W1 ?_ | refine W2 ?_ | refine W3 ?_ | refine W4 ?_ | refine W5 ?_ | refine W6 ?_ | refine W7 ?_ | refine W8 ?_ | refine W9 ?_))
  refine AWP_while [0, 1, 2, 11, 12, 13] (fun i : Nat => al.length - i) (fun i => [.ptr cid 0 0 0, .list (al.map altC), strs ins, .list (al.map altC), .int .i64 al.length, .int .i64 i])
    (fun i t => i ≤ al.length ∧ Kp σ t ∧ ∀ x, x ∈ al.take i → AltP ins x) 0 ⟨by simp, .refl _, by simp⟩ ?_ ?_
  · refine raw ?_
    repeat (first | (with_reducible refine unr ?_; try simp only [ZZ, ↓reduceIte, Nat.reduceEqDiff, Nat.reduceAdd, Nat.reduceLeDiff, reduceCtorEq, Int.reduceEq, Int.reduceLT, Int.reduceLE, Int.reduceNeg, Int.reduceAdd, Int.reduceSub, Int.reduceToNat]) | (with_reducible first | refine W1 ?_ | refine W2 ?_ | refine W3 ?_ | refine W4 ?_ | refine W5 ?_ | refine W6 ?_ | refine W7 ?_ | refine W8 ?_ | refine W9 ?_))
    rfl
  rintro i t ⟨hi, hk, hall⟩
  have hw := wrap_succ (i := i) (by omega)
  by_cases hil : i < al.length
  · have hil' : (i : Int) < (al.length : Int) := by omega
    obtain ⟨x, hx⟩ : ∃ x, al[i]? = some x := ⟨_, List.getElem?_eq_getElem hil⟩
    have hxm := List.mem_of_getElem? hx
    have hg : (al.map altC)[i]? = some (altC x) := by simp [hx]
    have hxb := Cr.bulkA_le hxm
    try simp only [ZZ, ↓reduceIte, Nat.reduceEqDiff, Nat.reduceAdd, Nat.reduceLeDiff, reduceCtorEq, Int.reduceEq, Int.reduceLT, Int.reduceLE, Int.reduceNeg, Int.reduceAdd, Int.reduceSub, Int.reduceToNat, hil', hg, altC, AltH.cells, Cr.len, Cr.take9]
    iterate 9 ((with_reducible first | refine W1 ?_ | refine W2 ?_ | refine W3 ?_ | refine W4 ?_ | refine W5 ?_ | refine W6 ?_ | refine W7 ?_ | refine W8 ?_ | refine W9 ?_); refine unr ?_; try simp only [ZZ, ↓reduceIte, Nat.reduceEqDiff, Nat.reduceAdd, Nat.reduceLeDiff, reduceCtorEq, Int.reduceEq, Int.reduceLT, Int.reduceLE, Int.reduceNeg, Int.reduceAdd, Int.reduceSub, Int.reduceToNat, hil', hg, altC, AltH.cells, Cr.len, Cr.take9])
    generalize hs : Store.push _ _ = s
    have k1 : Kp σ s := by rw [← hs]; exact hk.push _
    have he : s.get t.next = some (.cells 113 0 13 [[.int .i64 x.1.k, .str x.1.nm, .int .i64 x.1.n, strs x.1.ps] ++ x.2.cells]) := by rw [← hs]; simp [Store.push_get]
    clear hs
    refine AWP_cut [0, 1, 2, 7, 8, 11, 12, 13] (fun _ : Unit => [.ptr cid 0 0 0, .list (al.map altC), strs ins, .int .i64 i, .ptr t.next 0 0 0, .list (al.map altC), .int .i64 al.length, .int .i64 i]) (fun _ s' => s = s' ∧ AltQ x.1) ?_ ?_
    · have hlm : IntKind.i64.wrap ((al.length : Int) - 1) = (al.length : Int) - 1 := wrap_of (by omega) (by omega)
      refine raw ?_
      repeat' (first | (with_reducible refine unr ?_; try simp only [ZZ, ↓reduceIte, Nat.reduceEqDiff, Nat.reduceAdd, Nat.reduceLeDiff, reduceCtorEq, Int.reduceEq, Int.reduceLT, Int.reduceLE, Int.reduceNeg, Int.reduceAdd, Int.reduceSub, Int.reduceToNat, he, str_nil, *]) | (with_reducible first | refine W1 ?_ | refine W2 ?_ | refine W3 ?_ | refine W4 ?_ | refine W5 ?_ | refine W6 ?_ | refine W7 ?_ | refine W8 ?_ | refine W9 ?_ | refine ok_idx (by first | assumption | omega) (fun b hb => raw ?_) | refine ok_iad (by first | assumption | omega) (fun x hx hxm => raw ?_) | refine And.intro (by omega) (raw ?_) | (refine guardW_b (fun h => raw ?_) (fun h => raw ?_) <;> try simp only [Ty] at h) | (refine ePick_b (fun h => raw ?_) (fun h => raw ?_) <;> try simp only [Ty] at h) | (refine condW_b (fun h => raw ?_) (fun h => raw ?_) <;> try simp only [Ty] at h) | (refine (locals' _ (by omega) _).mono ?_; rintro _ _ ⟨⟨b, rfl, hb⟩, rfl⟩; refine raw ?_)))
      all_goals first
        | exact FP.same k1 RB.f (.bool _)
        | exact ⟨(), .inl (by omega)⟩
        | exact ⟨(), .inr (List.eq_nil_of_length_eq_zero (by omega))⟩
    rintro _ _ ⟨rfl, haq⟩
    have hal : (∀ q, q ∈ al.map altC → q.length = 13) = True := by
      refine eq_true fun q hq => ?_
      obtain ⟨y, _, rfl⟩ := List.mem_map.1 hq
      exact altC_len y
    have hi' : (i : Int) ≤ (al.length : Int) := by omega
    have hlt : (((al.take i).length : Nat) : Int) = (i : Int) := by simp; omega
    refine AWP_cut [0, 1, 2, 7, 8, 11, 12, 13] (fun _ : Unit => [.ptr cid 0 0 0, .list (al.map altC), strs ins, .int .i64 i, .ptr t.next 0 0 0, .list (al.map altC), .int .i64 al.length, .int .i64 i]) (fun _ s' => Kp s s') ?_ ?_
    · refine raw ?_
      repeat (first | (with_reducible refine unr ?_; try simp only [ZZ, ↓reduceIte, Nat.reduceEqDiff, Nat.reduceAdd, Nat.reduceLeDiff, reduceCtorEq, Int.reduceEq, Int.reduceLT, Int.reduceLE, Int.reduceNeg, Int.reduceAdd, Int.reduceSub, Int.reduceToNat, hal, hi', map_take', hlt]) | (with_reducible first | refine W1 ?_ | refine W2 ?_ | refine W3 ?_ | refine W4 ?_ | refine W5 ?_ | refine W6 ?_ | refine W7 ?_ | refine W8 ?_ | refine W9 ?_))
      refine AWP_while [0, 1, 2, 7, 8, 11, 12, 13, 72, 73, 74] (fun j : Nat => i - j) (fun j => [.ptr cid 0 0 0, .list (al.map altC), strs ins, .int .i64 i, .ptr t.next 0 0 0, .list (al.map altC), .int .i64 al.length, .int .i64 i, .list ((al.take i).map altC), .int .i64 i, .int .i64 j]) (fun j s' => Kp s s' ∧ j ≤ i) 0 ⟨.refl _, by omega⟩ ?_ ?_
      · refine raw ?_
        repeat (first | (with_reducible refine unr ?_; try simp only [ZZ, ↓reduceIte, Nat.reduceEqDiff, Nat.reduceAdd, Nat.reduceLeDiff, reduceCtorEq, Int.reduceEq, Int.reduceLT, Int.reduceLE, Int.reduceNeg, Int.reduceAdd, Int.reduceSub, Int.reduceToNat]) | (with_reducible first | refine W1 ?_ | refine W2 ?_ | refine W3 ?_ | refine W4 ?_ | refine W5 ?_ | refine W6 ?_ | refine W7 ?_ | refine W8 ?_ | refine W9 ?_))
        rfl
      rintro j t2 ⟨k2, hj⟩
      have hwj := wrap_succ (i := j) (by omega)
      have he2 := k2.get he
      have hq := lt_ne (t2.lt he2)
      by_cases hjl : j < i
      · have hjl' : (j : Int) < (i : Int) := by omega
        obtain ⟨z, hz⟩ : ∃ z, (al.take i)[j]? = some z := ⟨_, List.getElem?_eq_getElem (by simp; omega)⟩
        have hgz : ((al.take i).map altC)[j]? = some (altC z) := by rw [List.getElem?_map, hz]; rfl
        refine raw ?_
        repeat' (first | (with_reducible refine unr ?_; try simp only [ZZ, ↓reduceIte, Nat.reduceEqDiff, Nat.reduceAdd, Nat.reduceLeDiff, reduceCtorEq, Int.reduceEq, Int.reduceLT, Int.reduceLE, Int.reduceNeg, Int.reduceAdd, Int.reduceSub, Int.reduceToNat, hjl', he2, hq, hgz, altC, AltH.cells, Cr.len, Cr.take9, str_nil, *]) | (with_reducible first | refine W1 ?_ | refine W2 ?_ | refine W3 ?_ | refine W4 ?_ | refine W5 ?_ | refine W6 ?_ | refine W7 ?_ | refine W8 ?_ | refine W9 ?_ | refine ok_idx (by first | assumption | omega) (fun b hb => raw ?_) | refine ok_iad (by first | assumption | omega) (fun x hx hxm => raw ?_) | refine And.intro (by omega) (raw ?_) | (refine guardW_b (fun h => raw ?_) (fun h => raw ?_) <;> try simp only [Ty] at h) | (refine ePick_b (fun h => raw ?_) (fun h => raw ?_) <;> try simp only [Ty] at h) | (refine condW_b (fun h => raw ?_) (fun h => raw ?_) <;> try simp only [Ty] at h)))
        all_goals first
          | exact FP.same (k1.trans (k2.push _)) RB.f (.bool _)
          | exact ⟨j + 1, rfl, ⟨k2.push _, by omega⟩, by omega⟩
      · have hjl' : ¬ (j : Int) < (i : Int) := by omega
        refine raw ?_
        repeat (first | (with_reducible refine unr ?_; try simp only [ZZ, ↓reduceIte, Nat.reduceEqDiff, Nat.reduceAdd, Nat.reduceLeDiff, reduceCtorEq, Int.reduceEq, Int.reduceLT, Int.reduceLE, Int.reduceNeg, Int.reduceAdd, Int.reduceSub, Int.reduceToNat, hjl']) | (with_reducible first | refine W1 ?_ | refine W2 ?_ | refine W3 ?_ | refine W4 ?_ | refine W5 ?_ | refine W6 ?_ | refine W7 ?_ | refine W8 ?_ | refine W9 ?_))
        exact ⟨(), k2⟩
    rintro _ s2 k2
    have he2 := k2.get he
    refine raw ?_
    repeat' (first | (with_reducible refine unr ?_; try simp only [ZZ, ↓reduceIte, Nat.reduceEqDiff, Nat.reduceAdd, Nat.reduceLeDiff, reduceCtorEq, Int.reduceEq, Int.reduceLT, Int.reduceLE, Int.reduceNeg, Int.reduceAdd, Int.reduceSub, Int.reduceToNat, he2, Cr.len, Cr.take9, str_nil, *]) | (with_reducible first | refine W1 ?_ | refine W2 ?_ | refine W3 ?_ | refine W4 ?_ | refine W5 ?_ | refine W6 ?_ | refine W7 ?_ | refine W8 ?_ | refine W9 ?_ | refine ok_idx (by first | assumption | omega) (fun b hb => raw ?_) | refine ok_iad (by first | assumption | omega) (fun x hx hxm => raw ?_) | refine And.intro (by omega) (raw ?_) | (refine guardW_b (fun h => raw ?_) (fun h => raw ?_) <;> try simp only [Ty] at h) | (refine ePick_b (fun h => raw ?_) (fun h => raw ?_) <;> try simp only [Ty] at h) | (refine condW_b (fun h => raw ?_) (fun h => raw ?_) <;> try simp only [Ty] at h) | (refine (ih x hxm _ cid v l (ins ++ x.1.ps) (hc.keep (k1.trans k2)) (by simp; omega)).mono ?_; rintro _ _ ⟨⟨b, rfl, hb⟩, rfl⟩; refine raw ?_) | (refine (joined_ok _ _ (by omega) _).mono ?_; rintro _ _ ⟨rfl, rfl⟩; refine raw ?_)))
    · exact FP.same (k1.trans k2) RB.f (.bool _)
    · exact ⟨i + 1, rfl, ⟨by omega, k1.trans k2, all_succ hall hx ⟨haq, by rw [← inS_app]; exact hb h⟩⟩, by omega⟩
  · have hil' : ¬ (i : Int) < (al.length : Int) := by omega
    rw [List.take_of_length_le (by omega)] at hall
    refine raw ?_
    repeat (first | (with_reducible refine unr ?_; try simp only [ZZ, ↓reduceIte, Nat.reduceEqDiff, Nat.reduceAdd, Nat.reduceLeDiff, reduceCtorEq, Int.reduceEq, Int.reduceLT, Int.reduceLE, Int.reduceNeg, Int.reduceAdd, Int.reduceSub, Int.reduceToNat, hil']) | (with_reducible first | refine W1 ?_ | refine W2 ?_ | refine W3 ?_ | refine W4 ?_ | refine W5 ?_ | refine W6 ?_ | refine W7 ?_ | refine W8 ?_ | refine W9 ?_))
    exact FP.same hk (RB.t hall) (.bool _)
theorem picksT' (pk : List (Int × Cr)) (ih : ∀ x, x ∈ pk → RightAtT x.2) (σ : Store) (cid : Nat) (v : AV) (l ins : List ByteArray) (hc : Chk σ cid v l) (hb : ins.length + Cr.bulkP pk ≤ 50000000) :
    ACalls Try.prog 145 [.ptr cid 0 0 0, .list (pk.map pickC), strs ins] σ fun r σ' => (∃ b : Bool, r = .bool b ∧ (b = true → ∀ x, x ∈ pk → x.2.Rt (inS ins))) ∧ σ' = σ := picksT_ok pk ih σ cid v l ins hc hb
theorem altsT' (al : List (AltH × Cr)) (ih : ∀ x, x ∈ al → RightAtT x.2) (σ : Store) (cid : Nat) (v : AV) (l ins : List ByteArray) (hc : Chk σ cid v l) (hb : ins.length + Cr.bulkA al ≤ 50000000) :
    ACalls Try.prog 144 [.ptr cid 0 0 0, .list (al.map altC), strs ins] σ fun r σ' => (∃ b : Bool, r = .bool b ∧ (b = true → ∀ x, x ∈ al → AltP ins x)) ∧ σ' = σ := altsT_ok al ih σ cid v l ins hc hb
theorem containsT' (l : List ByteArray) (hl : l.length ≤ 9223372036854775806) (k : ByteArray) (σ : Store) : ACalls Try.prog 85 [strs l, .str k] σ fun r σ' => (∃ b : Bool, r = .bool b ∧ (b = true → inS l = true)) ∧ σ' = σ :=
  (contains_strs l hl k σ).mono fun _ _ h => ⟨⟨_, h.1, fun e => inS_mem (@of_decide_eq_true _ (Classical.propDecidable _) e)⟩, h.2⟩
theorem containsT2 {σ : Store} {cid : Nat} {v : AV} {l : List ByteArray} (hc : Chk σ cid v l) (k : ByteArray) : ACalls Try.prog 85 [v, .str k] σ fun r σ' => (∃ b : Bool, r = .bool b ∧ True) ∧ σ' = σ :=
  (contains_ok (hc.sl.rds) (by have := hc.len; omega) k).mono fun _ _ h => ⟨⟨_, h.1, trivial⟩, h.2⟩
set_option maxHeartbeats 1000000 in
theorem rightT_ok : ∀ x : Cr, RightAtT x := by
  intro x
  induction x using Cr.ind with
  | _ k nm n ar ps gs al bs pk ih1 ih2 ih3 ih4 =>
    intro σ cid v l ins hc hbk
    rw [Cr.bulk] at hbk
    refine ACalls_fp (p := RB ((Cr.mk k nm n ar ps gs al bs pk).Rt (inS ins))) ?_
    refine in86 (by simp) ?_
    unfold c86
    rw [Cr.cells_eq]
    have hgl := Cr.lenL gs
    have hbl := Cr.lenB bs
    try simp only [ZZ, ↓reduceIte, Nat.reduceEqDiff, Nat.reduceAdd, Nat.reduceLeDiff, reduceCtorEq, Int.reduceEq, Int.reduceLT, Int.reduceLE, Int.reduceNeg, Int.reduceAdd, Int.reduceSub, Int.reduceToNat]
    iterate 2 ((with_reducible first | refine W1 ?_ | refine W2 ?_ | refine W3 ?_ | refine W4 ?_ | refine W5 ?_ | refine W6 ?_ | refine W7 ?_ | refine W8 ?_ | refine W9 ?_); refine unr ?_; try simp only [ZZ, ↓reduceIte, Nat.reduceEqDiff, Nat.reduceAdd, Nat.reduceLeDiff, reduceCtorEq, Int.reduceEq, Int.reduceLT, Int.reduceLE, Int.reduceNeg, Int.reduceAdd, Int.reduceSub, Int.reduceToNat])
    generalize hs : Store.push _ _ = s
    have k1 : Kp σ s := by rw [← hs]; exact .pushed _ _
    have he : s.get σ.next = some (.cells 54 0 9 [[.int .i64 k, .str nm, .int .i64 n, .int .i64 ar, strs ps, .list (gs.map Cr.cells), .list (al.map altC), .list (bs.map bindC), .list (pk.map pickC)]]) := by rw [← hs]; simp [Store.push_get]
    have hcs := hc.keep k1
    have hgc := hcs.hd
    clear hs
    refine AWP_cut [0, 2, 4, 7] (fun b : Bool => [.ptr cid 0 0 0, strs ins, .ptr σ.next 0 0 0, .bool b]) (fun _ s' => s = s') ?_ ?_
    · refine raw ?_
      repeat' (first | (with_reducible refine unr ?_; try simp only [ZZ, ↓reduceIte, Nat.reduceEqDiff, Nat.reduceAdd, Nat.reduceLeDiff, reduceCtorEq, Int.reduceEq, Int.reduceLT, Int.reduceLE, Int.reduceNeg, Int.reduceAdd, Int.reduceSub, Int.reduceToNat, he, str_nil, *]) | (with_reducible first | refine W1 ?_ | refine W2 ?_ | refine W3 ?_ | refine W4 ?_ | refine W5 ?_ | refine W6 ?_ | refine W7 ?_ | refine W8 ?_ | refine W9 ?_ | refine ok_idx (by first | assumption | omega) (fun b hb => raw ?_) | refine ok_iad (by first | assumption | omega) (fun x hx hxm => raw ?_) | refine And.intro (by omega) (raw ?_) | (refine guardW_b (fun h => raw ?_) (fun h => raw ?_) <;> try simp only [Ty] at h) | (refine ePick_b (fun h => raw ?_) (fun h => raw ?_) <;> try simp only [Ty] at h) | (refine condW_b (fun h => raw ?_) (fun h => raw ?_) <;> try simp only [Ty] at h)))
      all_goals exact ⟨_, rfl⟩
    rintro b1 _ rfl
    refine AWP_cut [0, 2, 4, 7, 8] (fun b : Bool => [.ptr cid 0 0 0, strs ins, .ptr σ.next 0 0 0, .bool b1, .bool b]) (fun _ s' => s = s') ?_ ?_
    · refine raw ?_
      repeat' (first | (with_reducible refine unr ?_; try simp only [ZZ, ↓reduceIte, Nat.reduceEqDiff, Nat.reduceAdd, Nat.reduceLeDiff, reduceCtorEq, Int.reduceEq, Int.reduceLT, Int.reduceLE, Int.reduceNeg, Int.reduceAdd, Int.reduceSub, Int.reduceToNat, he, str_nil, *]) | (with_reducible first | refine W1 ?_ | refine W2 ?_ | refine W3 ?_ | refine W4 ?_ | refine W5 ?_ | refine W6 ?_ | refine W7 ?_ | refine W8 ?_ | refine W9 ?_ | refine ok_idx (by first | assumption | omega) (fun b hb => raw ?_) | refine ok_iad (by first | assumption | omega) (fun x hx hxm => raw ?_) | refine And.intro (by omega) (raw ?_) | (refine guardW_b (fun h => raw ?_) (fun h => raw ?_) <;> try simp only [Ty] at h) | (refine ePick_b (fun h => raw ?_) (fun h => raw ?_) <;> try simp only [Ty] at h) | (refine condW_b (fun h => raw ?_) (fun h => raw ?_) <;> try simp only [Ty] at h)))
      all_goals exact ⟨_, rfl⟩
    rintro b2 _ rfl
    refine AWP_cut [0, 2, 4] (fun _ : Unit => [.ptr cid 0 0 0, strs ins, .ptr σ.next 0 0 0]) (fun _ s' => s = s') ?_ ?_
    · refine raw ?_
      repeat' (first | (with_reducible refine unr ?_; try simp only [ZZ, ↓reduceIte, Nat.reduceEqDiff, Nat.reduceAdd, Nat.reduceLeDiff, reduceCtorEq, Int.reduceEq, Int.reduceLT, Int.reduceLE, Int.reduceNeg, Int.reduceAdd, Int.reduceSub, Int.reduceToNat, he, str_nil, *]) | (with_reducible first | refine W1 ?_ | refine W2 ?_ | refine W3 ?_ | refine W4 ?_ | refine W5 ?_ | refine W6 ?_ | refine W7 ?_ | refine W8 ?_ | refine W9 ?_ | refine ok_idx (by first | assumption | omega) (fun b hb => raw ?_) | refine ok_iad (by first | assumption | omega) (fun x hx hxm => raw ?_) | refine And.intro (by omega) (raw ?_) | (refine guardW_b (fun h => raw ?_) (fun h => raw ?_) <;> try simp only [Ty] at h) | (refine ePick_b (fun h => raw ?_) (fun h => raw ?_) <;> try simp only [Ty] at h) | (refine condW_b (fun h => raw ?_) (fun h => raw ?_) <;> try simp only [Ty] at h)))
      all_goals first
        | exact FP.same k1 RB.f (.bool _)
        | exact ⟨(), trivial⟩
    rintro _ _ rfl
    try simp only [ZZ, ↓reduceIte, Nat.reduceEqDiff, Nat.reduceAdd, Nat.reduceLeDiff, reduceCtorEq, Int.reduceEq, Int.reduceLT, Int.reduceLE, Int.reduceNeg, Int.reduceAdd, Int.reduceSub, Int.reduceToNat, he]
    iterate 4 ((with_reducible first | refine W1 ?_ | refine W2 ?_ | refine W3 ?_ | refine W4 ?_ | refine W5 ?_ | refine W6 ?_ | refine W7 ?_ | refine W8 ?_ | refine W9 ?_); refine unr ?_; try simp only [ZZ, ↓reduceIte, Nat.reduceEqDiff, Nat.reduceAdd, Nat.reduceLeDiff, reduceCtorEq, Int.reduceEq, Int.reduceLT, Int.reduceLE, Int.reduceNeg, Int.reduceAdd, Int.reduceSub, Int.reduceToNat, he])
    generalize hs : Store.push s _ = s9
    have k9 : Kp s s9 := by rw [← hs]; exact .pushed _ _
    have he9 := k9.get he
    have hf : s9.get s.next = some (.cells 246 0 5 [[.int .i64 ps.length, .int .i64 gs.length, .int .i64 al.length, .int .i64 bs.length, .int .i64 pk.length]]) := by rw [← hs]; simp [Store.push_get]
    have hc9 := hcs.keep k9
    have kk := k1.trans k9
    clear hs
    have hlen9 := hc9.len
    refine AWP_cut [0, 4, 10] (fun y : List ByteArray => [.ptr cid 0 0 0, .ptr σ.next 0 0 0, strs y]) (fun y s' => s9 = s' ∧ y.length + Cr.bulkL gs ≤ 50000000 ∧ (∀ z, z ∈ bs → y.length + z.2.bulk ≤ 50000000) ∧ RtP k n gs bs (inS ins) (inS y) ∧ (∀ x, x ∈ al → AltP ins x) ∧ (∀ x, x ∈ pk → x.2.Rt (inS ins))) ?_ ?_
    · refine raw ?_
      repeat' (first | (with_reducible refine unr ?_; try simp only [ZZ, ↓reduceIte, Nat.reduceEqDiff, Nat.reduceAdd, Nat.reduceLeDiff, reduceCtorEq, Int.reduceEq, Int.reduceLT, Int.reduceLE, Int.reduceNeg, Int.reduceAdd, Int.reduceSub, Int.reduceToNat, he9, hf, hc9.hd, row5_eq, row5_ne, str_nil, *]) | (with_reducible first | refine W1 ?_ | refine W2 ?_ | refine W3 ?_ | refine W4 ?_ | refine W5 ?_ | refine W6 ?_ | refine W7 ?_ | refine W8 ?_ | refine W9 ?_ | refine ok_idx (by first | assumption | omega) (fun b hb => raw ?_) | refine ok_iad (by first | assumption | omega) (fun x hx hxm => raw ?_) | refine And.intro (by omega) (raw ?_) | (refine guardW_b (fun h => raw ?_) (fun h => raw ?_) <;> try simp only [Ty] at h) | (refine ePick_b (fun h => raw ?_) (fun h => raw ?_) <;> try simp only [Ty] at h) | (refine condW_b (fun h => raw ?_) (fun h => raw ?_) <;> try simp only [Ty] at h) | (refine (containsT' ins (by omega) _ _).mono ?_; rintro _ _ ⟨⟨b, rfl, hb⟩, rfl⟩; refine raw ?_) | (refine (containsT2 hc9 _).mono ?_; rintro _ _ ⟨⟨b, rfl, hb⟩, rfl⟩; refine raw ?_) | (refine (op' _ _).mono ?_; rintro _ _ ⟨⟨b, rfl, hb⟩, rfl⟩; refine raw ?_) | (refine (locals' _ (by (try simp); omega) _).mono ?_; rintro _ _ ⟨⟨b, rfl, hb⟩, rfl⟩; refine raw ?_) | (refine (altsT' al ih2 _ cid v l ins hc9 (by omega)).mono ?_; rintro _ _ ⟨⟨b, rfl, hb⟩, rfl⟩; refine raw ?_) | (refine (picksT' pk ih4 _ cid v l ins hc9 (by omega)).mono ?_; rintro _ _ ⟨⟨b, rfl, hb⟩, rfl⟩; refine raw ?_) | (refine (joined_ok _ _ (by (try simp); omega) _).mono ?_; rintro _ _ ⟨rfl, rfl⟩; refine raw ?_) | (refine (names_ok _ (by omega) _).mono ?_; rintro _ _ ⟨rfl, rfl⟩; refine raw ?_)))
      all_goals first
        | exact FP.same kk RB.f (.bool _)
        | exact FP.same kk (RB.t (.nil (by omega) (fun e => by first | exact hb h | omega) (by omega) (by omega) (by omega) (by omega) (by omega) (by omega) (by assumption))) (.bool _)
        | exact FP.same kk ⟨_, rfl, fun hh => .nil (by omega) (fun e => by first | exact hb hh | omega) (by omega) (by omega) (by omega) (by omega) (by omega) (by omega) (by first | assumption | exact of_decide_eq_true hh)⟩ (.bool _)
        | exact ⟨_, rfl, by first | omega | (simp; omega), fun z hz => (by have := Cr.bulkB_le2 hz; first | omega | (simp; omega)), ⟨by omega, fun hf => by first | omega | (exfalso; simp at hf; done) | exact False.elim hf, fun hf => by first | omega | (exfalso; simp at hf; done) | exact False.elim hf, fun hf => by first | omega | (exfalso; simp at hf; done) | exact False.elim hf, fun hf => by first | omega | (exfalso; simp at hf; done) | exact False.elim hf, fun hf => List.ne_nil_of_length_pos (by first | omega | (exfalso; simp at hf; done) | exact False.elim hf), fun h6 h7 => by first | rfl | omega | (exfalso; simp at h6; done) | (exfalso; simp at h7; done)⟩, by first | exact hb h | exact all_nil (by omega), by first | exact hb h | exact all_nil (by omega)⟩
    rintro inner _ ⟨rfl, hin, hin2, h6, hal, hpk⟩
    refine AWP_cut [0, 4, 10] (fun _ : Unit => [.ptr cid 0 0 0, .ptr σ.next 0 0 0, strs inner]) (fun _ s' => Kp s9 s' ∧ ∀ x, x ∈ gs → x.Rt (inS inner)) ?_ ?_
    · refine raw ?_
      repeat (first | (with_reducible refine unr ?_; try simp only [ZZ, ↓reduceIte, Nat.reduceEqDiff, Nat.reduceAdd, Nat.reduceLeDiff, reduceCtorEq, Int.reduceEq, Int.reduceLT, Int.reduceLE, Int.reduceNeg, Int.reduceAdd, Int.reduceSub, Int.reduceToNat, he9]) | (with_reducible first | refine W1 ?_ | refine W2 ?_ | refine W3 ?_ | refine W4 ?_ | refine W5 ?_ | refine W6 ?_ | refine W7 ?_ | refine W8 ?_ | refine W9 ?_))
      refine AWP_while [0, 4, 10, 240, 241, 242] (fun i : Nat => gs.length - i) (fun i => [.ptr cid 0 0 0, .ptr σ.next 0 0 0, strs inner, .list (gs.map Cr.cells), .int .i64 gs.length, .int .i64 i])
        (fun i t => i ≤ gs.length ∧ Kp s9 t ∧ ∀ x, x ∈ gs.take i → x.Rt (inS inner)) 0 ⟨by simp, .refl _, by simp⟩ ?_ ?_
      · refine raw ?_
        repeat (first | (with_reducible refine unr ?_; try simp only [ZZ, ↓reduceIte, Nat.reduceEqDiff, Nat.reduceAdd, Nat.reduceLeDiff, reduceCtorEq, Int.reduceEq, Int.reduceLT, Int.reduceLE, Int.reduceNeg, Int.reduceAdd, Int.reduceSub, Int.reduceToNat]) | (with_reducible first | refine W1 ?_ | refine W2 ?_ | refine W3 ?_ | refine W4 ?_ | refine W5 ?_ | refine W6 ?_ | refine W7 ?_ | refine W8 ?_ | refine W9 ?_))
        rfl
      rintro i t ⟨hi, k2, hall⟩
      have hw := wrap_succ (i := i) (by omega)
      by_cases hil : i < gs.length
      · have hil' : (i : Int) < (gs.length : Int) := by omega
        obtain ⟨x, hx⟩ : ∃ x, gs[i]? = some x := ⟨_, List.getElem?_eq_getElem hil⟩
        have hxm := List.mem_of_getElem? hx
        have hg : (gs.map Cr.cells)[i]? = some (Cr.cells x) := by simp [hx]
        have hxb := Cr.bulkL_le hxm
        refine raw ?_
        repeat' (first | (with_reducible refine unr ?_; try simp only [ZZ, ↓reduceIte, Nat.reduceEqDiff, Nat.reduceAdd, Nat.reduceLeDiff, reduceCtorEq, Int.reduceEq, Int.reduceLT, Int.reduceLE, Int.reduceNeg, Int.reduceAdd, Int.reduceSub, Int.reduceToNat, hil', hg, Cr.len, Cr.take9, str_nil, *]) | (with_reducible first | refine W1 ?_ | refine W2 ?_ | refine W3 ?_ | refine W4 ?_ | refine W5 ?_ | refine W6 ?_ | refine W7 ?_ | refine W8 ?_ | refine W9 ?_ | refine ok_idx (by first | assumption | omega) (fun b hb => raw ?_) | refine ok_iad (by first | assumption | omega) (fun x hx hxm => raw ?_) | refine And.intro (by omega) (raw ?_) | (refine guardW_b (fun h => raw ?_) (fun h => raw ?_) <;> try simp only [Ty] at h) | (refine ePick_b (fun h => raw ?_) (fun h => raw ?_) <;> try simp only [Ty] at h) | (refine condW_b (fun h => raw ?_) (fun h => raw ?_) <;> try simp only [Ty] at h) | (refine (ih1 x hxm _ cid v l inner ((hc9.keep k2).keep (.pushed _ _)) (by omega)).mono ?_; rintro _ _ ⟨⟨b, rfl, hb⟩, rfl⟩; refine raw ?_)))
        · exact FP.same (kk.trans (k2.push _)) RB.f (.bool _)
        · exact ⟨i + 1, rfl, ⟨by omega, k2.push _, all_succ hall hx (hb h)⟩, by omega⟩
      · have hil' : ¬ (i : Int) < (gs.length : Int) := by omega
        rw [List.take_of_length_le (by omega)] at hall
        refine raw ?_
        repeat (first | (with_reducible refine unr ?_; try simp only [ZZ, ↓reduceIte, Nat.reduceEqDiff, Nat.reduceAdd, Nat.reduceLeDiff, reduceCtorEq, Int.reduceEq, Int.reduceLT, Int.reduceLE, Int.reduceNeg, Int.reduceAdd, Int.reduceSub, Int.reduceToNat, hil']) | (with_reducible first | refine W1 ?_ | refine W2 ?_ | refine W3 ?_ | refine W4 ?_ | refine W5 ?_ | refine W6 ?_ | refine W7 ?_ | refine W8 ?_ | refine W9 ?_))
        exact ⟨(), k2, hall⟩
    rintro _ s2 ⟨k2, hgs⟩
    have he2 := k2.get he9
    refine raw ?_
    repeat (first | (with_reducible refine unr ?_; try simp only [ZZ, ↓reduceIte, Nat.reduceEqDiff, Nat.reduceAdd, Nat.reduceLeDiff, reduceCtorEq, Int.reduceEq, Int.reduceLT, Int.reduceLE, Int.reduceNeg, Int.reduceAdd, Int.reduceSub, Int.reduceToNat, he2]) | (with_reducible first | refine W1 ?_ | refine W2 ?_ | refine W3 ?_ | refine W4 ?_ | refine W5 ?_ | refine W6 ?_ | refine W7 ?_ | refine W8 ?_ | refine W9 ?_))
    refine AWP_while [0, 10, 253, 254, 255] (fun i : Nat => bs.length - i) (fun i => [.ptr cid 0 0 0, strs inner, .list (bs.map bindC), .int .i64 bs.length, .int .i64 i])
      (fun i t => i ≤ bs.length ∧ Kp s2 t ∧ ∀ x, x ∈ bs.take i → x.2.Rt (inS inner)) 0 ⟨by simp, .refl _, by simp⟩ ?_ ?_
    · refine raw ?_
      repeat (first | (with_reducible refine unr ?_; try simp only [ZZ, ↓reduceIte, Nat.reduceEqDiff, Nat.reduceAdd, Nat.reduceLeDiff, reduceCtorEq, Int.reduceEq, Int.reduceLT, Int.reduceLE, Int.reduceNeg, Int.reduceAdd, Int.reduceSub, Int.reduceToNat]) | (with_reducible first | refine W1 ?_ | refine W2 ?_ | refine W3 ?_ | refine W4 ?_ | refine W5 ?_ | refine W6 ?_ | refine W7 ?_ | refine W8 ?_ | refine W9 ?_))
      rfl
    rintro i t ⟨hi, k3, hall⟩
    have hw := wrap_succ (i := i) (by omega)
    by_cases hil : i < bs.length
    · have hil' : (i : Int) < (bs.length : Int) := by omega
      obtain ⟨x, hx⟩ : ∃ x, bs[i]? = some x := ⟨_, List.getElem?_eq_getElem hil⟩
      have hxm := List.mem_of_getElem? hx
      have hg : (bs.map bindC)[i]? = some (bindC x) := by simp [hx]
      refine raw ?_
      repeat' (first | (with_reducible refine unr ?_; try simp only [ZZ, ↓reduceIte, Nat.reduceEqDiff, Nat.reduceAdd, Nat.reduceLeDiff, reduceCtorEq, Int.reduceEq, Int.reduceLT, Int.reduceLE, Int.reduceNeg, Int.reduceAdd, Int.reduceSub, Int.reduceToNat, hil', hg, bindC, Cr.len, Cr.take9, str_nil, *]) | (with_reducible first | refine W1 ?_ | refine W2 ?_ | refine W3 ?_ | refine W4 ?_ | refine W5 ?_ | refine W6 ?_ | refine W7 ?_ | refine W8 ?_ | refine W9 ?_ | refine ok_idx (by first | assumption | omega) (fun b hb => raw ?_) | refine ok_iad (by first | assumption | omega) (fun x hx hxm => raw ?_) | refine And.intro (by omega) (raw ?_) | (refine guardW_b (fun h => raw ?_) (fun h => raw ?_) <;> try simp only [Ty] at h) | (refine ePick_b (fun h => raw ?_) (fun h => raw ?_) <;> try simp only [Ty] at h) | (refine condW_b (fun h => raw ?_) (fun h => raw ?_) <;> try simp only [Ty] at h) | (refine (ih3 x hxm _ cid v l inner ((hc9.keep (k2.trans k3)).keep (.pushed _ _)) (hin2 x hxm)).mono ?_; rintro _ _ ⟨⟨b, rfl, hb⟩, rfl⟩; refine raw ?_)))
      · exact FP.same (kk.trans (k2.trans (k3.push _))) RB.f (.bool _)
      · exact ⟨i + 1, rfl, ⟨by omega, k3.push _, all_succ hall hx (hb h)⟩, by omega⟩
    · have hil' : ¬ (i : Int) < (bs.length : Int) := by omega
      rw [List.take_of_length_le (by omega)] at hall
      refine raw ?_
      repeat (first | (with_reducible refine unr ?_; try simp only [ZZ, ↓reduceIte, Nat.reduceEqDiff, Nat.reduceAdd, Nat.reduceLeDiff, reduceCtorEq, Int.reduceEq, Int.reduceLT, Int.reduceLE, Int.reduceNeg, Int.reduceAdd, Int.reduceSub, Int.reduceToNat, hil']) | (with_reducible first | refine W1 ?_ | refine W2 ?_ | refine W3 ?_ | refine W4 ?_ | refine W5 ?_ | refine W6 ?_ | refine W7 ?_ | refine W8 ?_ | refine W9 ?_))
      exact FP.same (kk.trans (k2.trans k3)) (RB.t (.mk h6.hk h6.h0 h6.h2 h6.h1 h6.hv h6.hb h6.hn hgs (fun x hx => (hal x hx).2) (fun x hx => (hal x hx).1) hall hpk)) (.bool _)
end Go.Proofs.Ytjjbjibbjbbeaaa
