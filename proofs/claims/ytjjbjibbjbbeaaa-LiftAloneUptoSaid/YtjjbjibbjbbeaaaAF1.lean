/- Core expressions as plain data. -/
import Derived.Test.YtjjbjibbjbbeaaaAFc
import Derived.Test.YtjjbjibbjbbeaaaAL21
set_option linter.unusedVariables false
set_option linter.unusedSimpArgs false
namespace Go.AL
/-- A flat alternative, its body aside. -/
structure AltH where
  k : Int
  nm : ByteArray
  n : Int
  ps : List ByteArray
/-- A core expression. -/
inductive Cr where
  | mk (k : Int) (nm : ByteArray) (n ar : Int) (ps : List ByteArray) (gs : List Cr) (al : List (AltH × Cr)) (bs : List (ByteArray × Cr)) (pk : List (Int × Cr))
abbrev strs (l : List ByteArray) : AV := .list (l.map fun s => [.str s])
def AltH.cells (h : AltH) : List AV := [.int .i64 h.k, .str h.nm, .int .i64 h.n, strs h.ps]
mutual
def Cr.cells : Cr → List AV
  | .mk k nm n ar ps gs al bs pk => [.int .i64 k, .str nm, .int .i64 n, .int .i64 ar, strs ps, .list (Cr.cellsL gs), .list (Cr.cellsA al), .list (Cr.cellsB bs), .list (Cr.cellsP pk)]
def Cr.cellsL : List Cr → List (List AV)
  | [] => []
  | x :: r => Cr.cells x :: Cr.cellsL r
def Cr.cellsA : List (AltH × Cr) → List (List AV)
  | [] => []
  | (h, x) :: r => (h.cells ++ Cr.cells x) :: Cr.cellsA r
def Cr.cellsB : List (ByteArray × Cr) → List (List AV)
  | [] => []
  | (s, x) :: r => (.str s :: Cr.cells x) :: Cr.cellsB r
def Cr.cellsP : List (Int × Cr) → List (List AV)
  | [] => []
  | (s, x) :: r => (.int .i64 s :: Cr.cells x) :: Cr.cellsP r
end
def altC (p : AltH × Cr) : List AV := p.1.cells ++ p.2.cells
def bindC (p : ByteArray × Cr) : List AV := .str p.1 :: p.2.cells
def pickC (p : Int × Cr) : List AV := .int .i64 p.1 :: p.2.cells
theorem Cr.cellsL_map : ∀ l : List Cr, Cr.cellsL l = l.map Cr.cells
  | [] => by rw [Cr.cellsL]; rfl
  | x :: r => by rw [Cr.cellsL, Cr.cellsL_map r]; rfl
theorem Cr.cellsA_map : ∀ l : List (AltH × Cr), Cr.cellsA l = l.map altC
  | [] => by rw [Cr.cellsA]; rfl
  | (h, x) :: r => by rw [Cr.cellsA, Cr.cellsA_map r]; rfl
theorem Cr.cellsB_map : ∀ l : List (ByteArray × Cr), Cr.cellsB l = l.map bindC
  | [] => by rw [Cr.cellsB]; rfl
  | (h, x) :: r => by rw [Cr.cellsB, Cr.cellsB_map r]; rfl
theorem Cr.cellsP_map : ∀ l : List (Int × Cr), Cr.cellsP l = l.map pickC
  | [] => by rw [Cr.cellsP]; rfl
  | (h, x) :: r => by rw [Cr.cellsP, Cr.cellsP_map r]; rfl
theorem Cr.cells_eq (k : Int) (nm : ByteArray) (n ar : Int) (ps : List ByteArray) (gs : List Cr) (al : List (AltH × Cr)) (bs : List (ByteArray × Cr)) (pk : List (Int × Cr)) :
    (Cr.mk k nm n ar ps gs al bs pk).cells = [.int .i64 k, .str nm, .int .i64 n, .int .i64 ar, strs ps, .list (gs.map Cr.cells), .list (al.map altC), .list (bs.map bindC), .list (pk.map pickC)] := by
  rw [Cr.cells, Cr.cellsL_map, Cr.cellsA_map, Cr.cellsB_map, Cr.cellsP_map]
theorem Cr.len (x : Cr) : x.cells.length = 9 := by cases x; rw [Cr.cells_eq]; rfl
theorem altC_len (x : AltH × Cr) : (altC x).length = 13 := by simp [altC, AltH.cells, Cr.len]
theorem bindC_len (x : ByteArray × Cr) : (bindC x).length = 10 := by simp [bindC, Cr.len]
theorem pickC_len (x : Int × Cr) : (pickC x).length = 10 := by simp [pickC, Cr.len]
theorem Cr.ind {p : Cr → Prop} (h : ∀ k nm n ar ps gs al bs pk, (∀ x, x ∈ gs → p x) → (∀ x, x ∈ al → p x.2) → (∀ x, x ∈ bs → p x.2) → (∀ x, x ∈ pk → p x.2) → p (.mk k nm n ar ps gs al bs pk)) : ∀ x, p x
  | .mk k nm n ar ps gs al bs pk => h k nm n ar ps gs al bs pk (fun x hx => Cr.ind h x) (fun x hx => Cr.ind h x.2) (fun x hx => Cr.ind h x.2) (fun x hx => Cr.ind h x.2)
termination_by x => SizeOf.sizeOf x
decreasing_by
  · have := List.sizeOf_lt_of_mem hx; simp; omega
  · have := List.sizeOf_lt_of_mem hx; obtain ⟨a, b⟩ := x; simp at this ⊢; omega
  · have := List.sizeOf_lt_of_mem hx; obtain ⟨a, b⟩ := x; simp at this ⊢; omega
  · have := List.sizeOf_lt_of_mem hx; obtain ⟨a, b⟩ := x; simp at this ⊢; omega
theorem cln_strs {n : Nat} (l : List ByteArray) : Cln n (strs l) := .list' fun e he c hc => by
  simp at he
  obtain ⟨y, hy, rfl⟩ := he
  simp at hc
  subst hc
  exact .str _
theorem Cr.cln {n : Nat} (x : Cr) : ∀ c, c ∈ x.cells → Cln n c := by
  induction x using Cr.ind with
  | _ k nm m ar ps gs al bs pk h1 h2 h3 h4 =>
    intro c hc
    rw [Cr.cells_eq] at hc
    simp at hc
    rcases hc with rfl | rfl | rfl | rfl | rfl | rfl | rfl | rfl | rfl
    · exact .int _ _
    · exact .str _
    · exact .int _ _
    · exact .int _ _
    · exact cln_strs ps
    · refine .list' fun e he c hc => ?_
      simp at he
      obtain ⟨y, hy, rfl⟩ := he
      exact h1 y hy c hc
    · refine .list' fun e he c hc => ?_
      simp at he
      obtain ⟨a, b, hy, rfl⟩ := he
      simp [altC, AltH.cells] at hc
      rcases hc with rfl | rfl | rfl | rfl | hc
      · exact .int _ _
      · exact .str _
      · exact .int _ _
      · exact cln_strs _
      · exact h2 _ hy c hc
    · refine .list' fun e he c hc => ?_
      simp at he
      obtain ⟨a, b, hy, rfl⟩ := he
      simp [bindC] at hc
      rcases hc with rfl | hc
      · exact .str _
      · exact h3 _ hy c hc
    · refine .list' fun e he c hc => ?_
      simp at he
      obtain ⟨a, b, hy, rfl⟩ := he
      simp [pickC] at hc
      rcases hc with rfl | hc
      · exact .int _ _
      · exact h4 _ hy c hc
end Go.AL
