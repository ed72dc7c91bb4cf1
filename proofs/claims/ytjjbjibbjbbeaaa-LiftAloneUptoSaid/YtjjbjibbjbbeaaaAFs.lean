/- What is free in an expression, and what is made of it, as plain functions. -/
import Derived.Test.YtjjbjibbjbbeaaaAF4
set_option linter.unusedVariables false
set_option linter.unusedSimpArgs false
namespace Go.AL
/-! ### Bulk -/
mutual
def Cr.bulk : Cr → Nat
  | .mk k nm n ar ps gs al bs pk => 1 + nm.size + ps.length + Cr.bulkL gs + Cr.bulkA al + Cr.bulkB bs + Cr.bulkP pk
def Cr.bulkL : List Cr → Nat
  | [] => 0
  | x :: r => Cr.bulk x + Cr.bulkL r
def Cr.bulkA : List (AltH × Cr) → Nat
  | [] => 0
  | (h, x) :: r => h.ps.length + Cr.bulk x + Cr.bulkA r
def Cr.bulkB : List (ByteArray × Cr) → Nat
  | [] => 0
  | (s, x) :: r => 1 + Cr.bulk x + Cr.bulkB r
def Cr.bulkP : List (Int × Cr) → Nat
  | [] => 0
  | (s, x) :: r => Cr.bulk x + Cr.bulkP r
end
theorem Cr.bulk_pos (x : Cr) : 1 ≤ x.bulk := by cases x; rw [Cr.bulk]; omega
theorem Cr.bulkL_le {x : Cr} : ∀ {l : List Cr}, x ∈ l → x.bulk ≤ Cr.bulkL l
  | y :: r, h => by
    rw [Cr.bulkL]
    rcases List.mem_cons.1 h with rfl | h
    · omega
    · have := Cr.bulkL_le h; omega
theorem Cr.bulkA_le {x : AltH × Cr} : ∀ {l : List (AltH × Cr)}, x ∈ l → x.1.ps.length + x.2.bulk ≤ Cr.bulkA l
  | (g, y) :: r, h => by
    rw [Cr.bulkA]
    rcases List.mem_cons.1 h with rfl | h
    · simp only; omega
    · have := Cr.bulkA_le h; omega
theorem Cr.bulkB_le {x : ByteArray × Cr} : ∀ {l : List (ByteArray × Cr)}, x ∈ l → 1 + x.2.bulk ≤ Cr.bulkB l
  | (g, y) :: r, h => by
    rw [Cr.bulkB]
    rcases List.mem_cons.1 h with rfl | h
    · simp only; omega
    · have := Cr.bulkB_le h; omega
theorem Cr.bulkP_le {x : Int × Cr} : ∀ {l : List (Int × Cr)}, x ∈ l → x.2.bulk ≤ Cr.bulkP l
  | (g, y) :: r, h => by
    rw [Cr.bulkP]
    rcases List.mem_cons.1 h with rfl | h
    · simp only; omega
    · have := Cr.bulkP_le h; omega
theorem Cr.lenL : ∀ l : List Cr, l.length ≤ Cr.bulkL l
  | [] => by simp
  | x :: r => by rw [Cr.bulkL, List.length_cons]; have := Cr.lenL r; have := x.bulk_pos; omega
theorem Cr.lenA : ∀ l : List (AltH × Cr), l.length ≤ Cr.bulkA l
  | [] => by simp
  | (h, x) :: r => by rw [Cr.bulkA, List.length_cons]; have := Cr.lenA r; have := x.bulk_pos; omega
theorem Cr.lenB : ∀ l : List (ByteArray × Cr), l.length ≤ Cr.bulkB l
  | [] => by simp
  | (h, x) :: r => by rw [Cr.bulkB, List.length_cons]; have := Cr.lenB r; have := x.bulk_pos; omega
theorem Cr.lenP : ∀ l : List (Int × Cr), l.length ≤ Cr.bulkP l
  | [] => by simp
  | (h, x) :: r => by rw [Cr.bulkP, List.length_cons]; have := Cr.lenP r; have := x.bulk_pos; omega
theorem Cr.sm_of_bulk (x : Cr) (h : x.bulk ≤ 1048576) : x.Sm := by
  induction x using Cr.ind with
  | _ k nm n ar ps gs al bs pk h1 h2 h3 h4 =>
    rw [Cr.bulk] at h
    have := Cr.lenL gs; have := Cr.lenA al; have := Cr.lenB bs; have := Cr.lenP pk
    refine .mk (by omega) (by omega) (by omega) (by omega) (by omega) (fun x hx => h1 x hx ?_) (fun x hx => h2 x hx ?_) (fun x hx => ?_) (fun x hx => h3 x hx ?_) (fun x hx => h4 x hx ?_)
    · have := Cr.bulkL_le hx; omega
    · have := Cr.bulkA_le hx; omega
    · have := Cr.bulkA_le hx; omega
    · have := Cr.bulkB_le hx; omega
    · have := Cr.bulkP_le hx; omega

/-! ### Shapes: each function has one part -/
inductive Cr.Sh : Cr → Prop
  | mk {k : Int} {nm : ByteArray} {n ar : Int} {ps : List ByteArray} {gs : List Cr} {al : List (AltH × Cr)} {bs : List (ByteArray × Cr)} {pk : List (Int × Cr)} (h : k = 6 → gs.length = 1)
    (h1 : ∀ x, x ∈ gs → Cr.Sh x) (h2 : ∀ x, x ∈ al → Cr.Sh x.2) (h3 : ∀ x, x ∈ bs → Cr.Sh x.2) (h4 : ∀ x, x ∈ pk → Cr.Sh x.2) : Cr.Sh (.mk k nm n ar ps gs al bs pk)
/-! ### What is free -/
open Classical in
mutual
noncomputable def freeS (bound out : List ByteArray) : Cr → List ByteArray
  | .mk k nm n ar ps gs al bs pk =>
    freeP (bound ++ (if k = 7 then bs.map (·.1) else ps))
      (freeB (bound ++ (if k = 7 then bs.map (·.1) else ps))
        (freeA (bound ++ (if k = 7 then bs.map (·.1) else ps))
          (freeL (bound ++ (if k = 7 then bs.map (·.1) else ps)) (if k = 1 ∧ ¬ nm ∈ bound ∧ ¬ nm ∈ out then out ++ [nm] else out) gs) al) bs) pk
noncomputable def freeL (bound out : List ByteArray) : List Cr → List ByteArray
  | [] => out
  | x :: r => freeL bound (freeS bound out x) r
noncomputable def freeA (bound out : List ByteArray) : List (AltH × Cr) → List ByteArray
  | [] => out
  | (h, x) :: r => freeA bound (freeS (bound ++ h.ps) out x) r
noncomputable def freeB (bound out : List ByteArray) : List (ByteArray × Cr) → List ByteArray
  | [] => out
  | (s, x) :: r => freeB bound (freeS bound out x) r
noncomputable def freeP (bound out : List ByteArray) : List (Int × Cr) → List ByteArray
  | [] => out
  | (s, x) :: r => freeP bound (freeS bound out x) r
end
mutual
theorem freeS_len : ∀ (x : Cr) (b o : List ByteArray), (freeS b o x).length ≤ o.length + x.bulk
  | .mk k nm n ar ps gs al bs pk, b, o => by
    rw [freeS, Cr.bulk]
    refine Nat.le_trans (freeP_len pk _ _) ?_
    refine Nat.le_trans (Nat.add_le_add_right (freeB_len bs _ _) _) ?_
    refine Nat.le_trans (Nat.add_le_add_right (Nat.add_le_add_right (freeA_len al _ _) _) _) ?_
    refine Nat.le_trans (Nat.add_le_add_right (Nat.add_le_add_right (Nat.add_le_add_right (freeL_len gs _ _) _) _) _) ?_
    split <;> (try simp only [List.length_append, List.length_cons, List.length_nil]) <;> omega
theorem freeL_len : ∀ (l : List Cr) (b o : List ByteArray), (freeL b o l).length ≤ o.length + Cr.bulkL l
  | [], b, o => by rw [freeL, Cr.bulkL]; omega
  | x :: r, b, o => by
    rw [freeL, Cr.bulkL]
    have := freeL_len r b (freeS b o x)
    have := freeS_len x b o
    omega
theorem freeA_len : ∀ (l : List (AltH × Cr)) (b o : List ByteArray), (freeA b o l).length ≤ o.length + Cr.bulkA l
  | [], b, o => by rw [freeA, Cr.bulkA]; omega
  | (h, x) :: r, b, o => by
    rw [freeA, Cr.bulkA]
    have := freeA_len r b (freeS (b ++ h.ps) o x)
    have := freeS_len x (b ++ h.ps) o
    omega
theorem freeB_len : ∀ (l : List (ByteArray × Cr)) (b o : List ByteArray), (freeB b o l).length ≤ o.length + Cr.bulkB l
  | [], b, o => by rw [freeB, Cr.bulkB]; omega
  | (h, x) :: r, b, o => by
    rw [freeB, Cr.bulkB]
    have := freeB_len r b (freeS b o x)
    have := freeS_len x b o
    omega
theorem freeP_len : ∀ (l : List (Int × Cr)) (b o : List ByteArray), (freeP b o l).length ≤ o.length + Cr.bulkP l
  | [], b, o => by rw [freeP, Cr.bulkP]; omega
  | (h, x) :: r, b, o => by
    rw [freeP, Cr.bulkP]
    have := freeP_len r b (freeS b o x)
    have := freeS_len x b o
    omega
end
theorem freeL_app (b o : List ByteArray) (l m : List Cr) : freeL b o (l ++ m) = freeL b (freeL b o l) m := by
  induction l generalizing o with
  | nil => simp [freeL]
  | cons x r ih => simp [freeL, ih]
theorem freeA_app (b o : List ByteArray) (l m : List (AltH × Cr)) : freeA b o (l ++ m) = freeA b (freeA b o l) m := by
  induction l generalizing o with
  | nil => simp [freeA]
  | cons x r ih => obtain ⟨h, x⟩ := x; simp [freeA, ih]
theorem freeB_app (b o : List ByteArray) (l m : List (ByteArray × Cr)) : freeB b o (l ++ m) = freeB b (freeB b o l) m := by
  induction l generalizing o with
  | nil => simp [freeB]
  | cons x r ih => obtain ⟨h, x⟩ := x; simp [freeB, ih]
theorem freeP_app (b o : List ByteArray) (l m : List (Int × Cr)) : freeP b o (l ++ m) = freeP b (freeP b o l) m := by
  induction l generalizing o with
  | nil => simp [freeP]
  | cons x r ih => obtain ⟨h, x⟩ := x; simp [freeP, ih]

/-! ### What is made -/
/-- A supercombinator. -/
structure Sup where
  nm : ByteArray
  ps : List ByteArray
  bd : Cr
def Cr.zero : Cr := .mk 0 ⟨#[]⟩ 0 0 [] [] [] [] []
def Cr.glob (s : ByteArray) : Cr := .mk 2 s 0 0 [] [] [] [] []
def Cr.var (s : ByteArray) : Cr := .mk 1 s 0 0 [] [] [] [] []
def Cr.app (f a : Cr) : Cr := .mk 5 ⟨#[]⟩ 0 0 [] [f, a] [] [] []
def Cr.apps (f : Cr) (l : List ByteArray) : Cr := l.foldl (fun f s => f.app (.var s)) f
def supName (df : ByteArray) (T : Int → ByteArray) (n : Nat) : ByteArray := df ++ ⟨#[35]⟩ ++ T ((n + 1 : Nat) : Int)
mutual
noncomputable def liftS (df : ByteArray) (T : Int → ByteArray) (now : Bool) (n : Nat) : Cr → Cr × List Sup
  | .mk k nm m ar ps gs al bs pk =>
    if k = 6 then
      (Cr.apps (.glob (supName df T n)) (freeS [] [] (.mk k nm m ar ps gs al bs pk)),
       ⟨supName df T n, freeS [] [] (.mk k nm m ar ps gs al bs pk) ++ ps, (liftL df T true (n + 1) gs).1.headD .zero⟩ :: (liftL df T true (n + 1) gs).2)
    else if now = false ∧ (k = 8 ∨ k = 11 ∨ k = 10) then
      (Cr.apps (.glob (supName df T n)) (freeS [] [] (.mk k nm m ar ps gs al bs pk)),
       ⟨supName df T n, freeS [] [] (.mk k nm m ar ps gs al bs pk),
         .mk k nm m ar ps (liftL df T true (n + 1) gs).1 (liftA df T true (n + 1 + (liftL df T true (n + 1) gs).2.length) al).1
           (liftB df T false (n + 1 + (liftL df T true (n + 1) gs).2.length + (liftA df T true (n + 1 + (liftL df T true (n + 1) gs).2.length) al).2.length) bs).1
           (liftP df T true (n + 1 + (liftL df T true (n + 1) gs).2.length + (liftA df T true (n + 1 + (liftL df T true (n + 1) gs).2.length) al).2.length + (liftB df T false (n + 1 + (liftL df T true (n + 1) gs).2.length + (liftA df T true (n + 1 + (liftL df T true (n + 1) gs).2.length) al).2.length) bs).2.length) pk).1⟩
        :: ((liftL df T true (n + 1) gs).2 ++ (liftA df T true (n + 1 + (liftL df T true (n + 1) gs).2.length) al).2
           ++ (liftB df T false (n + 1 + (liftL df T true (n + 1) gs).2.length + (liftA df T true (n + 1 + (liftL df T true (n + 1) gs).2.length) al).2.length) bs).2
           ++ (liftP df T true (n + 1 + (liftL df T true (n + 1) gs).2.length + (liftA df T true (n + 1 + (liftL df T true (n + 1) gs).2.length) al).2.length + (liftB df T false (n + 1 + (liftL df T true (n + 1) gs).2.length + (liftA df T true (n + 1 + (liftL df T true (n + 1) gs).2.length) al).2.length) bs).2.length) pk).2))
    else
      (.mk k nm m ar ps (liftL df T (now && k != 5) n gs).1 (liftA df T now (n + (liftL df T (now && k != 5) n gs).2.length) al).1
           (liftB df T false (n + (liftL df T (now && k != 5) n gs).2.length + (liftA df T now (n + (liftL df T (now && k != 5) n gs).2.length) al).2.length) bs).1
           (liftP df T now (n + (liftL df T (now && k != 5) n gs).2.length + (liftA df T now (n + (liftL df T (now && k != 5) n gs).2.length) al).2.length + (liftB df T false (n + (liftL df T (now && k != 5) n gs).2.length + (liftA df T now (n + (liftL df T (now && k != 5) n gs).2.length) al).2.length) bs).2.length) pk).1,
        ((liftL df T (now && k != 5) n gs).2 ++ (liftA df T now (n + (liftL df T (now && k != 5) n gs).2.length) al).2
           ++ (liftB df T false (n + (liftL df T (now && k != 5) n gs).2.length + (liftA df T now (n + (liftL df T (now && k != 5) n gs).2.length) al).2.length) bs).2
           ++ (liftP df T now (n + (liftL df T (now && k != 5) n gs).2.length + (liftA df T now (n + (liftL df T (now && k != 5) n gs).2.length) al).2.length + (liftB df T false (n + (liftL df T (now && k != 5) n gs).2.length + (liftA df T now (n + (liftL df T (now && k != 5) n gs).2.length) al).2.length) bs).2.length) pk).2))
noncomputable def liftL (df : ByteArray) (T : Int → ByteArray) (now : Bool) (n : Nat) : List Cr → List Cr × List Sup
  | [] => ([], [])
  | x :: r => ((liftS df T now n x).1 :: (liftL df T now (n + (liftS df T now n x).2.length) r).1, (liftS df T now n x).2 ++ (liftL df T now (n + (liftS df T now n x).2.length) r).2)
noncomputable def liftA (df : ByteArray) (T : Int → ByteArray) (now : Bool) (n : Nat) : List (AltH × Cr) → List (AltH × Cr) × List Sup
  | [] => ([], [])
  | (h, x) :: r => ((h, (liftS df T now n x).1) :: (liftA df T now (n + (liftS df T now n x).2.length) r).1, (liftS df T now n x).2 ++ (liftA df T now (n + (liftS df T now n x).2.length) r).2)
noncomputable def liftB (df : ByteArray) (T : Int → ByteArray) (now : Bool) (n : Nat) : List (ByteArray × Cr) → List (ByteArray × Cr) × List Sup
  | [] => ([], [])
  | (h, x) :: r => ((h, (liftS df T now n x).1) :: (liftB df T now (n + (liftS df T now n x).2.length) r).1, (liftS df T now n x).2 ++ (liftB df T now (n + (liftS df T now n x).2.length) r).2)
noncomputable def liftP (df : ByteArray) (T : Int → ByteArray) (now : Bool) (n : Nat) : List (Int × Cr) → List (Int × Cr) × List Sup
  | [] => ([], [])
  | (h, x) :: r => ((h, (liftS df T now n x).1) :: (liftP df T now (n + (liftS df T now n x).2.length) r).1, (liftS df T now n x).2 ++ (liftP df T now (n + (liftS df T now n x).2.length) r).2)
end
/-- The parts of an expression, made. -/
noncomputable def mapS (df : ByteArray) (T : Int → ByteArray) (now : Bool) (n : Nat) : Cr → Cr × List Sup
  | .mk k nm m ar ps gs al bs pk =>
    let a := liftL df T (now && k != 5) n gs
    let b := liftA df T now (n + a.2.length) al
    let c := liftB df T false (n + a.2.length + b.2.length) bs
    let d := liftP df T now (n + a.2.length + b.2.length + c.2.length) pk
    (.mk k nm m ar ps a.1 b.1 c.1 d.1, a.2 ++ b.2 ++ c.2 ++ d.2)
theorem liftS_lam (df : ByteArray) (T : Int → ByteArray) (now : Bool) (n : Nat) (nm : ByteArray) (m ar : Int) (ps : List ByteArray) (b : Cr) (al : List (AltH × Cr)) (bs : List (ByteArray × Cr)) (pk : List (Int × Cr)) :
    liftS df T now n (.mk 6 nm m ar ps [b] al bs pk) = (Cr.apps (.glob (supName df T n)) (freeS [] [] (.mk 6 nm m ar ps [b] al bs pk)),
      ⟨supName df T n, freeS [] [] (.mk 6 nm m ar ps [b] al bs pk) ++ ps, (liftS df T true (n + 1) b).1⟩ :: (liftS df T true (n + 1) b).2) := by
  rw [liftS, if_pos rfl, liftL, liftL]; simp
theorem liftS_late (df : ByteArray) (T : Int → ByteArray) (n : Nat) (k : Int) (nm : ByteArray) (m ar : Int) (ps : List ByteArray) (gs : List Cr) (al : List (AltH × Cr)) (bs : List (ByteArray × Cr)) (pk : List (Int × Cr)) (hk : k = 8 ∨ k = 11 ∨ k = 10) :
    liftS df T false n (.mk k nm m ar ps gs al bs pk) = (Cr.apps (.glob (supName df T n)) (freeS [] [] (.mk k nm m ar ps gs al bs pk)),
      ⟨supName df T n, freeS [] [] (.mk k nm m ar ps gs al bs pk), (mapS df T true (n + 1) (.mk k nm m ar ps gs al bs pk)).1⟩ :: (mapS df T true (n + 1) (.mk k nm m ar ps gs al bs pk)).2) := by
  have h5 : (k != 5) = true := by rcases hk with rfl | rfl | rfl <;> rfl
  rw [liftS, if_neg (by rcases hk with rfl | rfl | rfl <;> decide), if_pos ⟨rfl, hk⟩]
  simp [mapS, h5]
theorem liftS_map (df : ByteArray) (T : Int → ByteArray) (now : Bool) (n : Nat) (k : Int) (nm : ByteArray) (m ar : Int) (ps : List ByteArray) (gs : List Cr) (al : List (AltH × Cr)) (bs : List (ByteArray × Cr)) (pk : List (Int × Cr)) (h6 : k ≠ 6) (hk : ¬ (now = false ∧ (k = 8 ∨ k = 11 ∨ k = 10))) :
    liftS df T now n (.mk k nm m ar ps gs al bs pk) = mapS df T now n (.mk k nm m ar ps gs al bs pk) := by
  rw [liftS, if_neg h6, if_neg hk]; simp [mapS]
theorem liftL_one (df : ByteArray) (T : Int → ByteArray) (now : Bool) (n : Nat) (x : Cr) : liftL df T now n [x] = ([(liftS df T now n x).1], (liftS df T now n x).2) := by
  rw [liftL, liftL]; simp
theorem liftL_app (df : ByteArray) (T : Int → ByteArray) (now : Bool) (n : Nat) (l m : List (Cr)) :
    liftL df T now n (l ++ m) = ((liftL df T now n l).1 ++ (liftL df T now (n + (liftL df T now n l).2.length) m).1, (liftL df T now n l).2 ++ (liftL df T now (n + (liftL df T now n l).2.length) m).2) := by
  induction l generalizing n with
  | nil => simp [liftL]
  | cons y r ih => simp [liftL, ih, Nat.add_assoc]
theorem liftL_l (df : ByteArray) (T : Int → ByteArray) (now : Bool) (n : Nat) (l : List (Cr)) : (liftL df T now n l).1.length = l.length := by
  induction l generalizing n with
  | nil => simp [liftL]
  | cons y r ih => simp [liftL, ih]
theorem liftA_one (df : ByteArray) (T : Int → ByteArray) (now : Bool) (n : Nat) (h : AltH) (x : Cr) : liftA df T now n [(h, x)] = ([(h, (liftS df T now n x).1)], (liftS df T now n x).2) := by
  rw [liftA, liftA]; simp
theorem liftA_app (df : ByteArray) (T : Int → ByteArray) (now : Bool) (n : Nat) (l m : List (AltH × Cr)) :
    liftA df T now n (l ++ m) = ((liftA df T now n l).1 ++ (liftA df T now (n + (liftA df T now n l).2.length) m).1, (liftA df T now n l).2 ++ (liftA df T now (n + (liftA df T now n l).2.length) m).2) := by
  induction l generalizing n with
  | nil => simp [liftA]
  | cons y r ih => obtain ⟨h, y⟩ := y; simp [liftA, ih, Nat.add_assoc]
theorem liftA_l (df : ByteArray) (T : Int → ByteArray) (now : Bool) (n : Nat) (l : List (AltH × Cr)) : (liftA df T now n l).1.length = l.length := by
  induction l generalizing n with
  | nil => simp [liftA]
  | cons y r ih => obtain ⟨h, y⟩ := y; simp [liftA, ih]
theorem liftB_one (df : ByteArray) (T : Int → ByteArray) (now : Bool) (n : Nat) (h : ByteArray) (x : Cr) : liftB df T now n [(h, x)] = ([(h, (liftS df T now n x).1)], (liftS df T now n x).2) := by
  rw [liftB, liftB]; simp
theorem liftB_app (df : ByteArray) (T : Int → ByteArray) (now : Bool) (n : Nat) (l m : List (ByteArray × Cr)) :
    liftB df T now n (l ++ m) = ((liftB df T now n l).1 ++ (liftB df T now (n + (liftB df T now n l).2.length) m).1, (liftB df T now n l).2 ++ (liftB df T now (n + (liftB df T now n l).2.length) m).2) := by
  induction l generalizing n with
  | nil => simp [liftB]
  | cons y r ih => obtain ⟨h, y⟩ := y; simp [liftB, ih, Nat.add_assoc]
theorem liftB_l (df : ByteArray) (T : Int → ByteArray) (now : Bool) (n : Nat) (l : List (ByteArray × Cr)) : (liftB df T now n l).1.length = l.length := by
  induction l generalizing n with
  | nil => simp [liftB]
  | cons y r ih => obtain ⟨h, y⟩ := y; simp [liftB, ih]
theorem liftP_one (df : ByteArray) (T : Int → ByteArray) (now : Bool) (n : Nat) (h : Int) (x : Cr) : liftP df T now n [(h, x)] = ([(h, (liftS df T now n x).1)], (liftS df T now n x).2) := by
  rw [liftP, liftP]; simp
theorem liftP_app (df : ByteArray) (T : Int → ByteArray) (now : Bool) (n : Nat) (l m : List (Int × Cr)) :
    liftP df T now n (l ++ m) = ((liftP df T now n l).1 ++ (liftP df T now (n + (liftP df T now n l).2.length) m).1, (liftP df T now n l).2 ++ (liftP df T now (n + (liftP df T now n l).2.length) m).2) := by
  induction l generalizing n with
  | nil => simp [liftP]
  | cons y r ih => obtain ⟨h, y⟩ := y; simp [liftP, ih, Nat.add_assoc]
theorem liftP_l (df : ByteArray) (T : Int → ByteArray) (now : Bool) (n : Nat) (l : List (Int × Cr)) : (liftP df T now n l).1.length = l.length := by
  induction l generalizing n with
  | nil => simp [liftP]
  | cons y r ih => obtain ⟨h, y⟩ := y; simp [liftP, ih]
mutual
theorem liftS_len (df : ByteArray) (T : Int → ByteArray) : ∀ (x : Cr) (now : Bool) (n : Nat), (liftS df T now n x).2.length ≤ x.bulk
  | .mk k nm m ar ps gs al bs pk, now, n => by
    rw [liftS, Cr.bulk]
    split
    · have := liftL_len df T gs true (n + 1)
      simp only [List.length_cons]; omega
    · split
      · simp only [List.length_cons, List.length_append]
        have h1 := liftL_len df T gs true (n + 1)
        have h2 := fun i => liftA_len df T al true i
        have h3 := fun i => liftB_len df T bs false i
        have h4 := fun i => liftP_len df T pk true i
        have := h2 (n + 1 + (liftL df T true (n + 1) gs).2.length)
        have := h3 (n + 1 + (liftL df T true (n + 1) gs).2.length + (liftA df T true (n + 1 + (liftL df T true (n + 1) gs).2.length) al).2.length)
        have := h4 (n + 1 + (liftL df T true (n + 1) gs).2.length + (liftA df T true (n + 1 + (liftL df T true (n + 1) gs).2.length) al).2.length + (liftB df T false (n + 1 + (liftL df T true (n + 1) gs).2.length + (liftA df T true (n + 1 + (liftL df T true (n + 1) gs).2.length) al).2.length) bs).2.length)
        omega
      · simp only [List.length_append]
        have h1 := liftL_len df T gs (now && k != 5) n
        have h2 := fun i => liftA_len df T al now i
        have h3 := fun i => liftB_len df T bs false i
        have h4 := fun i => liftP_len df T pk now i
        have := h2 (n + (liftL df T (now && k != 5) n gs).2.length)
        have := h3 (n + (liftL df T (now && k != 5) n gs).2.length + (liftA df T now (n + (liftL df T (now && k != 5) n gs).2.length) al).2.length)
        have := h4 (n + (liftL df T (now && k != 5) n gs).2.length + (liftA df T now (n + (liftL df T (now && k != 5) n gs).2.length) al).2.length + (liftB df T false (n + (liftL df T (now && k != 5) n gs).2.length + (liftA df T now (n + (liftL df T (now && k != 5) n gs).2.length) al).2.length) bs).2.length)
        omega
theorem liftL_len (df : ByteArray) (T : Int → ByteArray) : ∀ (l : List (Cr)) (now : Bool) (n : Nat), (liftL df T now n l).2.length ≤ Cr.bulkL l
  | [], now, n => by rw [liftL, Cr.bulkL]; simp
  | x :: r, now, n => by
    rw [liftL, Cr.bulkL]
    have := liftS_len df T x now n
    have := liftL_len df T r now (n + (liftS df T now n x).2.length)
    simp only [List.length_append]; omega
theorem liftA_len (df : ByteArray) (T : Int → ByteArray) : ∀ (l : List (AltH × Cr)) (now : Bool) (n : Nat), (liftA df T now n l).2.length ≤ Cr.bulkA l
  | [], now, n => by rw [liftA, Cr.bulkA]; simp
  | (h, x) :: r, now, n => by
    rw [liftA, Cr.bulkA]
    have := liftS_len df T x now n
    have := liftA_len df T r now (n + (liftS df T now n x).2.length)
    simp only [List.length_append]; omega
theorem liftB_len (df : ByteArray) (T : Int → ByteArray) : ∀ (l : List (ByteArray × Cr)) (now : Bool) (n : Nat), (liftB df T now n l).2.length ≤ Cr.bulkB l
  | [], now, n => by rw [liftB, Cr.bulkB]; simp
  | (h, x) :: r, now, n => by
    rw [liftB, Cr.bulkB]
    have := liftS_len df T x now n
    have := liftB_len df T r now (n + (liftS df T now n x).2.length)
    simp only [List.length_append]; omega
theorem liftP_len (df : ByteArray) (T : Int → ByteArray) : ∀ (l : List (Int × Cr)) (now : Bool) (n : Nat), (liftP df T now n l).2.length ≤ Cr.bulkP l
  | [], now, n => by rw [liftP, Cr.bulkP]; simp
  | (h, x) :: r, now, n => by
    rw [liftP, Cr.bulkP]
    have := liftS_len df T x now n
    have := liftP_len df T r now (n + (liftS df T now n x).2.length)
    simp only [List.length_append]; omega
end
theorem mapS_len (df : ByteArray) (T : Int → ByteArray) (x : Cr) (now : Bool) (n : Nat) : (mapS df T now n x).2.length + 1 ≤ x.bulk := by
  obtain ⟨k, nm, m, ar, ps, gs, al, bs, pk⟩ := x
  have h1 := liftL_len df T gs (now && k != 5) n
  have h2 := fun i => liftA_len df T al now i
  have h3 := fun i => liftB_len df T bs false i
  have h4 := fun i => liftP_len df T pk now i
  have := h2 (n + (liftL df T (now && k != 5) n gs).2.length)
  have := h3 (n + (liftL df T (now && k != 5) n gs).2.length + (liftA df T now (n + (liftL df T (now && k != 5) n gs).2.length) al).2.length)
  have := h4 (n + (liftL df T (now && k != 5) n gs).2.length + (liftA df T now (n + (liftL df T (now && k != 5) n gs).2.length) al).2.length + (liftB df T false (n + (liftL df T (now && k != 5) n gs).2.length + (liftA df T now (n + (liftL df T (now && k != 5) n gs).2.length) al).2.length) bs).2.length)
  rw [Cr.bulk]
  simp only [mapS, List.length_append]
  omega
end Go.AL
