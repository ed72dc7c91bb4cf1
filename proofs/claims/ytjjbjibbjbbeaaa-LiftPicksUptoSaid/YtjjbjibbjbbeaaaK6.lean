/- A part of the proof of the claim: the abstract layer, the contracts of the functions, the law (no condition of its own). -/
import Derived.Test.YtjjbjibbjbbeaaaK5
import Derived.Test.YtjjbjibbjbbeaaaProg
import Derived.KernelRfl
open Nat renaming reduceEqDiff → Za, reduceAdd → Zb, reduceLeDiff → Zc
open Int renaming reduceEq → Zd, reduceLT → Ze, reduceLE → Zf, reduceNeg → Zg, reduceAdd → Zh, reduceSub → Zi, reduceToNat → Zj
/- What is lifted means the same, as plain law. -/
set_option linter.unusedVariables false
set_option linter.unusedSimpArgs false
namespace Go.AL
def inn (k : Int) (ps : List ByteArray) (bs : List (ByteArray × Cr)) : List ByteArray := if k = 7 then bs.map (·.1) else ps
/-- A name is free in an expression. -/
inductive Fv (x : ByteArray) : Cr → Prop
 | var {m ar : Int} {ps : List ByteArray} {gs : List Cr} {al : List (AltH × Cr)} {bs : List (ByteArray × Cr)} {pk : List (Int × Cr)} : Fv x (.mk 1 x m ar ps gs al bs pk)
 | g {k : Int} {nm : ByteArray} {m ar : Int} {ps : List ByteArray} {gs : List Cr} {al : List (AltH × Cr)} {bs : List (ByteArray × Cr)} {pk : List (Int × Cr)} {y : Cr} (hy : y ∈ gs) (h : Fv x y) (hx : x ∉ inn k ps bs) : Fv x (.mk k nm m ar ps gs al bs pk)
 | a {k : Int} {nm : ByteArray} {m ar : Int} {ps : List ByteArray} {gs : List Cr} {al : List (AltH × Cr)} {bs : List (ByteArray × Cr)} {pk : List (Int × Cr)} {y : AltH × Cr} (hy : y ∈ al) (h : Fv x y.2) (hx : x ∉ inn k ps bs) (hp : x ∉ y.1.ps) : Fv x (.mk k nm m ar ps gs al bs pk)
 | b {k : Int} {nm : ByteArray} {m ar : Int} {ps : List ByteArray} {gs : List Cr} {al : List (AltH × Cr)} {bs : List (ByteArray × Cr)} {pk : List (Int × Cr)} {y : ByteArray × Cr} (hy : y ∈ bs) (h : Fv x y.2) (hx : x ∉ inn k ps bs) : Fv x (.mk k nm m ar ps gs al bs pk)
 | p {k : Int} {nm : ByteArray} {m ar : Int} {ps : List ByteArray} {gs : List Cr} {al : List (AltH × Cr)} {bs : List (ByteArray × Cr)} {pk : List (Int × Cr)} {y : Int × Cr} (hy : y ∈ pk) (h : Fv x y.2) (hx : x ∉ inn k ps bs) : Fv x (.mk k nm m ar ps gs al bs pk)
def lamOf (ps : List ByteArray) (b : Cr) : Cr := if ps = [] then b else .mk 6 ⟨#[]⟩ 0 0 ps [b] [] [] []
/-- What each node must be. -/
def Nd : Cr → Prop
 | .mk k nm m ar ps gs al bs pk => Ar (.mk k nm m ar ps gs al bs pk) ∧ (k ≠ 6 → ps = []) ∧ (k = 6 → ps ≠ []) ∧ ∀ a, a ∈ al → a.1.k ≠ 1 → a.1.ps = []
section
variable (D' : Defs) (ok2 : ByteArray → Prop)
mutual
/-- One expression is another one, lifted. -/
inductive Lf : Cr → Cr → Prop
 | cong {k : Int} {nm : ByteArray} {m ar : Int} {ps : List ByteArray} {gs gs' : List Cr} {al al' : List (AltH × Cr)} {bs bs' : List (ByteArray × Cr)} {pk pk' : List (Int × Cr)} (h6 : k ≠ 6) (h2 : k = 2 → ok2 nm) (hn : Nd (.mk k nm m ar ps gs al bs pk))
  (hg : LfL gs gs') (ha : LfA al al') (hb : LfB bs bs') (hp : LfP pk pk') : Lf (.mk k nm m ar ps gs al bs pk) (.mk k nm m ar ps gs' al' bs' pk')
 | lam {nm : ByteArray} {m ar : Int} {ps : List ByteArray} {b b' : Cr} {al : List (AltH × Cr)} {bs : List (ByteArray × Cr)} {pk : List (Int × Cr)} {g : ByteArray} {fr : List ByteArray} (hps : ps ≠ []) (hD : D' g = some (lamOf (fr ++ ps) b'))
  (hfr : ∀ x, Fv x b → x ∉ ps → x ∈ fr) (hb : Lf b b') : Lf (.mk 6 nm m ar ps [b] al bs pk) (Cr.apps (.glob g) fr)
 | late {c c' : Cr} {g : ByteArray} {fr : List ByteArray} (hD : D' g = some (lamOf fr c')) (hfr : ∀ x, Fv x c → x ∈ fr) (hc : Lf c c') : Lf c (Cr.apps (.glob g) fr)
inductive LfL : List Cr → List Cr → Prop
 | nil : LfL [] []
 | cons {x y : Cr} {l l' : List Cr} (h : Lf x y) (t : LfL l l') : LfL (x :: l) (y :: l')
inductive LfA : List (AltH × Cr) → List (AltH × Cr) → Prop
 | nil : LfA [] []
 | cons {a : AltH} {x y : Cr} {l l' : List (AltH × Cr)} (h : Lf x y) (t : LfA l l') : LfA ((a, x) :: l) ((a, y) :: l')
inductive LfB : List (ByteArray × Cr) → List (ByteArray × Cr) → Prop
 | nil : LfB [] []
 | cons {a : ByteArray} {x y : Cr} {l l' : List (ByteArray × Cr)} (h : Lf x y) (t : LfB l l') : LfB ((a, x) :: l) ((a, y) :: l')
inductive LfP : List (Int × Cr) → List (Int × Cr) → Prop
 | nil : LfP [] []
 | cons {a : Int} {x y : Cr} {l l' : List (Int × Cr)} (h : Lf x y) (t : LfP l l') : LfP ((a, x) :: l) ((a, y) :: l')
end
def EnvR (R : Thk → Thk → Prop) (c : Cr) (e e' : Env) : Prop := ∀ x, Fv x c → ∀ s, e.look x = some s → ∃ t, e'.look x = some t ∧ R s t
def Stp (R : Thk → Thk → Prop) (s t : Thk) : Prop := (Lf D' ok2 s.1 t.1 ∧ EnvR R s.1 s.2 t.2) ∨ ∃ x t', t.1 = Cr.var x ∧ t.2.look x = some t' ∧ R s t'
/-- Two parts that are yet to be found mean the same. -/
def TR (s t : Thk) : Prop := ∃ R : Thk → Thk → Prop, (∀ s t, R s t → Stp D' ok2 R s t) ∧ R s t
end
section
variable {D' : Defs} {ok2 : ByteArray → Prop}
theorem EnvR.mono {R R' : Thk → Thk → Prop} (h : ∀ s t, R s t → R' s t) {c : Cr} {e e' : Env} (k : EnvR R c e e') : EnvR R' c e e' := fun x hx s hs => by
 obtain ⟨t, ht, hr⟩ := k x hx s hs
 exact ⟨t, ht, h _ _ hr⟩
theorem Stp.mono {R R' : Thk → Thk → Prop} (h : ∀ s t, R s t → R' s t) {s t : Thk} (k : Stp D' ok2 R s t) : Stp D' ok2 R' s t := by
 rcases k with ⟨h1, h2⟩ | ⟨x, t', h1, h2, h3⟩
 · exact .inl ⟨h1, h2.mono h⟩
 · exact .inr ⟨x, t', h1, h2, h _ _ h3⟩
theorem TR.unf {s t : Thk} (h : TR D' ok2 s t) : Stp D' ok2 (TR D' ok2) s t := by
 obtain ⟨R, h1, h2⟩ := h
 exact (h1 _ _ h2).mono fun s t h => ⟨R, h1, h⟩
theorem TR.fold {s t : Thk} (h : Stp D' ok2 (TR D' ok2) s t) : TR D' ok2 s t :=
 ⟨fun s t => TR D' ok2 s t ∨ Stp D' ok2 (TR D' ok2) s t, fun s t h => (h.elim (fun h => h.unf) id).mono fun _ _ => .inl, .inr h⟩
theorem TR.fwd {s t' : Thk} {x : ByteArray} {e : Env} (h : e.look x = some t') (k : TR D' ok2 s t') : TR D' ok2 s (Cr.var x, e) := .fold (.inr ⟨x, t', rfl, h, k⟩)
theorem LfB.last {bs bs' : List (ByteArray × Cr)} (h : LfB D' ok2 bs bs') (x : ByteArray) : (lastB x bs = none ∧ lastB x bs' = none) ∨ ∃ b b', lastB x bs = some b ∧ lastB x bs' = some b' ∧ Lf D' ok2 b b' ∧ (∃ nm, (nm, b) ∈ bs) := by
 induction bs generalizing bs' with
 | nil => cases h; exact .inl ⟨rfl, rfl⟩
 | cons b r ih =>
  cases h with
  | cons h t =>
   rename_i a x1 y1 l
   rcases ih t with ⟨h1, h2⟩ | ⟨b1, b2, h1, h2, h3, h4⟩
   · by_cases e : a = x
     · exact .inr ⟨x1, y1, by simp [lastB, h1, e], by simp [lastB, h2, e], h, a, by simp⟩
     · exact .inl ⟨by simp [lastB, h1, e], by simp [lastB, h2, e]⟩
   · obtain ⟨q, hq⟩ := h4
     exact .inr ⟨b1, b2, by simp [lastB, h1], by simp [lastB, h2], h3, q, by simp [hq]⟩
theorem lastB_none {x : ByteArray} : ∀ {bs : List (ByteArray × Cr)}, lastB x bs = none → x ∉ bs.map (·.1)
 | [], _ => by simp
 | b :: r, h => by
  rw [lastB] at h
  cases hl : lastB x r with
  | some c => rw [hl] at h; cases h
  | none =>
   rw [hl] at h
   have := lastB_none hl
   by_cases e : b.1 = x
   · simp [e] at h
   · simp only [List.map_cons, List.mem_cons, not_or]
     exact ⟨fun he => e he.symm, this⟩
/-- Bindings that see one another. -/
theorem TR.lets {bs bs' : List (ByteArray × Cr)} {e e' : Env} (hb : LfB D' ok2 bs bs') (he : ∀ y, y ∈ bs → ∀ x, Fv x y.2 → x ∉ bs.map (·.1) → ∀ s, e.look x = some s → ∃ t, e'.look x = some t ∧ TR D' ok2 s t)
 {x : ByteArray} {b b' : Cr} (h : lastB x bs = some b) (h' : lastB x bs' = some b') : TR D' ok2 (b, .lets e bs) (b', .lets e' bs') := by
 refine ⟨fun s t => TR D' ok2 s t ∨ ∃ x b b', lastB x bs = some b ∧ lastB x bs' = some b' ∧ s = (b, .lets e bs) ∧ t = (b', .lets e' bs'), ?_, .inr ⟨x, b, b', h, h', rfl, rfl⟩⟩
 rintro s t (h | ⟨x, b, b', h, h', rfl, rfl⟩)
 · exact h.unf.mono fun _ _ => .inl
 · rcases hb.last x with ⟨h1, _⟩ | ⟨b1, b2, h1, h2, h3, nm, h4⟩
   · rw [h1] at h; cases h
   · rw [h1] at h; cases h
     rw [h2] at h'; cases h'
     refine .inl ⟨h3, fun y hy s hs => ?_⟩
     simp only [Env.look] at hs ⊢
     rcases hb.last y with ⟨q1, q2⟩ | ⟨c1, c2, q1, q2, q3, q4⟩
     · rw [q1] at hs; rw [q2]
       obtain ⟨t, ht, hr⟩ := he _ h4 y hy (lastB_none q1) s hs
       exact ⟨t, ht, .inl hr⟩
     · rw [q1] at hs; rw [q2]
       cases hs
       exact ⟨_, rfl, .inr ⟨y, c1, c2, q1, q2, rfl, rfl⟩⟩
end
/-! ### Names that are bound to parts -/
def fl (x : ByteArray) : List ByteArray → List Thk → Option Thk
 | p :: ps, t :: ts => match fl x ps ts with
  | some r => some r
  | none => if p = x then some t else none
 | _, _ => none
theorem look_ext (x : ByteArray) : ∀ (ps : List ByteArray) (ts : List Thk) (e : Env), (e.ext ps ts).look x = match fl x ps ts with | some r => some r | none => e.look x
 | [], _, e => by simp [Env.ext, fl]
 | _ :: _, [], e => by simp [Env.ext, fl]
 | p :: ps, t :: ts, e => by
  rw [Env.ext, look_ext x ps ts, fl]
  cases fl x ps ts with
  | some r => rfl
  | none =>
   simp only [Env.look]
   split <;> simp_all
theorem ext_app : ∀ (fr ps : List ByteArray) (ft ts : List Thk) (e : Env), fr.length = ft.length → e.ext (fr ++ ps) (ft ++ ts) = (e.ext fr ft).ext ps ts
 | [], ps, [], ts, e, _ => rfl
 | [], ps, _ :: _, ts, e, h => by simp at h
 | _ :: _, ps, [], ts, e, h => by simp at h
 | p :: fr, ps, t :: ft, ts, e, h => by
  simp only [List.cons_append, Env.ext]
  exact ext_app fr ps ft ts _ (by simpa using h)
theorem fl_map (g : ByteArray → Thk) (x : ByteArray) : ∀ (fr : List ByteArray), x ∈ fr → fl x fr (fr.map g) = some (g x)
 | p :: fr, h => by
  simp only [List.map_cons, fl]
  by_cases hm : x ∈ fr
  · rw [fl_map g x fr hm]
  · have he : p = x := by
     rcases List.mem_cons.1 h with h | h
     · exact h.symm
     · exact absurd h hm
    subst he
    cases hf : fl p fr (fr.map g) with
    | none => simp
    | some r =>
     exfalso
     have : ∀ (l : List ByteArray) (ts : List Thk), p ∉ l → fl p l ts = none := by
      intro l
      induction l with
      | nil => intro ts _; simp [fl]
      | cons q l ih =>
       intro ts hq
       cases ts with
       | nil => simp [fl]
       | cons t ts =>
        simp only [List.mem_cons, not_or] at hq
        rw [fl, ih ts hq.2]
        simp [show ¬ q = p from fun e => hq.1 e.symm]
     rw [this _ _ hm] at hf; cases hf
inductive F2 {α β : Type} (R : α → β → Prop) : List α → List β → Prop
 | nil : F2 R [] []
 | cons {x : α} {y : β} {l : List α} {l' : List β} (h : R x y) (t : F2 R l l') : F2 R (x :: l) (y :: l')
theorem F2.len {α β : Type} {R : α → β → Prop} {l : List α} {l' : List β} (h : F2 R l l') : l.length = l'.length := by
 induction h with
 | nil => rfl
 | cons _ _ ih => simp [ih]
theorem F2.snoc {α β : Type} {R : α → β → Prop} {l : List α} {l' : List β} (h : F2 R l l') {x : α} {y : β} (k : R x y) : F2 R (l ++ [x]) (l' ++ [y]) := by
 induction h with
 | nil => exact .cons k .nil
 | cons h _ ih => exact .cons h ih
theorem fl_F2 {R : Thk → Thk → Prop} {x : ByteArray} : ∀ {ps : List ByteArray} {ts ts' : List Thk}, F2 R ts ts' → (fl x ps ts = none ∧ fl x ps ts' = none) ∨ ∃ s t, fl x ps ts = some s ∧ fl x ps ts' = some t ∧ R s t
 | [], ts, ts', h => .inl ⟨by simp [fl], by simp [fl]⟩
 | p :: ps, [], ts', h => by cases h; exact .inl ⟨by simp [fl], by simp [fl]⟩
 | p :: ps, t :: ts, ts', h => by
  cases h with
  | cons h k =>
   rcases fl_F2 (ps := ps) (x := x) k with ⟨h1, h2⟩ | ⟨s, t, h1, h2, h3⟩
   · by_cases e : p = x
     · exact .inr ⟨_, _, by simp [fl, h1, e], by simp [fl, h2, e], h⟩
     · exact .inl ⟨by simp [fl, h1, e], by simp [fl, h2, e]⟩
   · exact .inr ⟨s, t, by simp [fl, h1], by simp [fl, h2], h3⟩
end Go.AL
/- What is lifted means the same, as plain law: the simulation. -/
set_option linter.unusedVariables false
set_option linter.unusedSimpArgs false
namespace Go.AL
noncomputable section
variable (D D' : Defs) (sel : Int) (F : Int → Int → Int → Int × Int) (ok2 : ByteArray → Prop)
theorem run_lam (n : Nat) (args : List Thk) (nm : ByteArray) (k m ar : Int) (ps : List ByteArray) (b : Cr) (al : List (AltH × Cr)) (bs : List (ByteArray × Cr)) (pk : List (Int × Cr)) (e : Env) (t : Thk) :
 run D sel F (n + 1) (.app (.lam args (.mk k nm m ar ps [b] al bs pk) e) t) = if args.length + 1 < ps.length then some (.ok (.lam (args ++ [t]) (.mk k nm m ar ps [b] al bs pk) e)) else run D sel F n (.core b (e.ext ps (args ++ [t]))) := by
 simp only [run, Cr.pss, Cr.args]; rfl
theorem run_maker (n : Nat) (con : ByteArray) (need : Int) (args : List Thk) (t : Thk) :
 run D sel F (n + 1) (.app (.maker con need args) t) = if ((args.length + 1 : Nat) : Int) < need then some (.ok (.maker con need (args ++ [t]))) else some (.ok (.made con (args ++ [t]))) := by rw [run]
theorem run_prim0 (n : Nat) (m : Int) (t : Thk) : run D sel F (n + 1) (.app (.prim m []) t) = some (.ok (.prim m [t])) := by rw [run]
theorem run_prim1 (n : Nat) (m : Int) (a : Thk) (l : List Thk) (t : Thk) : run D sel F (n + 1) (.app (.prim m (a :: l)) t) = run D sel F n (.prim m a ((a :: l ++ [t]).getD 1 a)) := by rw [run]
theorem run_op (n : Nat) (op : Int) (x y : Thk) : run D sel F (n + 1) (.prim op x y) = match run D sel F n (.core x.1 x.2) with
 | some (.ok a) => (match run D sel F n (.core y.1 y.2) with
  | some (.ok b) => if (F op a.num b.num).2 = 0 then (if op < 6 then some (.ok (.whole (F op a.num b.num).1)) else if (F op a.num b.num).1 = 1 then some (.ok (.made tTrue [])) else some (.ok (.made tFalse [])))
   else some (.bad 3)
  | r => r)
 | r => r := by rw [run]; rfl
theorem run_0 (t : Task) : run D sel F 0 t = none := by rw [run]
/-- Values that mean the same. -/
inductive VR : Val → Val → Prop
 | whole (n : Int) : VR (.whole n) (.whole n)
 | made (con : ByteArray) {args args' : List Thk} (h : F2 (TR D' ok2) args args') : VR (.made con args) (.made con args')
 | maker (con : ByteArray) (need : Int) {args args' : List Thk} (h : F2 (TR D' ok2) args args') : VR (.maker con need args) (.maker con need args')
 | prim (n : Int) {args args' : List Thk} (h : F2 (TR D' ok2) args args') : VR (.prim n args) (.prim n args')
 | lam {args args' ft : List Thk} {nm nm' : ByteArray} {m ar m' ar' : Int} {fr ps : List ByteArray} {b b' : Cr} {al al' : List (AltH × Cr)} {bs bs' : List (ByteArray × Cr)} {pk pk' : List (Int × Cr)} {e : Env}
  (hlt : args.length < ps.length) (hl : fr.length = ft.length) (h : F2 (TR D' ok2) args args') (hb : Lf D' ok2 b b') (he : ∀ x, Fv x b → x ∉ ps → ∀ s, e.look x = some s → ∃ t, (Env.nil.ext fr ft).look x = some t ∧ TR D' ok2 s t) :
  VR (.lam args (.mk 6 nm m ar ps [b] al bs pk) e) (.lam (ft ++ args') (.mk 6 nm' m' ar' (fr ++ ps) [b'] al' bs' pk') .nil)
inductive RR : Out1 → Out1 → Prop
 | ok {v v' : Val} (h : VR D' ok2 v v') : RR (.ok v) (.ok v')
 | bad (k : Int) : RR (.bad k) (.bad k)
theorem VR.num {v v' : Val} (h : VR D' ok2 v v') : v.num = v'.num := by cases h <;> rfl
theorem Cr.apps_snoc (f : Cr) (l : List ByteArray) (x : ByteArray) : Cr.apps f (l ++ [x]) = (Cr.apps f l).app (.var x) := by simp [Cr.apps]
theorem snoc_of {α : Type} {l : List α} {n : Nat} (h : l.length = n + 1) : ∃ t x, l = t ++ [x] ∧ t.length = n := by
 have hne : l ≠ [] := by intro e; subst e; simp at h
 exact ⟨l.dropLast, l.getLast hne, (List.dropLast_concat_getLast hne).symm, by simp; omega⟩
theorem apps_part {g : ByteArray} {P : List ByteArray} {b' : Cr} (hD : D' g = some (lamOf P b')) (e' : Env) : ∀ (j : Nat) (l : List ByteArray), l.length = j → j < P.length → ∀ n r, run D' sel F n (.core (Cr.apps (.glob g) l) e') = some r →
 r = .ok (.lam (l.map fun x => (Cr.var x, e')) (.mk 6 ⟨#[]⟩ 0 0 P [b'] [] [] []) .nil)
 | 0, l, hl, hj, n, r, h => by
  have := List.eq_nil_of_length_eq_zero hl
  subst this
  have hP : P ≠ [] := by intro e; subst e; simp at hj
  cases n with
  | zero => rw [run_0] at h; cases h
  | succ n =>
   simp only [Cr.apps, List.foldl_nil, Cr.glob] at h
   rw [run_2, hD] at h
   simp only [lamOf, if_neg hP] at h
   cases n with
   | zero => rw [run_0] at h; cases h
   | succ n =>
    rw [run_6] at h
    simp only [Option.some.injEq] at h
    rw [← h]; rfl
 | j + 1, l, hl, hj, n, r, h => by
  obtain ⟨t, x, rfl, ht⟩ := snoc_of hl
  cases n with
  | zero => rw [run_0] at h; cases h
  | succ n =>
   rw [Cr.apps_snoc, Cr.app, run_5] at h
   cases hf : run D' sel F n (.core (Cr.apps (.glob g) t) e') with
   | none => rw [hf] at h; cases h
   | some q =>
    have hq := apps_part hD e' j t ht (by omega) n q hf
    subst hq
    rw [hf] at h
    simp only at h
    cases n with
    | zero => rw [run_0] at h; cases h
    | succ n =>
     rw [run_lam, if_pos (by simp; omega)] at h
     simp only [Option.some.injEq] at h
     rw [← h]; simp
theorem apps_full {g : ByteArray} {P : List ByteArray} {b' : Cr} (hD : D' g = some (lamOf P b')) (e' : Env) (l : List ByteArray) (hl : l.length = P.length) (n : Nat) (r : Out1) (h : run D' sel F n (.core (Cr.apps (.glob g) l) e') = some r) :
 ∃ n', n' < n ∧ run D' sel F n' (.core b' (Env.nil.ext P (l.map fun x => (Cr.var x, e')))) = some r := by
 cases n with
 | zero => rw [run_0] at h; cases h
 | succ n =>
  cases hj : l.length with
  | zero =>
   have := List.eq_nil_of_length_eq_zero hj
   subst this
   have hP : P = [] := List.eq_nil_of_length_eq_zero (by simp at hl; omega)
   subst hP
   simp only [Cr.apps, List.foldl_nil, Cr.glob] at h
   rw [run_2, hD] at h
   exact ⟨n, by omega, by simpa [lamOf, Env.ext] using h⟩
  | succ j =>
   obtain ⟨t, x, rfl, ht⟩ := snoc_of hj
   rw [Cr.apps_snoc, Cr.app, run_5] at h
   cases hf : run D' sel F n (.core (Cr.apps (.glob g) t) e') with
   | none => rw [hf] at h; cases h
   | some q =>
    have hq := apps_part D' sel F hD e' j t ht (by omega) n q hf
    subst hq
    rw [hf] at h
    simp only at h
    cases n with
    | zero => rw [run_0] at h; cases h
    | succ n =>
     rw [run_lam, if_neg (by simp at hl ⊢; omega)] at h
     exact ⟨n, by omega, by simpa using h⟩
/-- What is asked of the definitions. -/
structure DefsR : Prop where
 df : ∀ nm b, D nm = some b → ∃ b', D' nm = some b' ∧ ((∃ nm m ar ps x al bs pk x', ps ≠ [] ∧ b = Cr.mk 6 nm m ar ps [x] al bs pk ∧ b' = lamOf ps x' ∧ Lf D' ok2 x x') ∨ Lf D' ok2 b b')
 o2 : ∀ nm, ok2 nm → D nm = none → D' nm = none
structure Sim (n : Nat) : Prop where
 core : ∀ s t, TR D' ok2 s t → ∀ r', run D' sel F n (.core t.1 t.2) = some r' → ∀ m r, run D sel F m (.core s.1 s.2) = some r → RR D' ok2 r r'
 app : ∀ v v' s t, VR D' ok2 v v' → TR D' ok2 s t → ∀ r', run D' sel F n (.app v' t) = some r' → ∀ m r, run D sel F m (.app v s) = some r → RR D' ok2 r r'
 prim : ∀ op x x' y y', TR D' ok2 x x' → TR D' ok2 y y' → ∀ r', run D' sel F n (.prim op x' y') = some r' → ∀ m r, run D sel F m (.prim op x y) = some r → RR D' ok2 r r'
theorem TR.of {c c' : Cr} {e e' : Env} (h : Lf D' ok2 c c') (he : EnvR (TR D' ok2) c e e') : TR D' ok2 (c, e) (c', e') := .fold (.inl ⟨h, he⟩)
theorem LfP.pick {pk pk' : List (Int × Cr)} (h : LfP D' ok2 pk pk') : (pickP sel pk = none ∧ pickP sel pk' = none) ∨ ∃ b b' i, pickP sel pk = some b ∧ pickP sel pk' = some b' ∧ Lf D' ok2 b b' ∧ (i, b) ∈ pk := by
 induction pk generalizing pk' with
 | nil => cases h; exact .inl ⟨rfl, rfl⟩
 | cons p r ih =>
  cases h with
  | cons h t =>
   rename_i a x y l
   by_cases e : a = sel
   · exact .inr ⟨x, y, a, by simp [pickP, e], by simp [pickP, e], h, by simp⟩
   · rcases ih t with ⟨h1, h2⟩ | ⟨b, b', i, h1, h2, h3, h4⟩
     · exact .inl ⟨by simp [pickP, e, h1], by simp [pickP, e, h2]⟩
     · exact .inr ⟨b, b', i, by simp [pickP, e, h1], by simp [pickP, e, h2], h3, by simp [h4]⟩
theorem LfA.pick {v v' : Val} (hv : VR D' ok2 v v') {al al' : List (AltH × Cr)} (h : LfA D' ok2 al al') {b : Cr} {xs : List ByteArray} {ts : List Thk} (hp : pickA v al = some (b, xs, ts)) :
 ∃ b' ts', pickA v' al' = some (b', xs, ts') ∧ Lf D' ok2 b b' ∧ F2 (TR D' ok2) ts ts' ∧ ∃ a, (a, b) ∈ al ∧ (xs = a.ps ∨ (xs = [] ∧ a.k ≠ 1)) := by
 induction al generalizing al' with
 | nil => simp [pickA] at hp
 | cons p r ih =>
  cases h with
  | cons h t =>
   rename_i a x y l
   have next : pickA v r = some (b, xs, ts) → pickA v' ((a, y) :: l) = pickA v' l → ∃ b' ts', pickA v' ((a, y) :: l) = some (b', xs, ts') ∧ Lf D' ok2 b b' ∧ F2 (TR D' ok2) ts ts' ∧ ∃ a1, (a1, b) ∈ (a, x) :: r ∧ (xs = a1.ps ∨ (xs = [] ∧ a1.k ≠ 1)) := by
    intro h1 h2
    obtain ⟨b', ts', q1, q2, q3, a1, q4, q5⟩ := ih t h1
    exact ⟨b', ts', h2.trans q1, q2, q3, a1, by simp [q4], q5⟩
   by_cases e3 : a.k = 3
   · simp only [pickA, e3, reduceIte, Option.some.injEq, Prod.mk.injEq] at hp
     obtain ⟨rfl, rfl, rfl⟩ := hp
     exact ⟨y, [], by simp [pickA, e3], h, .nil, a, by simp, .inr ⟨rfl, by omega⟩⟩
   · cases hv with
     | whole n =>
      by_cases e2 : a.k = 2 ∧ n = a.n
      · have hp : some (x, ([] : List ByteArray), ([] : List Thk)) = some (b, xs, ts) := by simpa [pickA, e2] using hp
        simp only [Option.some.injEq, Prod.mk.injEq] at hp
        obtain ⟨rfl, rfl, rfl⟩ := hp
        exact ⟨y, [], by simp [pickA, e2], h, .nil, a, by simp, .inr ⟨rfl, by omega⟩⟩
      · have hp : pickA (.whole n) r = some (b, xs, ts) := by simpa [pickA, e2, e3] using hp
        exact next hp (by simp [pickA, e2, e3])
     | made con hF =>
      rename_i args args'
      by_cases e2 : a.k = 1 ∧ con = a.nm
      · have hl := hF.len
        by_cases e4 : args.length = a.ps.length
        · have hp : some (x, a.ps, args) = some (b, xs, ts) := by simpa [pickA, e2, e3, e4] using hp
          simp only [Option.some.injEq, Prod.mk.injEq] at hp
          obtain ⟨rfl, rfl, rfl⟩ := hp
          exact ⟨y, args', by simp [pickA, e2, e3, ← hl, e4], h, hF, a, by simp, .inl rfl⟩
        · simp [pickA, e2, e3, e4] at hp
      · have hp : pickA (.made con args) r = some (b, xs, ts) := by simpa [pickA, e2, e3] using hp
        exact next hp (by simp [pickA, e2, e3])
     | maker con need hF =>
      exact next (by simpa [pickA, e3] using hp) (by simp [pickA, e3])
     | prim n hF =>
      exact next (by simpa [pickA, e3] using hp) (by simp [pickA, e3])
     | lam hlp hl h1 hb he =>
      exact next (by simpa [pickA, e3] using hp) (by simp [pickA, e3])
theorem pickA_len {v : Val} {b : Cr} {xs : List ByteArray} {ts : List Thk} : ∀ (al : List (AltH × Cr)), pickA v al = some (b, xs, ts) → xs.length = ts.length
 | [], h => by simp [pickA] at h
 | (a, y) :: r, h => by
  have ih := pickA_len (v := v) (b := b) (xs := xs) (ts := ts) r
  by_cases e3 : a.k = 3
  · simp only [pickA, e3, reduceIte, Option.some.injEq, Prod.mk.injEq] at h
    obtain ⟨_, rfl, rfl⟩ := h; rfl
  · cases v with
    | whole n =>
     by_cases e2 : a.k = 2 ∧ n = a.n
     · have h : some (y, ([] : List ByteArray), ([] : List Thk)) = some (b, xs, ts) := by simpa [pickA, e2] using h
       cases h; rfl
     · exact ih (by simpa [pickA, e2, e3] using h)
    | made con args =>
     by_cases e2 : a.k = 1 ∧ con = a.nm
     · by_cases e4 : args.length = a.ps.length
       · have h : some (y, a.ps, args) = some (b, xs, ts) := by simpa [pickA, e2, e3, e4] using h
         cases h; exact e4.symm
       · simp [pickA, e2, e3, e4] at h
     · exact ih (by simpa [pickA, e2, e3] using h)
    | lam _ _ _ => exact ih (by simpa [pickA, e3] using h)
    | maker _ _ _ => exact ih (by simpa [pickA, e3] using h)
    | prim _ _ => exact ih (by simpa [pickA, e3] using h)
theorem ext_rel {ps : List ByteArray} {ts ts' : List Thk} (hF : F2 (TR D' ok2) ts ts') {b b' : Cr} (hb : Lf D' ok2 b b') {e e' : Env} (hl : ps.length = ts.length)
 (he : ∀ x, Fv x b → x ∉ ps → ∀ s, e.look x = some s → ∃ t, e'.look x = some t ∧ TR D' ok2 s t) : TR D' ok2 (b, e.ext ps ts) (b', e'.ext ps ts') := by
 refine TR.of D' ok2 hb fun x hx s hs => ?_
 simp only [look_ext] at hs ⊢
 rcases fl_F2 (x := x) (ps := ps) hF with ⟨h1, h2⟩ | ⟨s1, t1, h1, h2, h3⟩
 · rw [h1] at hs; rw [h2]
   refine he x hx ?_ s hs
   have : ∀ (ps : List ByteArray) (ts : List Thk), ps.length = ts.length → fl x ps ts = none → x ∉ ps := by
    intro ps
    induction ps with
    | nil => simp
    | cons p ps ih =>
     intro ts hl hf
     cases ts with
     | nil => simp at hl
     | cons t ts =>
      rw [fl] at hf
      cases hq : fl x ps ts with
      | some r => rw [hq] at hf; cases hf
      | none =>
       rw [hq] at hf
       have := ih ts (by simpa using hl) hq
       by_cases e : p = x
       · simp [e] at hf
       · simp only [List.mem_cons, not_or]; exact ⟨fun h => e h.symm, this⟩
   exact this _ _ hl h1
 · rw [h1] at hs; rw [h2]
   cases hs
   exact ⟨t1, rfl, h3⟩
theorem sim (hD : DefsR D D' ok2) : ∀ n, Sim D D' sel F ok2 n := by
 intro n
 induction n using Nat.strongRecOn with
 | _ n IH =>
 refine ⟨?_, ?_, ?_⟩
 · rintro ⟨c, e⟩ ⟨c', e'⟩ hst r' hr' m r hr
   simp only at hr hr'
   rcases hst.unf with ⟨hL, hE⟩ | ⟨x, t', h1, h2, h3⟩
   · simp only at hL hE
     cases hL with
     | late hg hfr hc =>
      obtain ⟨n', hn, hq⟩ := apps_full D' sel F hg e' _ rfl n r' hr'
      refine (IH n' hn).core (c, e) (_, _) (TR.of D' ok2 hc fun x hx s hs => ?_) r' hq m r hr
      obtain ⟨t, ht, hR⟩ := hE x hx s hs
      exact ⟨(Cr.var x, e'), by rw [look_ext, fl_map (fun x => (Cr.var x, e')) x _ (hfr x hx)], hR.fwd ht⟩
     | lam hps hg hfr hb =>
      rename_i nm m1 ar ps b b' al bs pk g fr
      have := apps_part D' sel F hg e' _ fr rfl (by have := List.length_pos_iff.2 hps; simp; omega) n r' hr'
      subst this
      cases m with
      | zero => rw [run_0] at hr; cases hr
      | succ m =>
       rw [run_6] at hr
       cases hr
       have := VR.lam (D' := D') (ok2 := ok2) (args := []) (args' := []) (ft := fr.map fun x => (Cr.var x, e')) (nm := nm) (nm' := ⟨#[]⟩) (m := m1) (ar := ar) (m' := 0) (ar' := 0) (fr := fr) (ps := ps) (b := b) (b' := b') (al := al) (al' := []) (bs := bs) (bs' := []) (pk := pk) (pk' := []) (e := e) (List.length_pos_iff.2 hps) (by simp) .nil hb (fun x hx hxp s hs => by
        obtain ⟨t, ht, hR⟩ := hE x (.g (by simp) hx (by simpa [inn] using hxp)) s hs
        exact ⟨(Cr.var x, e'), by rw [look_ext, fl_map (fun x => (Cr.var x, e')) x _ (hfr x hx hxp)], hR.fwd ht⟩)
       exact .ok (by simpa using this)
     | cong h6 h2 hn hg ha hb hp =>
      rename_i k nm m1 ar ps gs gs' al al' bs bs' pk pk'
      cases m with
      | zero => rw [run_0] at hr; cases hr
      | succ m =>
      cases n with
      | zero => rw [run_0] at hr'; cases hr'
      | succ n =>
      obtain ⟨⟨k1, k2, hA2, hA1⟩, hps, -, hal⟩ := hn
      have hps := hps h6
      subst hps
      have hin : k ≠ 7 → ∀ x, x ∉ inn k [] bs := fun h7 x => by simp [inn, h7]
      have hkk : k = 1 ∨ k = 2 ∨ k = 3 ∨ k = 4 ∨ k = 5 ∨ k = 7 ∨ k = 8 ∨ k = 9 ∨ k = 10 ∨ k = 11 := by omega
      have eg : k ≠ 7 → ∀ y, y ∈ gs → EnvR (TR D' ok2) y e e' := fun h7 y hy x hx => hE x (.g hy hx (hin h7 x))
      rcases hkk with rfl | rfl | rfl | rfl | rfl | rfl | rfl | rfl | rfl | rfl
      · rw [run_1] at hr hr'
        cases hs : e.look nm with
        | none => rw [hs] at hr; cases hr
        | some s =>
         obtain ⟨t, ht, hR⟩ := hE nm .var s hs
         rw [hs] at hr; rw [ht] at hr'
         exact (IH n (by omega)).core s t hR r' hr' m r hr
      · rw [run_2] at hr hr'
        cases hs : D nm with
        | none =>
         rw [hs] at hr; rw [hD.o2 nm (h2 rfl) hs] at hr'
         cases hr; cases hr'
         exact .ok (.prim _ .nil)
        | some b =>
         obtain ⟨b', hb', hdb⟩ := hD.df nm b hs
         rw [hs] at hr; rw [hb'] at hr'
         simp only at hr hr'
         rcases hdb with ⟨nm, m1, ar, ps, x, al, bs, pk, x', hps, rfl, rfl, hx⟩ | hb
         · cases m with
           | zero => rw [run_0] at hr; cases hr
           | succ m =>
           cases n with
           | zero => rw [run_0] at hr'; cases hr'
           | succ n =>
           simp only [lamOf, if_neg hps] at hr'
           rw [run_6] at hr hr'
           cases hr; cases hr'
           have := VR.lam (D' := D') (ok2 := ok2) (args := []) (args' := []) (ft := []) (nm := nm) (nm' := ⟨#[]⟩) (m := m1) (ar := ar) (m' := 0) (ar' := 0) (fr := []) (ps := ps) (b := x) (b' := x') (al := al) (al' := []) (bs := bs) (bs' := []) (pk := pk) (pk' := []) (e := Env.nil) (List.length_pos_iff.2 hps) rfl .nil hx (fun x hx hxp s hs => by simp [Env.look] at hs)
           exact .ok (by simpa using this)
         · exact (IH n (by omega)).core (b, .nil) (b', .nil) (TR.of D' ok2 hb fun x hx s hs => by simp [Env.look] at hs) r' hr' m r hr
      · rw [run_3] at hr hr'
        cases hr; cases hr'; exact .ok (.whole _)
      · rw [run_4] at hr hr'
        by_cases h0 : ar = 0
        · rw [if_pos h0] at hr hr'
          cases hr; cases hr'; exact .ok (.made _ .nil)
        · rw [if_neg h0] at hr hr'
          cases hr; cases hr'; exact .ok (.maker _ _ .nil)
      · obtain ⟨f, a, rfl⟩ := hA2 (.inl rfl)
        cases hg with
        | cons hf hg => cases hg with
        | cons hga hg => cases hg with
        | nil =>
        rename_i f' a'
        rw [run_5] at hr hr'
        cases hq : run D sel F m (.core f e) with
        | none => rw [hq] at hr; cases hr
        | some q =>
         cases hq' : run D' sel F n (.core f' e') with
         | none => rw [hq'] at hr'; cases hr'
         | some q' =>
          rw [hq] at hr; rw [hq'] at hr'
          cases (IH n (by omega)).core (f, e) (f', e') (TR.of D' ok2 hf (eg (by decide) f (by simp))) q' hq' m q hq with
          | ok hv => exact (IH n (by omega)).app _ _ _ _ hv (TR.of D' ok2 hga (eg (by decide) a (by simp))) r' hr' m r hr
          | bad k => cases hr; cases hr'; exact .bad k
      · obtain ⟨g, rfl⟩ := hA1 (by simp)
        cases hg with
        | cons hgg hg => cases hg with
        | nil =>
        rename_i g'
        rw [run_7] at hr hr'
        have hbe : ∀ y, y ∈ bs → ∀ x, Fv x y.2 → x ∉ bs.map (·.1) → ∀ s, e.look x = some s → ∃ t, e'.look x = some t ∧ TR D' ok2 s t := fun y hy x hx hxn => hE x (.b hy hx (by simpa [inn] using hxn))
        refine (IH n (by omega)).core (g, .lets e bs) (g', .lets e' bs') (TR.of D' ok2 hgg fun x hx s hs => ?_) r' hr' m r hr
        simp only [Env.look] at hs ⊢
        rcases hb.last x with ⟨h1, h2⟩ | ⟨b, b', h1, h2, h3, h4⟩
        · rw [h1] at hs; rw [h2]
          exact hE x (.g (by simp) hx (by simpa [inn] using lastB_none h1)) s hs
        · rw [h1] at hs; rw [h2]
          cases hs
          exact ⟨_, rfl, TR.lets hb hbe h1 h2⟩
      · obtain ⟨g, rfl⟩ := hA1 (by simp)
        cases hg with
        | cons hgg hg => cases hg with
        | nil =>
        rename_i g'
        rw [run_8] at hr hr'
        cases hq : run D sel F m (.core g e) with
        | none => rw [hq] at hr; cases hr
        | some q =>
         cases hq' : run D' sel F n (.core g' e') with
         | none => rw [hq'] at hr'; cases hr'
         | some q' =>
          rw [hq] at hr; rw [hq'] at hr'
          cases (IH n (by omega)).core (g, e) (g', e') (TR.of D' ok2 hgg (eg (by decide) g (by simp))) q' hq' m q hq with
          | bad k => cases hr; cases hr'; exact .bad k
          | ok hv =>
           simp only at hr hr'
           rename_i v v'
           cases hpk : pickA v al with
           | none => rw [hpk] at hr; cases hr
           | some z =>
            obtain ⟨b, xs, ts⟩ := z
            obtain ⟨b', ts', hpk', hLb, hF, a, ham, hxs⟩ := LfA.pick D' ok2 hv ha hpk
            rw [hpk] at hr; rw [hpk'] at hr'
            simp only at hr hr'
            have hxs : xs = a.ps := by
             rcases hxs with h | ⟨h, h1⟩
             · exact h
             · rw [h, hal _ ham h1]
            have hlen : xs.length = ts.length := by
             exact pickA_len al hpk
            exact (IH n (by omega)).core _ _ (ext_rel D' ok2 hF hLb hlen fun x hx hxn => hE x (.a ham hx (hin (by decide) x) (by rw [← hxs]; exact hxn))) r' hr' m r hr
      · obtain ⟨f, a, rfl⟩ := hA2 (.inr rfl)
        cases hg with
        | cons hf hg => cases hg with
        | cons hga hg => cases hg with
        | nil =>
        rw [run_9] at hr hr'
        exact (IH n (by omega)).prim _ _ _ _ _ (TR.of D' ok2 hf (eg (by decide) f (by simp))) (TR.of D' ok2 hga (eg (by decide) a (by simp))) r' hr' m r hr
      · rw [run_10] at hr hr'
        cases hr; cases hr'; exact .bad 2
      · obtain ⟨g, rfl⟩ := hA1 (by simp)
        cases hg with
        | cons hgg hg => cases hg with
        | nil =>
        rename_i g'
        rw [run_11] at hr hr'
        rcases LfP.pick D' sel ok2 hp with ⟨h1, h2⟩ | ⟨b, b', i, h1, h2, h3, h4⟩
        · rw [h1] at hr; rw [h2] at hr'
          exact (IH n (by omega)).core (g, e) (g', e') (TR.of D' ok2 hgg (eg (by decide) g (by simp))) r' hr' m r hr
        · rw [h1] at hr; rw [h2] at hr'
          exact (IH n (by omega)).core (b, e) (b', e') (TR.of D' ok2 h3 fun x hx => hE x (.p h4 hx (hin (by decide) x))) r' hr' m r hr
   · simp only at h1 h2
     subst h1
     cases n with
     | zero => rw [run_0] at hr'; cases hr'
     | succ n =>
      rw [Cr.var, run_1, h2] at hr'
      exact (IH n (by omega)).core _ _ h3 r' hr' m r hr
 · intro v v' s t hv hst r' hr' m r hr
   cases m with
   | zero => rw [run_0] at hr; cases hr
   | succ m =>
   cases n with
   | zero => rw [run_0] at hr'; cases hr'
   | succ n =>
   cases hv with
   | whole n => simp [run] at hr
   | made con h => simp [run] at hr
   | maker con need h =>
    rw [run_maker] at hr hr'
    rw [h.len] at hr
    split at hr <;> rename_i hlt
    · rw [if_pos hlt] at hr'
      cases hr; cases hr'; exact .ok (.maker _ _ (h.snoc hst))
    · rw [if_neg hlt] at hr'
      cases hr; cases hr'; exact .ok (.made _ (h.snoc hst))
   | prim q h =>
    cases h with
    | nil =>
     rw [run_prim0] at hr hr'
     cases hr; cases hr'; exact .ok (.prim _ (.cons hst .nil))
    | cons h1 h2 =>
     rw [run_prim1] at hr hr'
     refine (IH n (by omega)).prim _ _ _ _ _ h1 ?_ r' hr' m r hr
     cases h2 with
     | nil => simpa using hst
     | cons h3 h4 => simpa using h3
   | lam hlp hl h hb he =>
    rename_i args args' ft nm nm' m1 ar m' ar' fr ps b b' al al' bs bs' pk pk' e
    have h1 := h.len
    rw [run_lam] at hr hr'
    simp only [List.length_append] at hr'
    by_cases hlt : args.length + 1 < ps.length
    · rw [if_pos hlt] at hr
      rw [if_pos (by omega)] at hr'
      cases hr; cases hr'
      rw [List.append_assoc]
      exact .ok (.lam (by simp; omega) hl (h.snoc hst) hb he)
    · rw [if_neg hlt] at hr
      rw [if_neg (by omega)] at hr'
      rw [List.append_assoc, ext_app _ _ _ _ _ hl] at hr'
      exact (IH n (by omega)).core _ _ (ext_rel D' ok2 (h.snoc hst) hb (by simp; omega) he) r' hr' m r hr
 · intro op x x' y y' hx hy r' hr' m r hr
   cases m with
   | zero => rw [run_0] at hr; cases hr
   | succ m =>
   cases n with
   | zero => rw [run_0] at hr'; cases hr'
   | succ n =>
   rw [run_op] at hr hr'
   cases hq : run D sel F m (.core x.1 x.2) with
   | none => rw [hq] at hr; cases hr
   | some q =>
    cases hq' : run D' sel F n (.core x'.1 x'.2) with
    | none => rw [hq'] at hr'; cases hr'
    | some q' =>
     rw [hq] at hr; rw [hq'] at hr'
     cases (IH n (by omega)).core x x' hx q' hq' m q hq with
     | bad k => cases hr; cases hr'; exact .bad k
     | ok hv =>
      simp only at hr hr'
      cases hp : run D sel F m (.core y.1 y.2) with
      | none => rw [hp] at hr; cases hr
      | some p =>
       cases hp' : run D' sel F n (.core y'.1 y'.2) with
       | none => rw [hp'] at hr'; cases hr'
       | some p' =>
        rw [hp] at hr; rw [hp'] at hr'
        cases (IH n (by omega)).core y y' hy p' hp' m p hp with
        | bad k => cases hr; cases hr'; exact .bad k
        | ok hw =>
         simp only at hr hr'
         rw [VR.num D' ok2 hv, VR.num D' ok2 hw] at hr
         rw [hr] at hr'
         cases hr'
         split at hr
         · split at hr
           · cases hr; exact .ok (.whole _)
           · split at hr
             · cases hr; exact .ok (.made _ .nil)
             · cases hr; exact .ok (.made _ .nil)
         · cases hr; exact .bad 3
end
end Go.AL
/- The names of what is made by lifting, as plain law. -/
set_option linter.unusedVariables false
set_option linter.unusedSimpArgs false
namespace Go.AL
/-- A text that ends with a # and a number's text. -/
def NumbP (s : ByteArray) : Prop := ∃ p t, bl s = p ++ 35 :: t ∧ (35 : UInt8) ∉ t ∧ NumT t
theorem last_eq {p q t u : List UInt8} (h : p ++ 35 :: t = q ++ 35 :: u) (ht : (35 : UInt8) ∉ t) (hu : (35 : UInt8) ∉ u) : p = q ∧ t = u := by
 rcases List.append_eq_append_iff.1 h with ⟨a, h1, h2⟩ | ⟨a, h1, h2⟩
 · cases a with
   | nil => simp at h1 h2; exact ⟨h1.symm, h2⟩
   | cons x a =>
    simp at h2
    exact absurd (by rw [h2.2]; simp) ht
 · cases a with
   | nil => simp at h1 h2; exact ⟨h1, h2.symm⟩
   | cons x a =>
    simp at h2
    exact absurd (by rw [h2.2]; simp) hu
theorem pd_digit : ∀ (n : Nat) (b : UInt8), b ∈ dg n → digitB b
 | n, b, hb => by
  by_cases h : n < 10
  · rw [dg_lt h] at hb
    have hb : b = UInt8.ofNat (48 + n) := by simpa using hb
    subst hb
    unfold digitB; rw [toNat_ofNat (by omega)]; omega
  · rw [dg_ge h] at hb
    rcases List.mem_append.1 hb with hb | hb
    · exact pd_digit (n / 10) b hb
    · have hb : b = UInt8.ofNat (48 + n % 10) := by simpa using hb
      subst hb
      unfold digitB; rw [toNat_ofNat (by omega)]; omega
termination_by n => n
decreasing_by omega
theorem pd_val : ∀ (n : Nat), valN (dg n) = n
 | n => by
  by_cases h : n < 10
  · rw [dg_lt h]; simp only [valN, List.foldl_cons, List.foldl_nil]; rw [toNat_ofNat (by omega)]; omega
  · rw [dg_ge h, valN_snoc, pd_val (n / 10), toNat_ofNat (by omega)]; omega
termination_by n => n
decreasing_by omega
theorem pd_len : ∀ (m n : Nat), n < 10 ^ (m + 1) → (dg n).length ≤ m + 1
 | 0, n, h => by rw [dg_lt (by simpa using h)]; simp
 | m + 1, n, h => by
  by_cases h1 : n < 10
  · rw [dg_lt h1]; simp
  · rw [dg_ge h1]
    have := pd_len m (n / 10) (by rw [Nat.pow_succ] at h; omega)
    simp; omega
theorem pd_35 (n : Nat) : (35 : UInt8) ∉ dg n := fun h => by
 have := pd_digit n _ h
 unfold digitB at this
 have h35 : (35 : UInt8).toNat = 35 := rfl
 omega
theorem pd_num (n : Nat) (h1 : 1 ≤ n) (h2 : n < 1000000000000000000) : NumT (dg n) := by
 obtain ⟨b, hb⟩ : ∃ b, (dg n)[0]? = some b := ⟨_, List.getElem?_eq_getElem (List.length_pos_iff.2 (dg_ne n))⟩
 have hd := pd_digit n b (List.mem_of_getElem? hb)
 have hl := pd_len 18 n (by omega)
 unfold NumT
 rw [if_neg ?_]
 · refine ⟨dg_ne n, hl, pd_digit n, fun h0 => absurd rfl (dg_head n h1 _ h0), by rw [pd_val]; omega, fun h => by rw [pd_val] at h; omega⟩
 · intro e
   rw [hb] at e
   simp at e
   subst e
   unfold digitB at hd
   have h35 : (45 : UInt8).toNat = 45 := rfl
   omega
/-! ### A number's text -/
def rd (u : Nat) : List Int := if h : u < 10 then [48 + (u : Int)] else (48 + ((u % 10 : Nat) : Int)) :: rd (u / 10)
termination_by u
decreasing_by omega
theorem rd_dg : ∀ (u : Nat), ((rd u).reverse).map (fun x => UInt8.ofNat x.toNat) = dg u
 | u => by
  by_cases h : u < 10
  · rw [dg_lt h, rd, dif_pos h]
    simp only [List.reverse_cons, List.reverse_nil, List.nil_append, List.map_cons, List.map_nil]
    rw [show ((48 : Int) + (u : Int)).toNat = 48 + u by omega]
  · rw [dg_ge h, rd, dif_neg h, List.reverse_cons, List.map_append, rd_dg (u / 10)]
    simp only [List.map_cons, List.map_nil]
    rw [show ((48 : Int) + ((u % 10 : Nat) : Int)).toNat = 48 + u % 10 by omega]
termination_by u => u
decreasing_by omega
theorem digit_eq (u : Nat) (h : u < 1000000000000000000) : digit (u : Int) = 48 + ((u % 10 : Nat) : Int) := by
 unfold digit
 rw [wrap_u64', Int.tmod_eq_emod_of_nonneg (by omega)]
 simp only [IntKind.wrap, IntKind.signed, IntKind.bits]
 simp
 omega
theorem digs_0 (f : Nat) {b : List Int} (h : b ≠ []) : digs f 0 b = b := by
 cases f with
 | zero => rfl
 | succ f => rw [digs, if_neg]; simp [h]
theorem digs_rd : ∀ (f u : Nat) (b : List Int), u < 10 ^ (f + 1) → u < 1000000000000000000 → (0 < u ∨ b = []) → digs (f + 1) (u : Int) b = b ++ rd u
 | f, u, b, h, hu, hb => by
  have hc : (0 : Int) < (u : Int) ∨ b.length = 0 := hb.elim (fun hb => .inl (by omega)) (fun hb => .inr (by simp [hb]))
  rw [digs, if_pos hc, digit_eq u hu]
  have hq : IntKind.u64.wrap ((u : Int).tdiv 10) = ((u / 10 : Nat) : Int) := by
   rw [wrap_u64', Int.tdiv_eq_ediv_of_nonneg (by omega)]; omega
  rw [hq]
  by_cases h1 : u < 10
  · rw [show u / 10 = 0 by omega, rd, dif_pos h1, show u % 10 = u by omega]
    exact digs_0 f (by simp)
  · cases f with
    | zero => simp at h; omega
    | succ f =>
     rw [digs_rd f (u / 10) _ (by rw [Nat.pow_succ] at h; omega) (by omega) (.inl (by omega))]
     conv => rhs; rw [rd, dif_neg h1]
     simp
theorem swp_at : ∀ (f i : Nat) (b : List Int), b.length ≤ 2 * i + 2 * f + 1 → ∀ j, j < b.length → (swp f i b)[j]? = if i ≤ j ∧ j + i < b.length then b[b.length - 1 - j]? else b[j]?
 | 0, i, b, h, j, hj => by
  rw [swp]
  split
  · rw [show b.length - 1 - j = j by omega]
  · rfl
 | f + 1, i, b, h, j, hj => by
  rw [swp]
  by_cases hc : i + 1 + i < b.length
  · rw [if_pos hc]
    have hg1 : b.getD (b.length - 1 - i) 0 = b[b.length - 1 - i]'(by omega) := by simp [List.getD_eq_getElem?_getD, List.getElem?_eq_getElem (show b.length - 1 - i < b.length by omega)]
    have hg2 : b.getD i 0 = b[i]'(by omega) := by simp [List.getD_eq_getElem?_getD, List.getElem?_eq_getElem (show i < b.length by omega)]
    have ih := swp_at f (i + 1) ((b.set i (b.getD (b.length - 1 - i) 0)).set (b.length - 1 - i) (b.getD i 0)) (by simp; omega) j (by simpa using hj)
    rw [ih, hg1, hg2]
    simp only [List.length_set, List.getElem?_set]
    by_cases e1 : j = i
    · subst e1
      rw [if_neg (by omega), if_neg (by omega), if_pos rfl, if_pos (by omega), if_pos (by omega), List.getElem?_eq_getElem (by omega)]
    · by_cases e2 : j = b.length - 1 - i
      · rw [if_neg (by omega), if_pos (by omega), if_pos (by omega), if_pos (by omega), show b.length - 1 - j = i by omega, List.getElem?_eq_getElem (by omega)]
      · by_cases e3 : i ≤ j ∧ j + i < b.length
        · rw [if_pos (by omega), if_pos e3, if_neg (by omega), if_neg (by omega)]
        · rw [if_neg (by omega), if_neg e3, if_neg (by omega), if_neg (by omega)]
  · rw [if_neg hc]
    split
    · rw [show b.length - 1 - j = j by omega]
    · rfl
theorem swp_rev (b : List Int) : swp b.length 0 b = b.reverse := by
 refine List.ext_getElem? fun j => ?_
 by_cases hj : j < b.length
 · rw [swp_at _ _ _ (by omega) j hj, if_pos (by omega), List.getElem?_reverse hj]
 · rw [List.getElem?_eq_none (by rw [swp_len]; omega), List.getElem?_eq_none (by simp; omega)]
theorem bytesStr_bl (ns : List Int) : bl (bytesStr ns) = ns.map fun x => UInt8.ofNat x.toNat := by
 have : ∀ (ns : List Int) (r : ByteArray), bl (ns.foldl (fun r n => r.push (UInt8.ofNat n.toNat)) r) = bl r ++ ns.map fun x => UInt8.ofNat x.toNat := by
  intro ns
  induction ns with
  | nil => simp
  | cons x l ih => intro r; rw [List.foldl_cons, ih]; simp [bl]
 simpa [bl, bytesStr] using this ns ByteArray.empty
theorem textOf_dg (k : Nat) (hk : k < 1000000000000000000) : bl (textOf (k : Int)) = dg k := by
 have hm : mag (k : Int) = (k : Int) := by unfold mag; rw [if_neg (by omega), wrap_u64']; omega
 rw [textOf, bytesStr_bl, textL, hm, digs_rd 20 k [] (by omega) hk (.inr rfl)]
 simp only [List.nil_append]
 rw [if_neg (by omega), swp_rev, rd_dg]
/-! ### Names of what is made -/
theorem supName_bl (df : ByteArray) (n : Nat) (h : n < 100000000000000000) : bl (supName df textOf n) = bl df ++ 35 :: dg (n + 1) := by
 rw [supName, bl_app, bl_app, textOf_dg _ (by omega)]
 simp [bl]
theorem supName_numb (df : ByteArray) (n : Nat) (h : n < 100000000000000000) : NumbP (supName df textOf n) := ⟨_, _, supName_bl df n h, pd_35 _, pd_num _ (by omega) (by omega)⟩
theorem supName_inj {d1 d2 : ByteArray} {n1 n2 : Nat} (h1 : n1 < 100000000000000000) (h2 : n2 < 100000000000000000) (h : supName d1 textOf n1 = supName d2 textOf n2) : d1 = d2 ∧ n1 = n2 := by
 have := congrArg bl h
 rw [supName_bl _ _ h1, supName_bl _ _ h2] at this
 obtain ⟨q1, q2⟩ := last_eq this (pd_35 _) (pd_35 _)
 refine ⟨bl_inj q1, ?_⟩
 have := congrArg valN q2
 rw [pd_val, pd_val] at this
 omega
theorem range_app (T : Nat → ByteArray) (n a b : Nat) : (List.range' n a).map T ++ (List.range' (n + a) b).map T = (List.range' n (a + b)).map T := by
 rw [← List.map_append, List.range'_append_1]
theorem range4 (T : Nat → ByteArray) (n a b c d : Nat) : (List.range' n a).map T ++ (List.range' (n + a) b).map T ++ (List.range' (n + a + b) c).map T ++ (List.range' (n + a + b + c) d).map T = (List.range' n (a + b + c + d)).map T := by
 rw [range_app, Nat.add_assoc n a b, range_app, Nat.add_assoc n (a + b) c, range_app]
section
variable (df : ByteArray) (T : Int → ByteArray)
mutual
theorem liftS_names : ∀ (x : Cr) (now : Bool) (n : Nat), (liftS df T now n x).2.map (·.nm) = (List.range' n (liftS df T now n x).2.length).map (supName df T)
 | .mk k nm m ar ps gs al bs pk, now, n => by
  rw [liftS]
  split
  · simp only [List.map_cons, List.length_cons]
    rw [liftL_names gs true (n + 1), List.range'_succ, List.map_cons]
  · split
    · simp only [List.map_cons, List.length_cons, List.map_append, List.length_append]
      rw [liftL_names gs true _, liftA_names al true _, liftB_names bs false _, liftP_names pk true _, List.range'_succ, List.map_cons, range4]
    · simp only [List.map_append, List.length_append]
      rw [liftL_names gs _ _, liftA_names al now _, liftB_names bs false _, liftP_names pk now _, range4]
theorem liftL_names : ∀ (l : List Cr) (now : Bool) (n : Nat), (liftL df T now n l).2.map (·.nm) = (List.range' n (liftL df T now n l).2.length).map (supName df T)
 | [], now, n => by rw [liftL]; simp
 | x :: r, now, n => by
  rw [liftL]
  simp only [List.map_append, List.length_append]
  rw [liftS_names x now n, liftL_names r now _, range_app]
theorem liftA_names : ∀ (l : List (AltH × Cr)) (now : Bool) (n : Nat), (liftA df T now n l).2.map (·.nm) = (List.range' n (liftA df T now n l).2.length).map (supName df T)
 | [], now, n => by rw [liftA]; simp
 | (h, x) :: r, now, n => by
  rw [liftA]
  simp only [List.map_append, List.length_append]
  rw [liftS_names x now n, liftA_names r now _, range_app]
theorem liftB_names : ∀ (l : List (ByteArray × Cr)) (now : Bool) (n : Nat), (liftB df T now n l).2.map (·.nm) = (List.range' n (liftB df T now n l).2.length).map (supName df T)
 | [], now, n => by rw [liftB]; simp
 | (h, x) :: r, now, n => by
  rw [liftB]
  simp only [List.map_append, List.length_append]
  rw [liftS_names x now n, liftB_names r now _, range_app]
theorem liftP_names : ∀ (l : List (Int × Cr)) (now : Bool) (n : Nat), (liftP df T now n l).2.map (·.nm) = (List.range' n (liftP df T now n l).2.length).map (supName df T)
 | [], now, n => by rw [liftP]; simp
 | (h, x) :: r, now, n => by
  rw [liftP]
  simp only [List.map_append, List.length_append]
  rw [liftS_names x now n, liftP_names r now _, range_app]
end
end
end Go.AL
/- Definitions that are lifted mean the same, as plain law. -/
set_option linter.unusedVariables false
set_option linter.unusedSimpArgs false
namespace Go.AL
/-! ### What is free is found -/
theorem freeL_step {x : ByteArray} {b : List ByteArray} : ∀ {l : List Cr} {o : List ByteArray}, (∀ y, y ∈ l → ∀ o, (x ∈ o ∨ (Fv x y ∧ x ∉ b)) → x ∈ freeS b o y) → (x ∈ o ∨ ∃ y, y ∈ l ∧ Fv x y ∧ x ∉ b) → x ∈ freeL b o l
 | [], o, _, h => by rw [freeL]; simpa using h
 | y :: r, o, hf, h => by
  rw [freeL]
  refine freeL_step (fun z hz => hf z (by simp [hz])) ?_
  rcases h with h | ⟨z, hz, h1, h2⟩
  · exact .inl (hf y (by simp) o (.inl h))
  · rcases List.mem_cons.1 hz with rfl | hz
    · exact .inl (hf z (by simp) o (.inr ⟨h1, h2⟩))
    · exact .inr ⟨z, hz, h1, h2⟩
theorem freeA_step {x : ByteArray} {b : List ByteArray} : ∀ {l : List (AltH × Cr)} {o : List ByteArray}, (∀ y, y ∈ l → ∀ o b, (x ∈ o ∨ (Fv x y.2 ∧ x ∉ b)) → x ∈ freeS b o y.2) → (x ∈ o ∨ ∃ y, y ∈ l ∧ Fv x y.2 ∧ x ∉ b ++ y.1.ps) → x ∈ freeA b o l
 | [], o, _, h => by rw [freeA]; simpa using h
 | (a, y) :: r, o, hf, h => by
  rw [freeA]
  refine freeA_step (fun z hz => hf z (by simp [hz])) ?_
  rcases h with h | ⟨z, hz, h1, h2⟩
  · exact .inl (hf (a, y) (by simp) o _ (.inl h))
  · rcases List.mem_cons.1 hz with rfl | hz
    · exact .inl (hf (a, y) (by simp) o _ (.inr ⟨h1, h2⟩))
    · exact .inr ⟨z, hz, h1, h2⟩
theorem freeB_step {x : ByteArray} {b : List ByteArray} : ∀ {l : List (ByteArray × Cr)} {o : List ByteArray}, (∀ y, y ∈ l → ∀ o, (x ∈ o ∨ (Fv x y.2 ∧ x ∉ b)) → x ∈ freeS b o y.2) → (x ∈ o ∨ ∃ y, y ∈ l ∧ Fv x y.2 ∧ x ∉ b) → x ∈ freeB b o l
 | [], o, _, h => by rw [freeB]; simpa using h
 | (a, y) :: r, o, hf, h => by
  rw [freeB]
  refine freeB_step (fun z hz => hf z (by simp [hz])) ?_
  rcases h with h | ⟨z, hz, h1, h2⟩
  · exact .inl (hf (a, y) (by simp) o (.inl h))
  · rcases List.mem_cons.1 hz with rfl | hz
    · exact .inl (hf (a, y) (by simp) o (.inr ⟨h1, h2⟩))
    · exact .inr ⟨z, hz, h1, h2⟩
theorem freeP_step {x : ByteArray} {b : List ByteArray} : ∀ {l : List (Int × Cr)} {o : List ByteArray}, (∀ y, y ∈ l → ∀ o, (x ∈ o ∨ (Fv x y.2 ∧ x ∉ b)) → x ∈ freeS b o y.2) → (x ∈ o ∨ ∃ y, y ∈ l ∧ Fv x y.2 ∧ x ∉ b) → x ∈ freeP b o l
 | [], o, _, h => by rw [freeP]; simpa using h
 | (a, y) :: r, o, hf, h => by
  rw [freeP]
  refine freeP_step (fun z hz => hf z (by simp [hz])) ?_
  rcases h with h | ⟨z, hz, h1, h2⟩
  · exact .inl (hf (a, y) (by simp) o (.inl h))
  · rcases List.mem_cons.1 hz with rfl | hz
    · exact .inl (hf (a, y) (by simp) o (.inr ⟨h1, h2⟩))
    · exact .inr ⟨z, hz, h1, h2⟩
open Classical in
theorem fv_free (x : ByteArray) : ∀ (c : Cr) (b o : List ByteArray), (x ∈ o ∨ (Fv x c ∧ x ∉ b)) → x ∈ freeS b o c := by
 intro c
 induction c using Cr.ind with
 | _ k nm n ar ps gs al bs pk i1 i2 i3 i4 =>
  intro b o h
  rw [freeS]
  have hb : (b ++ if k = 7 then bs.map (·.1) else ps) = b ++ inn k ps bs := rfl
  rw [hb]
  generalize ho : (if k = 1 ∧ ¬ nm ∈ b ∧ ¬ nm ∈ o then o ++ [nm] else o) = o1
  have key : x ∈ o1 ∨ (x ∉ b ++ inn k ps bs ∧ ((∃ y, y ∈ gs ∧ Fv x y) ∨ (∃ y, y ∈ al ∧ Fv x y.2 ∧ x ∉ y.1.ps) ∨ (∃ y, y ∈ bs ∧ Fv x y.2) ∨ (∃ y, y ∈ pk ∧ Fv x y.2))) := by
   rcases h with h | ⟨h, hx⟩
   · left; rw [← ho]; split <;> simp [h]
   · cases h with
     | var =>
      left
      rw [← ho]
      split
      · simp
      · rename_i hc
        simp only [true_and, not_and, Classical.not_not] at hc
        exact hc hx
     | g hy h hi => right; exact ⟨by simp [hx, hi], .inl ⟨_, hy, h⟩⟩
     | a hy h hi hp => right; exact ⟨by simp [hx, hi], .inr (.inl ⟨_, hy, h, hp⟩)⟩
     | b hy h hi => right; exact ⟨by simp [hx, hi], .inr (.inr (.inl ⟨_, hy, h⟩))⟩
     | p hy h hi => right; exact ⟨by simp [hx, hi], .inr (.inr (.inr ⟨_, hy, h⟩))⟩
  refine freeP_step (fun y hy o => i4 y hy _ o) ?_
  rcases key with hk | ⟨hb, hk⟩
  · left
    refine freeB_step (fun y hy o => i3 y hy _ o) (.inl ?_)
    refine freeA_step (fun y hy o b => i2 y hy b o) (.inl ?_)
    exact freeL_step (fun y hy o => i1 y hy _ o) (.inl hk)
  rcases hk with ⟨y, hy, h⟩ | ⟨y, hy, h, hp⟩ | ⟨y, hy, h⟩ | ⟨y, hy, h⟩
  · left
    refine freeB_step (fun y hy o => i3 y hy _ o) (.inl ?_)
    refine freeA_step (fun y hy o b => i2 y hy b o) (.inl ?_)
    exact freeL_step (fun y hy o => i1 y hy _ o) (.inr ⟨y, hy, h, hb⟩)
  · left
    refine freeB_step (fun y hy o => i3 y hy _ o) (.inl ?_)
    refine freeA_step (fun y hy o b => i2 y hy b o) (.inr ⟨y, hy, h, ?_⟩)
    simp only [List.mem_append, not_or] at hb ⊢
    exact ⟨hb, hp⟩
  · left
    exact freeB_step (fun y hy o => i3 y hy _ o) (.inr ⟨y, hy, h, hb⟩)
  · exact .inr ⟨y, hy, h, hb⟩
/-! ### What is made is the expression, lifted -/
section
variable (D' : Defs) (ok2 : ByteArray → Prop) (df : ByteArray) (T : Int → ByteArray)
/-- Parts are among the definitions. -/
def Has' (l : List Sup) : Prop := ∀ p, p ∈ l → D' p.nm = some (lamOf p.ps p.bd)
theorem Has'.app {l m : List Sup} (h : Has' D' (l ++ m)) : Has' D' l ∧ Has' D' m := ⟨fun p hp => h p (by simp [hp]), fun p hp => h p (by simp [hp])⟩
abbrev LS (x : Cr) : Prop := ∀ (now : Bool) (n : Nat), Has' D' (liftS df T now n x).2 → Lf D' ok2 x (liftS df T now n x).1
theorem lfL_of : ∀ (l : List Cr), (∀ x, x ∈ l → LS D' ok2 df T x) → ∀ (now : Bool) (n : Nat), Has' D' (liftL df T now n l).2 → LfL D' ok2 l (liftL df T now n l).1
 | [], _, now, n, _ => by rw [liftL]; exact .nil
 | x :: r, h, now, n, hh => by
  rw [liftL] at hh ⊢
  obtain ⟨h1, h2⟩ := hh.app
  exact .cons (h x (by simp) now n h1) (lfL_of r (fun y hy => h y (by simp [hy])) now _ h2)
theorem lfA_of : ∀ (l : List (AltH × Cr)), (∀ x, x ∈ l → LS D' ok2 df T x.2) → ∀ (now : Bool) (n : Nat), Has' D' (liftA df T now n l).2 → LfA D' ok2 l (liftA df T now n l).1
 | [], _, now, n, _ => by rw [liftA]; exact .nil
 | (a, x) :: r, h, now, n, hh => by
  rw [liftA] at hh ⊢
  obtain ⟨h1, h2⟩ := hh.app
  exact .cons (h (a, x) (by simp) now n h1) (lfA_of r (fun y hy => h y (by simp [hy])) now _ h2)
theorem lfB_of : ∀ (l : List (ByteArray × Cr)), (∀ x, x ∈ l → LS D' ok2 df T x.2) → ∀ (now : Bool) (n : Nat), Has' D' (liftB df T now n l).2 → LfB D' ok2 l (liftB df T now n l).1
 | [], _, now, n, _ => by rw [liftB]; exact .nil
 | (a, x) :: r, h, now, n, hh => by
  rw [liftB] at hh ⊢
  obtain ⟨h1, h2⟩ := hh.app
  exact .cons (h (a, x) (by simp) now n h1) (lfB_of r (fun y hy => h y (by simp [hy])) now _ h2)
theorem lfP_of : ∀ (l : List (Int × Cr)), (∀ x, x ∈ l → LS D' ok2 df T x.2) → ∀ (now : Bool) (n : Nat), Has' D' (liftP df T now n l).2 → LfP D' ok2 l (liftP df T now n l).1
 | [], _, now, n, _ => by rw [liftP]; exact .nil
 | (a, x) :: r, h, now, n, hh => by
  rw [liftP] at hh ⊢
  obtain ⟨h1, h2⟩ := hh.app
  exact .cons (h (a, x) (by simp) now n h1) (lfP_of r (fun y hy => h y (by simp [hy])) now _ h2)
theorem nd_of {gl ins : List ByteArray} {k : Int} {nm : ByteArray} {n ar : Int} {ps : List ByteArray} {gs : List Cr} {al : List (AltH × Cr)} {bs : List (ByteArray × Cr)} {pk : List (Int × Cr)} (h : (Cr.mk k nm n ar ps gs al bs pk).RtE gl ins) : Nd (.mk k nm n ar ps gs al bs pk) := by
 obtain ⟨hh, _, ha, _⟩ := rtE_iff.1 h
 have hk : 1 ≤ k ∧ k ≤ 11 := by
  by_cases hk : 1 ≤ k ∧ k ≤ 11
  · exact hk
  · unfold HeadOK at hh
    rw [if_neg (by omega), if_neg (by omega), if_neg (by omega), if_neg (by omega), if_neg (by omega), if_neg (by omega), if_neg (by omega), if_neg (by omega), if_neg (by omega), if_neg (by omega), if_neg (by omega)] at hh
    exact hh.elim
 have hal : ∀ a, a ∈ al → a.1.k ≠ 1 → a.1.ps = [] := fun x hx h1 => by
  obtain ⟨i, hi⟩ := List.mem_iff_getElem?.1 hx
  rcases (ha i x.1 (by simp [hi])).1 with h | h | h
  · exact absurd h.1 h1
  · exact nil_of h.2.2
  · exact nil_of h.2.2.2.1
 have two : ∀ {l : List Cr}, l.length = 2 → ∃ f a, l = [f, a] := fun {l} h => by
  match l, h with
  | [f, a], _ => exact ⟨f, a, rfl⟩
 have one : ∀ {l : List Cr}, l.length = 1 → ∃ f, l = [f] := fun {l} h => by
  match l, h with
  | [f], _ => exact ⟨f, rfl⟩
 have hkk : k = 1 ∨ k = 2 ∨ k = 3 ∨ k = 4 ∨ k = 5 ∨ k = 6 ∨ k = 7 ∨ k = 8 ∨ k = 9 ∨ k = 10 ∨ k = 11 := by omega
 unfold HeadOK Shp at hh
 rcases hkk with rfl | rfl | rfl | rfl | rfl | rfl | rfl | rfl | rfl | rfl | rfl <;> simp only [Zd, reduceIte] at hh
 · exact ⟨⟨by omega, by omega, by omega, by omega⟩, fun _ => nil_of hh.2.2.2.1, by omega, hal⟩
 · exact ⟨⟨by omega, by omega, by omega, by omega⟩, fun _ => nil_of hh.2.2.2.1, by omega, hal⟩
 · exact ⟨⟨by omega, by omega, by omega, by omega⟩, fun _ => nil_of hh.2.2.1, by omega, hal⟩
 · exact ⟨⟨by omega, by omega, by omega, by omega⟩, fun _ => nil_of hh.2.2.2.1, by omega, hal⟩
 · exact ⟨⟨by omega, by omega, fun _ => two hh.2.2.2.2.1, by omega⟩, fun _ => nil_of hh.2.2.2.1, by omega, hal⟩
 · exact ⟨⟨by omega, by omega, by omega, fun _ => one hh.2.2.2.1.2.1⟩, fun h => absurd rfl h, fun _ e => hh.2.2.2.2.1 (by rw [e]; rfl), hal⟩
 · exact ⟨⟨by omega, by omega, by omega, fun _ => one hh.2.2.2.1.2.1⟩, fun _ => nil_of hh.2.2.2.1.1, by omega, hal⟩
 · exact ⟨⟨by omega, by omega, by omega, fun _ => one hh.2.2.2.1.2.1⟩, fun _ => nil_of hh.2.2.2.1.1, by omega, hal⟩
 · exact ⟨⟨by omega, by omega, fun _ => two hh.2.2.2.2.2.1, by omega⟩, fun _ => nil_of hh.2.2.2.2.1, by omega, hal⟩
 · exact ⟨⟨by omega, by omega, by omega, by omega⟩, fun _ => nil_of hh.2.2.2.1, by omega, hal⟩
 · exact ⟨⟨by omega, by omega, by omega, fun _ => one hh.2.2.2.2.1⟩, fun _ => nil_of hh.2.2.2.1, by omega, hal⟩
theorem lf_map {k : Int} {nm : ByteArray} {m ar : Int} {ps : List ByteArray} {gs : List Cr} {al : List (AltH × Cr)} {bs : List (ByteArray × Cr)} {pk : List (Int × Cr)} (h6 : k ≠ 6) (h2 : k = 2 → ok2 nm) (hn : Nd (.mk k nm m ar ps gs al bs pk))
 (i1 : ∀ x, x ∈ gs → LS D' ok2 df T x) (i2 : ∀ x, x ∈ al → LS D' ok2 df T x.2) (i3 : ∀ x, x ∈ bs → LS D' ok2 df T x.2) (i4 : ∀ x, x ∈ pk → LS D' ok2 df T x.2) (now : Bool) (n : Nat)
 (h : Has' D' (mapS df T now n (.mk k nm m ar ps gs al bs pk)).2) : Lf D' ok2 (.mk k nm m ar ps gs al bs pk) (mapS df T now n (.mk k nm m ar ps gs al bs pk)).1 := by
 simp only [mapS] at h ⊢
 obtain ⟨h, q4⟩ := h.app
 obtain ⟨h, q3⟩ := h.app
 obtain ⟨q1, q2⟩ := h.app
 exact .cong h6 h2 hn (lfL_of D' ok2 df T gs i1 _ _ q1) (lfA_of D' ok2 df T al i2 _ _ q2) (lfB_of D' ok2 df T bs i3 _ _ q3) (lfP_of D' ok2 df T pk i4 _ _ q4)
theorem lf_of {gl : List ByteArray} (hgl : ∀ nm, (nm ∈ gl ∨ 0 < opS nm) → ok2 nm) : ∀ (x : Cr) (ins : List ByteArray), x.RtE gl ins → LS D' ok2 df T x := by
 intro x
 induction x using Cr.ind with
 | _ k nm m ar ps gs al bs pk i1 i2 i3 i4 =>
  intro ins hr now n hh
  have hnd := nd_of hr
  obtain ⟨hhd, g1, ha, g2, g3, hp, g4⟩ := rtE_iff.1 hr
  have j1 := fun x hx => i1 x hx _ (g1 x hx)
  have j2 := fun x hx => i2 x hx _ (g2 x hx)
  have j3 := fun x hx => i3 x hx _ (g3 x hx)
  have j4 := fun x hx => i4 x hx _ (g4 x hx)
  by_cases h6 : k = 6
  · subst h6
    obtain ⟨⟨_, _, _, h1⟩, _, h3, _⟩ := hnd
    obtain ⟨b, rfl⟩ := h1 (.inl rfl)
    rw [liftS_lam] at hh ⊢
    have hb := hh ⟨_, _, _⟩ (List.mem_cons_self)
    exact .lam (h3 rfl) hb (fun x hx hxp => fv_free x _ _ _ (.inr ⟨.g (by simp) hx (by simpa [inn] using hxp), by simp⟩)) (j1 b (by simp) true (n + 1) fun p hp => hh p (List.mem_cons_of_mem _ hp))
  · have h2 : k = 2 → ok2 nm := by
     rintro rfl
     unfold HeadOK at hhd
     simp only [Zd, reduceIte] at hhd
     exact hgl nm hhd.1
    by_cases hl : now = false ∧ (k = 8 ∨ k = 11 ∨ k = 10)
    · obtain ⟨rfl, hk⟩ := hl
      rw [liftS_late df T n k nm m ar ps gs al bs pk hk] at hh ⊢
      have hb := hh ⟨_, _, _⟩ (List.mem_cons_self)
      exact .late hb (fun x hx => fv_free x _ _ _ (.inr ⟨hx, by simp⟩)) (lf_map D' ok2 df T h6 h2 hnd j1 j2 j3 j4 true (n + 1) fun p hp => hh p (List.mem_cons_of_mem _ hp))
    · rw [liftS_map df T now n k nm m ar ps gs al bs pk h6 hl] at hh ⊢
      exact lf_map D' ok2 df T h6 h2 hnd j1 j2 j3 j4 now n hh
end
end Go.AL
/- Definitions and their supercombinators mean the same, as plain law. -/
set_option linter.unusedVariables false
set_option linter.unusedSimpArgs false
namespace Go.AL
def lookD : List (ByteArray × Cr) → Defs
 | [], _ => none
 | (nm, b) :: r, x => if nm = x then some b else lookD r x
theorem lookD_mem {x : ByteArray} {b : Cr} : ∀ {l : List (ByteArray × Cr)}, lookD l x = some b → (x, b) ∈ l
 | [], h => by cases h
 | (nm, c) :: r, h => by
  rw [lookD] at h
  by_cases e : nm = x
  · rw [if_pos e] at h; cases h; simp [e]
  · rw [if_neg e] at h; exact List.mem_cons_of_mem _ (lookD_mem h)
theorem lookD_none {x : ByteArray} : ∀ {l : List (ByteArray × Cr)}, lookD l x = none ↔ x ∉ l.map (·.1)
 | [] => by simp [lookD]
 | (nm, c) :: r => by
  rw [lookD]
  by_cases e : nm = x
  · simp [e]
  · rw [if_neg e, lookD_none]; simp [show ¬ x = nm from fun h => e h.symm]
theorem lookD_of {x : ByteArray} {b : Cr} : ∀ {l : List (ByteArray × Cr)}, (l.map (·.1)).Nodup → (x, b) ∈ l → lookD l x = some b
 | (nm, c) :: r, hn, h => by
  rw [List.map_cons, List.nodup_cons] at hn
  rw [lookD]
  rcases List.mem_cons.1 h with h | h
  · cases h; rw [if_pos rfl]
  · rw [if_neg, lookD_of hn.2 h]
    rintro rfl
    exact hn.1 (List.mem_map.2 ⟨(nm, b), h, rfl⟩)
/-- Which definitions may be. -/
def DefOK (ds : List (ByteArray × Cr)) (i : Nat) (d : ByteArray × Cr) : Prop := d.1.size ≠ 0 ∧ ¬ 0 < opS d.1 ∧ ¬ NumbP d.1 ∧ d.1 ∉ (ds.take i).map (·.1)
def DefsOK (ds : List (ByteArray × Cr)) : Prop := (∀ i d, ds[i]? = some d → DefOK ds i d) ∧ ∀ d, d ∈ ds → d.2.RtE (ds.map (·.1)) []
theorem DefsOK.nodup {ds : List (ByteArray × Cr)} (h : DefsOK ds) : (ds.map (·.1)).Nodup := by
 have : ∀ n, ((ds.take n).map (·.1)).Nodup := by
  intro n
  induction n with
  | zero => simp
  | succ n ih =>
   cases hd : ds[n]? with
   | none => rw [List.take_add_one, hd]; simpa using ih
   | some d =>
    rw [List.take_add_one, hd]
    simp only [Option.toList_some, List.map_append, List.map_cons, List.map_nil]
    rw [List.nodup_append]
    exact ⟨ih, by simp, fun a ha b hb e => by simp at hb; subst hb; subst e; exact (h.1 n d hd).2.2.2 ha⟩
 have := this ds.length
 rwa [List.take_of_length_le (Nat.le_refl _)] at this
theorem defOf_eq (p : Sup) : defOf p = (p.nm, lamOf p.ps p.bd) := by
 unfold defOf lamOf
 cases hp : p.ps with
 | nil => simp
 | cons a l => simp
theorem liftDef_names (d : ByteArray × Cr) : (liftDef d).map (·.nm) = d.1 :: (List.range' 0 (liftS d.1 textOf true 0 (defBody d.2).2).2.length).map (supName d.1 textOf) := by
 rw [liftDef, List.map_cons, liftS_names]
theorem liftAll_cons (d : ByteArray × Cr) (r : List (ByteArray × Cr)) : liftAll (d :: r) = liftDef d ++ liftAll r := by simp [liftAll]
theorem liftDef_mem {d : ByteArray × Cr} {x : ByteArray} (hb : d.2.bulk ≤ 10000000) (h : x ∈ (liftDef d).map (·.nm)) : x = d.1 ∨ ∃ k, k < 10000000 ∧ x = supName d.1 textOf k := by
 rw [liftDef_names] at h
 rcases List.mem_cons.1 h with h | h
 · exact .inl h
 · obtain ⟨k, hk, rfl⟩ := List.mem_map.1 h
   rw [List.mem_range'_1] at hk
   have h1 := liftS_len d.1 textOf (defBody d.2).2 true 0
   have h2 := defBody_bulk d.2
   exact .inr ⟨k, by omega, rfl⟩
theorem liftAll_mem {x : ByteArray} : ∀ {ds : List (ByteArray × Cr)}, (∀ d, d ∈ ds → d.2.bulk ≤ 10000000) → x ∈ (liftAll ds).map (·.nm) → ∃ d, d ∈ ds ∧ (x = d.1 ∨ ∃ k, k < 10000000 ∧ x = supName d.1 textOf k)
 | [], _, h => by simp [liftAll] at h
 | d :: r, hb, h => by
  rw [liftAll_cons, List.map_append] at h
  rcases List.mem_append.1 h with h | h
  · exact ⟨d, by simp, liftDef_mem (hb d (by simp)) h⟩
  · obtain ⟨e, he, hx⟩ := liftAll_mem (fun d hd => hb d (by simp [hd])) h
    exact ⟨e, by simp [he], hx⟩
theorem liftAll_nodup : ∀ {ds : List (ByteArray × Cr)}, (∀ d, d ∈ ds → d.2.bulk ≤ 10000000) → (∀ d, d ∈ ds → ¬ NumbP d.1) → (ds.map (·.1)).Nodup → ((liftAll ds).map (·.nm)).Nodup
 | [], _, _, _ => by simp [liftAll]
 | d :: r, hb, hn, hd => by
  rw [List.map_cons, List.nodup_cons] at hd
  rw [liftAll_cons, List.map_append, List.nodup_append]
  refine ⟨?_, liftAll_nodup (fun d hd => hb d (by simp [hd])) (fun d hd => hn d (by simp [hd])) hd.2, fun a ha b hb2 e => ?_⟩
  · rw [liftDef_names, List.nodup_cons]
    have h1 := liftS_len d.1 textOf (defBody d.2).2 true 0
    have h2 := defBody_bulk d.2
    have h3 := hb d (by simp)
    refine ⟨fun h => ?_, ?_⟩
    · obtain ⟨k, hk, he⟩ := List.mem_map.1 h
      rw [List.mem_range'_1] at hk
      exact hn d (by simp) (he ▸ supName_numb d.1 k (by omega))
    · rw [List.nodup_iff_pairwise_ne, List.pairwise_map]
      refine (List.nodup_iff_pairwise_ne.1 List.nodup_range').imp_of_mem fun {a b} ha hb hne e => hne ?_
      rw [List.mem_range'_1] at ha hb
      exact (supName_inj (by omega) (by omega) e).2
  · subst e
    rcases liftDef_mem (hb d (by simp)) ha with h1 | ⟨k, hk, h1⟩
    · obtain ⟨e, he, h2 | ⟨j, hj, h2⟩⟩ := liftAll_mem (fun d hd => hb d (by simp [hd])) hb2
      · exact hd.1 (List.mem_map.2 ⟨e, he, by rw [← h2, h1]⟩)
      · exact hn d (by simp) (by rw [← h1, h2]; exact supName_numb _ _ (by omega))
    · obtain ⟨e, he, h2 | ⟨j, hj, h2⟩⟩ := liftAll_mem (fun d hd => hb d (by simp [hd])) hb2
      · exact hn e (by simp [he]) (by rw [← h2, h1]; exact supName_numb _ _ (by omega))
      · have := (supName_inj (by omega) (by omega) (h1.symm.trans h2)).1
        exact hd.1 (List.mem_map.2 ⟨e, he, this.symm⟩)
theorem opFrom_pos (s : ByteArray) : ∀ f i : Nat, 0 < opFrom s f i → ∃ j : Nat, i ≤ j ∧ j < i + f ∧ nameS j = s
 | 0, i, h => by rw [opFrom] at h; omega
 | f + 1, i, h => by
  rw [opFrom] at h
  split at h
  · rename_i he; exact ⟨i, by omega, by omega, he⟩
  · obtain ⟨j, h1, h2, h3⟩ := opFrom_pos s f (i + 1) h
    exact ⟨j, by omega, by omega, h3⟩
theorem numb_op {s : ByteArray} (h : NumbP s) : ¬ 0 < opS s := by
 intro hp
 unfold opS at hp
 split at hp
 · omega
 · obtain ⟨j, h1, h2, rfl⟩ := opFrom_pos s 11 1 hp
   obtain ⟨p, t, hb, _⟩ := h
   have hm : (35 : UInt8) ∈ bl (nameS j) := by rw [hb]; simp
   have : j = 1 ∨ j = 2 ∨ j = 3 ∨ j = 4 ∨ j = 5 ∨ j = 6 ∨ j = 7 ∨ j = 8 ∨ j = 9 ∨ j = 10 ∨ j = 11 := by omega
   rcases this with rfl | rfl | rfl | rfl | rfl | rfl | rfl | rfl | rfl | rfl | rfl <;> revert hm <;> decide
section
variable {ds : List (ByteArray × Cr)}
abbrev DD (ds : List (ByteArray × Cr)) : Defs := lookD ds
noncomputable abbrev DD' (ds : List (ByteArray × Cr)) : Defs := lookD ((liftAll ds).map defOf)
def OK2 (ds : List (ByteArray × Cr)) (nm : ByteArray) : Prop := DD ds nm = none → DD' ds nm = none
theorem names_defs (l : List Sup) : (l.map defOf).map (·.1) = l.map (·.nm) := by rw [List.map_map]; rfl
theorem has_all (h : DefsOK ds) (hb : ∀ d, d ∈ ds → d.2.bulk ≤ 10000000) : Has' (DD' ds) (liftAll ds) := fun p hp => by
 refine lookD_of ?_ ?_
 · rw [names_defs]
   exact liftAll_nodup hb (fun d hd => by obtain ⟨i, hi⟩ := List.mem_iff_getElem?.1 hd; exact (h.1 i d hi).2.2.1) h.nodup
 · rw [← defOf_eq]; exact List.mem_map.2 ⟨p, hp, rfl⟩
theorem ok2_of (h : DefsOK ds) (hb : ∀ d, d ∈ ds → d.2.bulk ≤ 10000000) (nm : ByteArray) (hn : nm ∈ ds.map (·.1) ∨ 0 < opS nm) : OK2 ds nm := by
 intro h0
 rcases hn with hn | hn
 · exact absurd hn (lookD_none.1 h0)
 · rw [lookD_none, names_defs]
   intro hm
   obtain ⟨d, hd, rfl | ⟨k, hk, rfl⟩⟩ := liftAll_mem hb hm
   · obtain ⟨i, hi⟩ := List.mem_iff_getElem?.1 hd
     exact (h.1 i d hi).2.1 hn
   · exact numb_op (supName_numb d.1 k (by omega)) hn
theorem defsR (h : DefsOK ds) (hb : ∀ d, d ∈ ds → d.2.bulk ≤ 10000000) : DefsR (DD ds) (DD' ds) (OK2 ds) := by
 refine ⟨fun nm b hd => ?_, fun nm h => h⟩
 have hm := lookD_mem hd
 have hA := has_all h hb
 have hs : ∀ p, p ∈ liftDef (nm, b) → p ∈ liftAll ds := fun p hp => by
  unfold liftAll
  exact List.mem_flatten.2 ⟨_, List.mem_map.2 ⟨_, hm, rfl⟩, hp⟩
 have hhd := hA ⟨nm, (defBody b).1, (liftS nm textOf true 0 (defBody b).2).1⟩ (hs _ (by rw [liftDef]; exact List.mem_cons_self))
 have htl : Has' (DD' ds) (liftS nm textOf true 0 (defBody b).2).2 := fun p hp => hA p (hs p (by rw [liftDef]; exact List.mem_cons_of_mem _ hp))
 refine ⟨_, hhd, ?_⟩
 have hr := h.2 _ hm
 obtain ⟨k, nm1, m, ar, ps, gs, al, bs, pk⟩ := b
 have hnd := nd_of hr
 by_cases h6 : k = 6
 · subst h6
   left
   obtain ⟨⟨_, _, _, h1⟩, _, h3, _⟩ := hnd
   obtain ⟨x, rfl⟩ := h1 (.inl rfl)
   have hx := (rtE_iff.1 hr).g1 x (by simp)
   simp only [defBody, reduceIte, List.headD_cons] at htl ⊢
   exact ⟨nm1, m, ar, ps, x, al, bs, pk, _, h3 rfl, rfl, rfl, lf_of (DD' ds) (OK2 ds) nm textOf (ok2_of h hb) x _ hx true 0 htl⟩
 · right
   simp only [defBody, if_neg h6] at htl ⊢
   exact lf_of (DD' ds) (OK2 ds) nm textOf (ok2_of h hb) _ _ hr true 0 htl
end
section
variable (D D' : Defs) (sel : Int) (F : Int → Int → Int → Int × Int) (ok2 : ByteArray → Prop)
theorem tell_sim (hS : ∀ n, Sim D D' sel F ok2 n) : ∀ n, (∀ v v', VR D' ok2 v v' → ∀ o', tell D' sel F n v' = some o' → ∀ m o, tell D sel F m v = some o → o = o') ∧
 (∀ l l', F2 (TR D' ok2) l l' → ∀ o', tells D' sel F n l' = some o' → ∀ m o, tells D sel F m l = some o → o = o')
 | 0 => ⟨fun v v' _ o' h => (by rw [tell] at h; cases h), fun v v' _ o' h => (by rw [tells] at h; cases h)⟩
 | n + 1 => by
  have ih := tell_sim hS n
  refine ⟨fun v v' hv o' ho' m o ho => ?_, fun l l' hl o' ho' m o ho => ?_⟩
  · cases m with
    | zero => rw [tell] at ho; cases ho
    | succ m =>
    cases hv with
    | whole q => rw [tell] at ho ho'; cases ho; cases ho'; rfl
    | maker con need h => rw [tell] at ho ho'; cases ho; cases ho'; rfl
    | prim q h => rw [tell] at ho ho'; cases ho; cases ho'; rfl
    | lam h1 h2 h3 h4 h5 => rw [tell] at ho ho'; cases ho; cases ho'; rfl
    | made con h =>
     rename_i args args'
     rw [tell] at ho ho'
     cases h1 : tells D sel F m args with
     | none => rw [h1] at ho; cases ho
     | some q =>
      cases h2 : tells D' sel F n args' with
      | none => rw [h2] at ho'; cases ho'
      | some q' =>
       have := ih.2 _ _ h q' h2 m q h1
       subst this
       rw [h1] at ho; rw [h2] at ho'
       rw [ho] at ho'
       cases ho'; rfl
  · cases m with
    | zero => rw [tells] at ho; cases ho
    | succ m =>
    cases hl with
    | nil => rw [tells] at ho ho'; cases ho; cases ho'; rfl
    | cons h t =>
     rename_i x y l l'
     rw [tells] at ho ho'
     cases h1 : run D sel F m (.core x.1 x.2) with
     | none => rw [h1] at ho; cases ho
     | some q =>
      cases h2 : run D' sel F n (.core y.1 y.2) with
      | none => rw [h2] at ho'; cases ho'
      | some q' =>
       rw [h1] at ho; rw [h2] at ho'
       cases (hS n).core x y h q' h2 m q h1 with
       | bad k => cases ho; cases ho'; rfl
       | ok hv =>
        rename_i v v'
        simp only at ho ho'
        cases h3 : tell D sel F m v with
        | none => rw [h3] at ho; cases ho
        | some w =>
         cases h4 : tell D' sel F n v' with
         | none => rw [h4] at ho'; cases ho'
         | some w' =>
          have := ih.1 _ _ hv w' h4 m w h3
          subst this
          rw [h3] at ho; rw [h4] at ho'
          cases w with
          | bad k => cases ho; cases ho'; rfl
          | ok x =>
           simp only at ho ho'
           cases h5 : tells D sel F m l with
           | none => rw [h5] at ho; cases ho
           | some z =>
            cases h6 : tells D' sel F n l' with
            | none => rw [h6] at ho'; cases ho'
            | some z' =>
             have := ih.2 _ _ t z' h6 m z h5
             subst this
             rw [h5] at ho; rw [h6] at ho'
             rw [ho] at ho'
             cases ho'; rfl
end
/-- Definitions mean what their supercombinators do. -/
theorem lift_means {ds : List (ByteArray × Cr)} (h : DefsOK ds) (hb : ∀ d, d ∈ ds → d.2.bulk ≤ 10000000) (sel : Int) (F : Int → Int → Int → Int × Int) {nm : ByteArray} (hn : nm ∈ ds.map (·.1)) {n m : Nat} {o o' : Out2}
 (ho : outc (DD ds) sel F n (.glob nm) = some o) (ho' : outc (DD' ds) sel F m (.glob nm) = some o') : o = o' := by
 have hS := sim (D := DD ds) (D' := DD' ds) sel F (OK2 ds) (defsR h hb)
 have hT : TR (DD' ds) (OK2 ds) (Cr.glob nm, .nil) (Cr.glob nm, .nil) := by
  refine TR.of _ _ ?_ (fun x hx s hs => by simp [Env.look] at hs)
  exact .cong (by decide) (fun _ => ok2_of h hb nm (.inl hn)) ⟨⟨by omega, by omega, by omega, by omega⟩, fun _ => rfl, by omega, by simp⟩ .nil .nil .nil .nil
 unfold outc at ho ho'
 cases h1 : run (DD ds) sel F n (.core (.glob nm) .nil) with
 | none => rw [h1] at ho; cases ho
 | some q =>
  cases h2 : run (DD' ds) sel F m (.core (.glob nm) .nil) with
  | none => rw [h2] at ho'; cases ho'
  | some q' =>
   rw [h1] at ho; rw [h2] at ho'
   cases (hS m).core _ _ hT q' h2 n q h1 with
   | bad k => cases ho; cases ho'; rfl
   | ok hv => exact (tell_sim _ _ sel F _ hS m).1 _ _ hv o' ho' n o ho
end Go.AL
/- The resolved code of some functions. -/
set_option linter.unusedVariables false
namespace Go.Proofs.Ytjjbjibbjbbeaaa
open Go.AL
/-- changeling/changelinglaw15.LiftPicks -/
def c4 : ACode :=
(.seq
 (.reg [oo 4 (.new 54 (.t 1)),
 oo 6 (.move (.c (.bool false)))])
 (.seq
 (.seq
 (.reg [mv 16 0,
 oo 17 (.call 16 [(.t 16)]),
 oo 18 (.not (.t 17)),
 mv 19 18,
 og 20 19 false (.load (some 9) (.t 4)),
 og 21 19 false (.call 17 [(.t 20)]),
 og 22 19 false (.bin .int .gtr (.t 21) (.c (.int .i64 500))),
 oo 23 (.pick (.t 19) (.c (.bool true)) (.t 22))])
 (.cond (.t 23)
 (.seq
 (.reg [oo 24 (.call 18 []),
 mv 6 24])
 .ret)
 .skip))
 (.seq
 (.reg [oo 7 (.move (.c .nils))])
 (.seq
 (.seq
 (.reg [oo 8 (.move (.c (.int .i64 0)))])
 (.block 0
 (.loop
 (.seq
 (.seq
 (.reg [mv 25 8,
 mv 26 0,
 oo 27 (.len .slice (.t 26)),
 oo 28 (.bin .int .lss (.t 25) (.t 27))])
 (.cond (.t 28)
 .skip
 (.exit 0)))
 (.seq
 (.block 1
 (.reg [mv 31 7,
 mv 32 0,
 mv 33 8,
 oo 34 (.iaddr 10 (.t 32) (.t 33)),
 oo 35 (.load (some 10) (.t 34)),
 oo 36 (.lit false 58 10 [(.t 35)]),
 oo 37 (.append 58 10 176 (.t 31) (.t 36)),
 mv 7 37]))
 (.reg [mv 29 8,
 oo 30 (.bin .int .add (.t 29) (.c (.int .i64 1))),
 mv 8 30]))))))
 (.seq
 (.reg [mv 38 7,
 oo 39 (.load (some 9) (.t 4)),
 oo 40 (.build [(.str ⟨#[]⟩), (.int .i64 0), (.str ⟨#[]⟩), (.int .i64 0), (.int .i64 0), .nils, .nils, .nils, .nils, .nils] [(0, 1, (.c (.str ⟨#[109, 97, 105, 110, 39]⟩))), (1, 9, (.t 39))]),
 oo 41 (.lit false 58 10 [(.t 40)]),
 oo 42 (.append 58 10 176 (.t 38) (.t 41)),
 mv 7 42])
 (.seq
 (.reg [mv 44 7,
 oo 45 (.call 19 [(.t 44)]),
 mv 43 45,
 oo 46 (.extract (.t 43) 0),
 oo 47 (.extract (.t 43) 1),
 mv 9 46,
 mv 10 47])
 (.seq
 (.seq
 (.reg [mv 48 10,
 oo 49 (.bin .int .neq (.t 48) (.c (.int .i64 0)))])
 (.cond (.t 49)
 (.seq
 (.reg [mv 50 7,
 oo 51 (.call 20 [(.t 50)]),
 oo 52 (.not (.t 51)),
 mv 53 52,
 og 54 53 true (.call 18 []),
 oo 55 (.pick (.t 53) (.t 54) (.c (.bool false))),
 mv 6 55])
 .ret)
 .skip))
 (.seq
 (.reg [oo 56 (.build [(.int .i64 0), (.str ⟨#[]⟩), (.int .i64 0), (.int .i64 0), .nils, .nils, .nils, .nils, .nils] [(0, 1, (.c (.int .i64 2))), (1, 1, (.c (.str ⟨#[109, 97, 105, 110, 39]⟩)))]),
 oo 11 (.new 54 (.c (.agg [(.int .i64 0), (.str ⟨#[]⟩), (.int .i64 0), (.int .i64 0), .nils, .nils, .nils, .nils, .nils]))),
 ⟨none, .store 9 (.t 11) (.t 56), none⟩])
 (.seq
 (.reg [mv 58 7,
 oo 59 (.load (some 9) (.t 11)),
 mv 60 2,
 oo 61 (.call 21 [(.t 58), (.t 59), (.t 60), (.c (.int .i64 8000))]),
 mv 57 61,
 oo 62 (.extract (.t 57) 0),
 oo 63 (.extract (.t 57) 1),
 oo 12 (.new 63 (.c (.agg [(.int .i64 0), (.str ⟨#[]⟩), (.int .i64 0), .nils, (.int .i64 0)]))),
 ⟨none, .store 5 (.t 12) (.t 62), none⟩,
 mv 13 63])
 (.seq
 (.draw [14] [([⟨(some 65), .move (.t 9), none⟩], []),
 ([⟨(some 67), .load (some 9) (.t 11), none⟩], []),
 ([⟨(some 68), .move (.t 2), none⟩], []),
 ([⟨(some 66), .call 22 [(.t 65)], none⟩], [⟨(some 67), .load (some 9) (.t 11), none⟩]),
 ([⟨(some 69), .call 21 [(.t 66), (.t 67), (.t 68), (.c (.int .i64 32000))], none⟩], []),
 ([⟨(some 64), .move (.t 69), none⟩], []),
 ([⟨(some 70), .extract (.t 64) 0, none⟩], []),
 ([⟨(some 71), .extract (.t 64) 1, none⟩], []),
 ([⟨(some 14), .new 63 (.c (.agg [(.int .i64 0), (.str ⟨#[]⟩), (.int .i64 0), .nils, (.int .i64 0)])), none⟩, ⟨none, .store 5 (.t 14) (.t 70), none⟩], []),
 ([⟨(some 15), .move (.t 71), none⟩], [])])
 (.seq
 (.reg [mv 72 13,
 oo 73 (.not (.t 72)),
 mv 74 73,
 og 75 74 false (.move (.t 15)),
 og 76 74 false (.not (.t 75)),
 oo 77 (.pick (.t 74) (.c (.bool true)) (.t 76)),
 mv 78 77,
 og 79 78 false (.load (some 5) (.t 12)),
 og 80 78 false (.load (some 5) (.t 14)),
 og 81 78 false (.call 23 [(.t 79), (.t 80)]),
 oo 82 (.pick (.t 78) (.c (.bool true)) (.t 81)),
 mv 83 82,
 og 84 83 true (.call 18 []),
 oo 85 (.pick (.t 83) (.t 84) (.c (.bool false))),
 mv 6 85])
 .ret)))))))))))
theorem in4 {args : List AV} {σ : Store} {K : AV → Store → Prop} (hargs : args.length ≤ 86 := by simp) (h : AWP Try.prog Try.f4.ntmps c4 (fun e t s => match e with | .exit _ => False | _ => Res [.slot 6] K t s) (env (argList 0 args)) σ) : ACalls Try.prog 4 args σ K :=
 enter (own := []) Try.func4 (by kernel_rfl) (by kernel_rfl) (by kernel_rfl) hargs h
/-- changeling/changelingref15.Right -/
def c20 : ACode :=
(.seq
 (.reg [oo 2 (.move (.c (.bool false)))])
 (.seq
 (.reg [mv 6 0,
 oo 7 (.call 49 [(.t 6)]),
 mv 3 7])
 (.seq
 (.seq
 (.reg [oo 4 (.move (.c (.int .i64 0)))])
 (.block 0
 (.loop
 (.seq
 (.seq
 (.reg [mv 8 4,
 mv 9 0,
 oo 10 (.len .slice (.t 9)),
 oo 11 (.bin .int .lss (.t 8) (.t 10))])
 (.cond (.t 11)
 .skip
 (.exit 0)))
 (.seq
 (.block 1
 (.seq
 (.reg [mv 14 0,
 mv 15 4,
 oo 16 (.iaddr 10 (.t 14) (.t 15)),
 oo 17 (.faddr 0 (.t 16)),
 oo 18 (.load none (.t 17)),
 mv 5 18])
 (.seq
 (.reg [mv 19 5,
 oo 20 (.bin .str .eql (.t 19) (.c (.str ⟨#[]⟩))),
 mv 21 20,
 og 22 21 false (.move (.t 5)),
 og 23 21 false (.call 50 [(.t 22)]),
 og 24 21 false (.bin .int .gtr (.t 23) (.c (.int .i64 0))),
 oo 25 (.pick (.t 21) (.c (.bool true)) (.t 24)),
 mv 26 25,
 og 27 26 false (.move (.t 5)),
 og 28 26 false (.call 51 [(.t 27)]),
 oo 29 (.pick (.t 26) (.c (.bool true)) (.t 28)),
 mv 30 29,
 og 31 30 false (.move (.t 3)),
 og 32 30 false (.move (.t 4)),
 og 33 30 false (.cut .slice 1 (.t 31) none (some (.t 32))),
 og 34 30 false (.move (.t 5)),
 og 35 30 false (.call 52 [(.t 33), (.t 34)]),
 oo 36 (.pick (.t 30) (.c (.bool true)) (.t 35)),
 mv 37 36,
 og 38 37 false (.move (.t 0)),
 og 39 37 false (.move (.t 4)),
 og 40 37 false (.iaddr 10 (.t 38) (.t 39)),
 og 41 37 false (.faddr 1 (.t 40)),
 og 42 37 false (.load (some 9) (.t 41)),
 og 43 37 false (.move (.t 3)),
 og 44 37 false (.lit false 9 1 []),
 og 45 37 false (.call 53 [(.t 42), (.t 43), (.t 44)]),
 og 46 37 false (.not (.t 45)),
 oo 47 (.pick (.t 37) (.c (.bool true)) (.t 46))])
 (.cond (.t 47)
 (.seq
 (.reg [oo 2 (.move (.c (.bool false)))])
 .ret)
 .skip))))
 (.reg [mv 12 4,
 oo 13 (.bin .int .add (.t 12) (.c (.int .i64 1))),
 mv 4 13]))))))
 (.seq
 (.reg [oo 2 (.move (.c (.bool true)))])
 .ret))))
theorem in20 {args : List AV} {σ : Store} {K : AV → Store → Prop} (hargs : args.length ≤ 48 := by simp) (h : AWP Try.prog Try.f20.ntmps c20 (fun e t s => match e with | .exit _ => False | _ => Res [.slot 2] K t s) (env (argList 0 args)) σ) : ACalls Try.prog 20 args σ K :=
 enter (own := []) Try.func20 (by kernel_rfl) (by kernel_rfl) (by kernel_rfl) hargs h
/-- changeling/changelingref14.DefNames -/
def c49 : ACode :=
(.seq
 (.reg [oo 2 (.move (.c .nils))])
 (.seq
 (.reg [oo 3 (.move (.c .nils))])
 (.seq
 (.seq
 (.reg [oo 4 (.move (.c (.int .i64 0)))])
 (.block 0
 (.loop
 (.seq
 (.seq
 (.reg [mv 5 4,
 mv 6 0,
 oo 7 (.len .slice (.t 6)),
 oo 8 (.bin .int .lss (.t 5) (.t 7))])
 (.cond (.t 8)
 .skip
 (.exit 0)))
 (.seq
 (.block 1
 (.reg [mv 11 3,
 mv 12 0,
 mv 13 4,
 oo 14 (.iaddr 10 (.t 12) (.t 13)),
 oo 15 (.faddr 0 (.t 14)),
 oo 16 (.load none (.t 15)),
 oo 17 (.lit false 9 1 [(.t 16)]),
 oo 18 (.append 9 1 16 (.t 11) (.t 17)),
 mv 3 18]))
 (.reg [mv 9 4,
 oo 10 (.bin .int .add (.t 9) (.c (.int .i64 1))),
 mv 4 10]))))))
 (.seq
 (.reg [mv 19 3,
 mv 2 19])
 .ret))))
theorem in49 {args : List AV} {σ : Store} {K : AV → Store → Prop} (hargs : args.length ≤ 20 := by simp) (h : AWP Try.prog Try.f49.ntmps c49 (fun e t s => match e with | .exit _ => False | _ => Res [.slot 2] K t s) (env (argList 0 args)) σ) : ACalls Try.prog 49 args σ K :=
 enter (own := []) Try.func49 (by kernel_rfl) (by kernel_rfl) (by kernel_rfl) hargs h
/-- changeling/changelingref15.Numbered -/
def c51 : ACode :=
(.seq
 (.reg [oo 2 (.move (.c (.bool false)))])
 (.seq
 (.reg [oo 3 (.move (.c (.int .i64 (-1))))])
 (.seq
 (.seq
 (.reg [oo 4 (.move (.c (.int .i64 0)))])
 (.block 0
 (.loop
 (.seq
 (.seq
 (.reg [mv 7 4,
 mv 8 0,
 oo 9 (.len .str (.t 8)),
 oo 10 (.bin .int .lss (.t 7) (.t 9))])
 (.cond (.t 10)
 .skip
 (.exit 0)))
 (.seq
 (.block 1
 (.seq
 (.reg [mv 13 0,
 mv 14 4,
 oo 15 (.index (.t 13) (.t 14)),
 oo 16 (.bin .int .eql (.t 15) (.c (.int .u8 35)))])
 (.cond (.t 16)
 (.reg [mv 17 4,
 mv 3 17])
 .skip)))
 (.reg [mv 11 4,
 oo 12 (.bin .int .add (.t 11) (.c (.int .i64 1))),
 mv 4 12]))))))
 (.seq
 (.seq
 (.reg [mv 18 3,
 oo 19 (.bin .int .lss (.t 18) (.c (.int .i64 0)))])
 (.cond (.t 19)
 (.seq
 (.reg [oo 2 (.move (.c (.bool false)))])
 .ret)
 .skip))
 (.seq
 (.reg [mv 21 0,
 mv 22 3,
 oo 23 (.bin .int .add (.t 22) (.c (.int .i64 1))),
 oo 24 (.cut .str 1 (.t 21) (some (.t 23)) none),
 oo 25 (.call 91 [(.t 24)]),
 mv 20 25,
 oo 26 (.extract (.t 20) 0),
 oo 27 (.extract (.t 20) 1),
 mv 5 26,
 mv 6 27])
 (.seq
 (.reg [mv 28 6,
 oo 29 (.bin .int .eql (.t 28) (.c (.int .i64 0))),
 mv 2 29])
 .ret))))))
theorem in51 {args : List AV} {σ : Store} {K : AV → Store → Prop} (hargs : args.length ≤ 30 := by simp) (h : AWP Try.prog Try.f51.ntmps c51 (fun e t s => match e with | .exit _ => False | _ => Res [.slot 2] K t s) (env (argList 0 args)) σ) : ACalls Try.prog 51 args σ K :=
 enter (own := []) Try.func51 (by kernel_rfl) (by kernel_rfl) (by kernel_rfl) hargs h
/-- changeling/changelingref14.RunCore -/
def c21 : ACode :=
(.seq
 (.reg [oo 5 (.new 54 (.t 1)),
 oo 8 (.new 63 (.c (.agg [(.int .i64 0), (.str ⟨#[]⟩), (.int .i64 0), .nils, (.int .i64 0)]))),
 oo 9 (.move (.c (.bool false)))])
 (.seq
 (.reg [mv 14 0,
 mv 15 2,
 mv 16 3,
 oo 17 (.build [.nils, (.int .i64 0), (.int .i64 0), (.int .i64 0), (.int .i64 0)] [(0, 1, (.t 14)), (1, 1, (.t 15)), (3, 1, (.t 16))]),
 oo 10 (.new 128 (.c (.agg [.nils, (.int .i64 0), (.int .i64 0), (.int .i64 0), (.int .i64 0)]))),
 ⟨none, .store 5 (.t 10) (.t 17), none⟩])
 (.seq
 (.reg [oo 19 (.load (some 9) (.t 5)),
 oo 20 (.lit false 213 22 []),
 oo 21 (.call 54 [(.t 10), (.t 19), (.t 20)]),
 mv 18 21,
 oo 22 (.extract (.t 18) 0),
 oo 23 (.extract (.t 18) 1),
 oo 11 (.new 132 (.c (.agg [(.int .i64 0), (.int .i64 0), (.str ⟨#[]⟩), (.int .i64 0), .nils, (.int .i64 0), (.str ⟨#[]⟩), (.int .i64 0), (.int .i64 0), .nils, .nils, .nils, .nils, .nils, .nils]))),
 ⟨none, .store 15 (.t 11) (.t 22), none⟩,
 mv 12 23])
 (.seq
 (.reg [oo 24 (.build [(.str ⟨#[]⟩), (.int .i64 0), .nils] []),
 oo 13 (.new 43 (.c (.agg [(.str ⟨#[]⟩), (.int .i64 0), .nils]))),
 ⟨none, .store 3 (.t 13) (.t 24), none⟩])
 (.seq
 (.seq
 (.reg [mv 25 12])
 (.cond (.t 25)
 (.reg [oo 27 (.load (some 15) (.t 11)),
 oo 28 (.call 55 [(.t 10), (.t 27)]),
 mv 26 28,
 oo 29 (.extract (.t 26) 0),
 oo 30 (.extract (.t 26) 1),
 ⟨none, .store 3 (.t 13) (.t 29), none⟩,
 mv 12 30])
 .skip))
 (.seq
 (.seq
 (.reg [oo 31 (.faddr 4 (.t 10)),
 oo 32 (.load none (.t 31)),
 oo 33 (.bin .int .lss (.t 32) (.c (.int .i64 0)))])
 (.cond (.t 33)
 (.seq
 (.reg [oo 34 (.faddr 2 (.t 10)),
 oo 35 (.load none (.t 34)),
 oo 36 (.build [(.int .i64 0), (.str ⟨#[]⟩), (.int .i64 0), .nils, (.int .i64 0)] [(4, 1, (.t 35))]),
 ⟨none, .store 5 (.t 8) (.t 36), none⟩,
 oo 9 (.move (.c (.bool false)))])
 .ret)
 .skip))
 (.seq
 (.seq
 (.reg [mv 37 12,
 oo 38 (.not (.t 37))])
 (.cond (.t 38)
 (.seq
 (.reg [oo 39 (.faddr 4 (.t 10)),
 oo 40 (.load none (.t 39)),
 oo 41 (.faddr 2 (.t 10)),
 oo 42 (.load none (.t 41)),
 oo 43 (.build [(.int .i64 0), (.str ⟨#[]⟩), (.int .i64 0), .nils, (.int .i64 0)] [(0, 1, (.t 40)), (4, 1, (.t 42))]),
 ⟨none, .store 5 (.t 8) (.t 43), none⟩,
 oo 9 (.move (.c (.bool true)))])
 .ret)
 .skip))
 (.seq
 (.reg [oo 44 (.load (some 3) (.t 13)),
 oo 45 (.faddr 2 (.t 10)),
 oo 46 (.load none (.t 45)),
 oo 47 (.build [(.int .i64 0), (.str ⟨#[]⟩), (.int .i64 0), .nils, (.int .i64 0)] [(0, 1, (.c (.int .i64 1))), (1, 3, (.t 44)), (4, 1, (.t 46))]),
 ⟨none, .store 5 (.t 8) (.t 47), none⟩,
 oo 9 (.move (.c (.bool true)))])
 .ret))))))))
theorem in21 {args : List AV} {σ : Store} {K : AV → Store → Prop} (hargs : args.length ≤ 48 := by simp) (h : AWP Try.prog Try.f21.ntmps c21 (fun e t s => match e with | .exit _ => False | _ => Res [.cell 8 (some 5), .slot 9] K t s) (env (argList 0 args)) σ) : ACalls Try.prog 21 args σ K :=
 enter (own := []) Try.func21 (by kernel_rfl) (by kernel_rfl) (by kernel_rfl) hargs h
/-- (*changeling/changelingref14.CMachine).core -/
def c54 : ACode :=
(.seq
 (.reg [oo 4 (.new 54 (.t 1)),
 oo 6 (.new 132 (.c (.agg [(.int .i64 0), (.int .i64 0), (.str ⟨#[]⟩), (.int .i64 0), .nils, (.int .i64 0), (.str ⟨#[]⟩), (.int .i64 0), (.int .i64 0), .nils, .nils, .nils, .nils, .nils, .nils]))),
 oo 7 (.move (.c (.bool false)))])
 (.seq
 (.seq
 (.reg [mv 15 0,
 oo 16 (.call 98 [(.t 15)]),
 oo 17 (.not (.t 16))])
 (.cond (.t 17)
 (.seq
 (.reg [oo 18 (.build [(.int .i64 0), (.int .i64 0), (.str ⟨#[]⟩), (.int .i64 0), .nils, (.int .i64 0), (.str ⟨#[]⟩), (.int .i64 0), (.int .i64 0), .nils, .nils, .nils, .nils, .nils, .nils] []),
 ⟨none, .store 15 (.t 6) (.t 18), none⟩,
 oo 7 (.move (.c (.bool false)))])
 .ret)
 .skip))
 (.seq
 (.seq
 (.reg [oo 19 (.faddr 0 (.t 4)),
 oo 20 (.load none (.t 19))])
 (.block 0
 (.seq
 (.reg [oo 22 (.bin .int .eql (.t 20) (.c (.int .i64 1))),
 mv 21 22])
 (.cond (.t 21)
 (.seq
 (.seq
 (.reg [mv 23 2,
 oo 24 (.len .slice (.t 23)),
 oo 25 (.bin .int .sub (.t 24) (.c (.int .i64 1))),
 mv 8 25])
 (.block 1
 (.loop
 (.seq
 (.seq
 (.reg [mv 26 8,
 oo 27 (.bin .int .geq (.t 26) (.c (.int .i64 0)))])
 (.cond (.t 27)
 .skip
 (.exit 1)))
 (.seq
 (.block 2
 (.seq
 (.seq
 (.reg [mv 30 2,
 mv 31 8,
 oo 32 (.iaddr 22 (.t 30) (.t 31)),
 oo 33 (.faddr 0 (.t 32)),
 oo 34 (.load none (.t 33)),
 oo 35 (.faddr 1 (.t 4)),
 oo 36 (.load none (.t 35)),
 oo 37 (.bin .str .eql (.t 34) (.t 36)),
 mv 38 37,
 og 39 38 true (.move (.t 2)),
 og 40 38 true (.move (.t 8)),
 og 41 38 true (.iaddr 22 (.t 39) (.t 40)),
 og 42 38 true (.faddr 11 (.t 41)),
 og 43 38 true (.load none (.t 42)),
 oo 44 (.pick (.t 38) (.t 43) (.c (.bool false)))])
 (.cond (.t 44)
 (.seq
 (.reg [mv 45 0,
 mv 46 2,
 mv 47 8,
 oo 48 (.iaddr 22 (.t 46) (.t 47)),
 oo 49 (.faddr 12 (.t 48)),
 oo 50 (.load (some 9) (.t 49)),
 mv 51 2,
 mv 52 2,
 mv 53 8,
 oo 54 (.iaddr 22 (.t 52) (.t 53)),
 oo 55 (.faddr 21 (.t 54)),
 oo 56 (.load none (.t 55)),
 oo 57 (.cut .slice 22 (.t 51) none (some (.t 56))),
 oo 58 (.call 54 [(.t 45), (.t 50), (.t 57)]),
 oo 59 (.extract (.t 58) 0),
 oo 60 (.extract (.t 58) 1),
 ⟨none, .store 15 (.t 6) (.t 59), none⟩,
 mv 7 60])
 .ret)
 .skip))
 (.seq
 (.reg [mv 61 2,
 mv 62 8,
 oo 63 (.iaddr 22 (.t 61) (.t 62)),
 oo 64 (.faddr 0 (.t 63)),
 oo 65 (.load none (.t 64)),
 oo 66 (.faddr 1 (.t 4)),
 oo 67 (.load none (.t 66)),
 oo 68 (.bin .str .eql (.t 65) (.t 67))])
 (.cond (.t 68)
 (.seq
 (.reg [mv 69 0,
 mv 70 2,
 mv 71 8,
 oo 72 (.iaddr 22 (.t 70) (.t 71)),
 oo 73 (.faddr 1 (.t 72)),
 oo 74 (.load (some 10) (.t 73)),
 oo 75 (.call 99 [(.t 69), (.t 74)]),
 oo 76 (.extract (.t 75) 0),
 oo 77 (.extract (.t 75) 1),
 ⟨none, .store 15 (.t 6) (.t 76), none⟩,
 mv 7 77])
 .ret)
 .skip))))
 (.reg [mv 28 8,
 oo 29 (.bin .int .sub (.t 28) (.c (.int .i64 1))),
 mv 8 29]))))))
 (.seq
 (.reg [mv 78 0,
 oo 79 (.call 100 [(.t 78), (.c (.int .i64 (-2)))]),
 oo 80 (.extract (.t 79) 0),
 oo 81 (.extract (.t 79) 1),
 ⟨none, .store 15 (.t 6) (.t 80), none⟩,
 mv 7 81])
 .ret))
 (.seq
 (.reg [oo 83 (.bin .int .eql (.t 20) (.c (.int .i64 2))),
 mv 82 83])
 (.cond (.t 82)
 (.seq
 (.seq
 (.reg [oo 9 (.move (.c (.int .i64 0)))])
 (.block 3
 (.loop
 (.seq
 (.seq
 (.reg [mv 84 9,
 mv 85 0,
 oo 86 (.nilck (.t 85)),
 oo 87 (.faddr 0 (.t 86)),
 oo 88 (.load none (.t 87)),
 oo 89 (.len .slice (.t 88)),
 oo 90 (.bin .int .lss (.t 84) (.t 89))])
 (.cond (.t 90)
 .skip
 (.exit 3)))
 (.seq
 (.block 4
 (.seq
 (.reg [mv 93 0,
 oo 94 (.nilck (.t 93)),
 oo 95 (.faddr 0 (.t 94)),
 oo 96 (.load none (.t 95)),
 mv 97 9,
 oo 98 (.iaddr 10 (.t 96) (.t 97)),
 oo 99 (.faddr 0 (.t 98)),
 oo 100 (.load none (.t 99)),
 oo 101 (.faddr 1 (.t 4)),
 oo 102 (.load none (.t 101)),
 oo 103 (.bin .str .eql (.t 100) (.t 102))])
 (.cond (.t 103)
 (.seq
 (.reg [mv 104 0,
 mv 105 0,
 oo 106 (.nilck (.t 105)),
 oo 107 (.faddr 0 (.t 106)),
 oo 108 (.load none (.t 107)),
 mv 109 9,
 oo 110 (.iaddr 10 (.t 108) (.t 109)),
 oo 111 (.faddr 1 (.t 110)),
 oo 112 (.load (some 9) (.t 111)),
 oo 113 (.lit false 213 22 []),
 oo 114 (.call 54 [(.t 104), (.t 112), (.t 113)]),
 oo 115 (.extract (.t 114) 0),
 oo 116 (.extract (.t 114) 1),
 ⟨none, .store 15 (.t 6) (.t 115), none⟩,
 mv 7 116])
 .ret)
 .skip)))
 (.reg [mv 91 9,
 oo 92 (.bin .int .add (.t 91) (.c (.int .i64 1))),
 mv 9 92]))))))
 (.seq
 (.reg [oo 117 (.faddr 1 (.t 4)),
 oo 118 (.load none (.t 117)),
 oo 119 (.call 50 [(.t 118)]),
 oo 120 (.build [(.int .i64 0), (.int .i64 0), (.str ⟨#[]⟩), (.int .i64 0), .nils, (.int .i64 0), (.str ⟨#[]⟩), (.int .i64 0), (.int .i64 0), .nils, .nils, .nils, .nils, .nils, .nils] [(0, 1, (.c (.int .i64 6))), (1, 1, (.t 119)), (3, 1, (.c (.int .i64 2)))]),
 ⟨none, .store 15 (.t 6) (.t 120), none⟩,
 oo 7 (.move (.c (.bool true)))])
 .ret))
 (.seq
 (.reg [oo 122 (.bin .int .eql (.t 20) (.c (.int .i64 3))),
 mv 121 122])
 (.cond (.t 121)
 (.seq
 (.reg [oo 123 (.faddr 2 (.t 4)),
 oo 124 (.load none (.t 123)),
 oo 125 (.build [(.int .i64 0), (.int .i64 0), (.str ⟨#[]⟩), (.int .i64 0), .nils, (.int .i64 0), (.str ⟨#[]⟩), (.int .i64 0), (.int .i64 0), .nils, .nils, .nils, .nils, .nils, .nils] [(0, 1, (.c (.int .i64 1))), (1, 1, (.t 124))]),
 ⟨none, .store 15 (.t 6) (.t 125), none⟩,
 oo 7 (.move (.c (.bool true)))])
 .ret)
 (.seq
 (.reg [oo 127 (.bin .int .eql (.t 20) (.c (.int .i64 4))),
 mv 126 127])
 (.cond (.t 126)
 (.seq
 (.seq
 (.reg [oo 128 (.faddr 3 (.t 4)),
 oo 129 (.load none (.t 128)),
 oo 130 (.bin .int .eql (.t 129) (.c (.int .i64 0)))])
 (.cond (.t 130)
 (.seq
 (.reg [oo 131 (.faddr 1 (.t 4)),
 oo 132 (.load none (.t 131)),
 oo 133 (.build [(.int .i64 0), (.int .i64 0), (.str ⟨#[]⟩), (.int .i64 0), .nils, (.int .i64 0), (.str ⟨#[]⟩), (.int .i64 0), (.int .i64 0), .nils, .nils, .nils, .nils, .nils, .nils] [(0, 1, (.c (.int .i64 2))), (2, 1, (.t 132))]),
 ⟨none, .store 15 (.t 6) (.t 133), none⟩,
 oo 7 (.move (.c (.bool true)))])
 .ret)
 .skip))
 (.seq
 (.reg [oo 134 (.faddr 1 (.t 4)),
 oo 135 (.load none (.t 134)),
 oo 136 (.faddr 3 (.t 4)),
 oo 137 (.load none (.t 136)),
 oo 138 (.build [(.int .i64 0), (.int .i64 0), (.str ⟨#[]⟩), (.int .i64 0), .nils, (.int .i64 0), (.str ⟨#[]⟩), (.int .i64 0), (.int .i64 0), .nils, .nils, .nils, .nils, .nils, .nils] [(0, 1, (.c (.int .i64 5))), (2, 1, (.t 135)), (3, 1, (.t 137))]),
 ⟨none, .store 15 (.t 6) (.t 138), none⟩,
 oo 7 (.move (.c (.bool true)))])
 .ret))
 (.seq
 (.reg [oo 140 (.bin .int .eql (.t 20) (.c (.int .i64 5))),
 mv 139 140])
 (.cond (.t 139)
 (.seq
 (.reg [mv 142 0,
 oo 143 (.faddr 5 (.t 4)),
 oo 144 (.load none (.t 143)),
 oo 145 (.iaddr 9 (.t 144) (.c (.int .i64 0))),
 oo 146 (.load (some 9) (.t 145)),
 mv 147 2,
 oo 148 (.call 54 [(.t 142), (.t 146), (.t 147)]),
 mv 141 148,
 oo 149 (.extract (.t 141) 0),
 oo 150 (.extract (.t 141) 1),
 oo 10 (.new 132 (.c (.agg [(.int .i64 0), (.int .i64 0), (.str ⟨#[]⟩), (.int .i64 0), .nils, (.int .i64 0), (.str ⟨#[]⟩), (.int .i64 0), (.int .i64 0), .nils, .nils, .nils, .nils, .nils, .nils]))),
 ⟨none, .store 15 (.t 10) (.t 149), none⟩,
 mv 11 150])
 (.seq
 (.seq
 (.reg [mv 151 11,
 oo 152 (.not (.t 151))])
 (.cond (.t 152)
 (.seq
 (.reg [oo 153 (.load (some 15) (.t 10)),
 ⟨none, .store 15 (.t 6) (.t 153), none⟩,
 oo 7 (.move (.c (.bool false)))])
 .ret)
 .skip))
 (.seq
 (.reg [mv 154 0,
 oo 155 (.load (some 15) (.t 10)),
 oo 156 (.faddr 5 (.t 4)),
 oo 157 (.load none (.t 156)),
 oo 158 (.iaddr 9 (.t 157) (.c (.int .i64 1))),
 oo 159 (.load (some 9) (.t 158)),
 mv 160 2,
 oo 161 (.build [(.int .i64 0), (.str ⟨#[]⟩), (.int .i64 0), (.int .i64 0), .nils, .nils, .nils, .nils, .nils, .nils] [(0, 9, (.t 159)), (9, 1, (.t 160))]),
 oo 162 (.call 101 [(.t 154), (.t 155), (.t 161)]),
 oo 163 (.extract (.t 162) 0),
 oo 164 (.extract (.t 162) 1),
 ⟨none, .store 15 (.t 6) (.t 163), none⟩,
 mv 7 164])
 .ret)))
 (.seq
 (.reg [oo 166 (.bin .int .eql (.t 20) (.c (.int .i64 6))),
 mv 165 166])
 (.cond (.t 165)
 (.seq
 (.reg [oo 167 (.faddr 4 (.t 4)),
 oo 168 (.load none (.t 167)),
 oo 169 (.len .slice (.t 168)),
 oo 170 (.load (some 9) (.t 4)),
 mv 171 2,
 oo 172 (.build [(.int .i64 0), (.int .i64 0), (.str ⟨#[]⟩), (.int .i64 0), .nils, (.int .i64 0), (.str ⟨#[]⟩), (.int .i64 0), (.int .i64 0), .nils, .nils, .nils, .nils, .nils, .nils] [(0, 1, (.c (.int .i64 4))), (3, 1, (.t 169)), (5, 9, (.t 170)), (14, 1, (.t 171))]),
 ⟨none, .store 15 (.t 6) (.t 172), none⟩,
 oo 7 (.move (.c (.bool true)))])
 .ret)
 (.seq
 (.reg [oo 174 (.bin .int .eql (.t 20) (.c (.int .i64 7))),
 mv 173 174])
 (.cond (.t 173)
 (.seq
 (.reg [mv 175 2,
 mv 12 175])
 (.seq
 (.seq
 (.reg [oo 13 (.move (.c (.int .i64 0)))])
 (.block 5
 (.loop
 (.seq
 (.seq
 (.reg [mv 176 13,
 oo 177 (.faddr 7 (.t 4)),
 oo 178 (.load none (.t 177)),
 oo 179 (.len .slice (.t 178)),
 oo 180 (.bin .int .lss (.t 176) (.t 179))])
 (.cond (.t 180)
 .skip
 (.exit 5)))
 (.seq
 (.block 6
 (.reg [mv 183 12,
 oo 184 (.faddr 7 (.t 4)),
 oo 185 (.load none (.t 184)),
 mv 186 13,
 oo 187 (.iaddr 10 (.t 185) (.t 186)),
 oo 188 (.faddr 0 (.t 187)),
 oo 189 (.load none (.t 188)),
 oo 190 (.faddr 7 (.t 4)),
 oo 191 (.load none (.t 190)),
 mv 192 13,
 oo 193 (.iaddr 10 (.t 191) (.t 192)),
 oo 194 (.faddr 1 (.t 193)),
 oo 195 (.load (some 9) (.t 194)),
 mv 196 2,
 oo 197 (.len .slice (.t 196)),
 oo 198 (.faddr 7 (.t 4)),
 oo 199 (.load none (.t 198)),
 oo 200 (.len .slice (.t 199)),
 oo 201 (.bin .int .add (.t 197) (.t 200)),
 oo 202 (.build [(.str ⟨#[]⟩), (.int .i64 0), (.str ⟨#[]⟩), (.int .i64 0), (.int .i64 0), .nils, .nils, .nils, .nils, .nils, .nils, (.bool false), (.int .i64 0), (.str ⟨#[]⟩), (.int .i64 0), (.int .i64 0), .nils, .nils, .nils, .nils, .nils, (.int .i64 0)] [(0, 1, (.t 189)), (11, 1, (.c (.bool true))), (12, 9, (.t 195)), (21, 1, (.t 201))]),
 oo 203 (.call 102 [(.t 183), (.t 202)]),
 mv 12 203]))
 (.reg [mv 181 13,
 oo 182 (.bin .int .add (.t 181) (.c (.int .i64 1))),
 mv 13 182]))))))
 (.seq
 (.reg [mv 204 0,
 oo 205 (.faddr 5 (.t 4)),
 oo 206 (.load none (.t 205)),
 oo 207 (.iaddr 9 (.t 206) (.c (.int .i64 0))),
 oo 208 (.load (some 9) (.t 207)),
 mv 209 12,
 oo 210 (.call 54 [(.t 204), (.t 208), (.t 209)]),
 oo 211 (.extract (.t 210) 0),
 oo 212 (.extract (.t 210) 1),
 ⟨none, .store 15 (.t 6) (.t 211), none⟩,
 mv 7 212])
 .ret)))
 (.seq
 (.reg [oo 214 (.bin .int .eql (.t 20) (.c (.int .i64 8))),
 mv 213 214])
 (.cond (.t 213)
 (.seq
 (.reg [mv 215 0,
 oo 216 (.load (some 9) (.t 4)),
 mv 217 2,
 oo 218 (.call 103 [(.t 215), (.t 216), (.t 217)]),
 oo 219 (.extract (.t 218) 0),
 oo 220 (.extract (.t 218) 1),
 ⟨none, .store 15 (.t 6) (.t 219), none⟩,
 mv 7 220])
 .ret)
 (.seq
 (.reg [oo 222 (.bin .int .eql (.t 20) (.c (.int .i64 9))),
 mv 221 222])
 (.cond (.t 221)
 (.seq
 (.reg [mv 223 0,
 oo 224 (.faddr 2 (.t 4)),
 oo 225 (.load none (.t 224)),
 oo 226 (.faddr 5 (.t 4)),
 oo 227 (.load none (.t 226)),
 oo 228 (.iaddr 9 (.t 227) (.c (.int .i64 0))),
 oo 229 (.load (some 9) (.t 228)),
 mv 230 2,
 oo 231 (.build [(.int .i64 0), (.str ⟨#[]⟩), (.int .i64 0), (.int .i64 0), .nils, .nils, .nils, .nils, .nils, .nils] [(0, 9, (.t 229)), (9, 1, (.t 230))]),
 oo 232 (.faddr 5 (.t 4)),
 oo 233 (.load none (.t 232)),
 oo 234 (.iaddr 9 (.t 233) (.c (.int .i64 1))),
 oo 235 (.load (some 9) (.t 234)),
 mv 236 2,
 oo 237 (.build [(.int .i64 0), (.str ⟨#[]⟩), (.int .i64 0), (.int .i64 0), .nils, .nils, .nils, .nils, .nils, .nils] [(0, 9, (.t 235)), (9, 1, (.t 236))]),
 oo 238 (.call 104 [(.t 223), (.t 225), (.t 231), (.t 237)]),
 oo 239 (.extract (.t 238) 0),
 oo 240 (.extract (.t 238) 1),
 ⟨none, .store 15 (.t 6) (.t 239), none⟩,
 mv 7 240])
 .ret)
 (.seq
 (.reg [oo 242 (.bin .int .eql (.t 20) (.c (.int .i64 11))),
 mv 241 242])
 (.cond (.t 241)
 (.seq
 (.seq
 (.reg [oo 14 (.move (.c (.int .i64 0)))])
 (.block 7
 (.loop
 (.seq
 (.seq
 (.reg [mv 243 14,
 oo 244 (.faddr 8 (.t 4)),
 oo 245 (.load none (.t 244)),
 oo 246 (.len .slice (.t 245)),
 oo 247 (.bin .int .lss (.t 243) (.t 246))])
 (.cond (.t 247)
 .skip
 (.exit 7)))
 (.seq
 (.block 8
 (.seq
 (.reg [oo 250 (.faddr 8 (.t 4)),
 oo 251 (.load none (.t 250)),
 mv 252 14,
 oo 253 (.iaddr 10 (.t 251) (.t 252)),
 oo 254 (.faddr 0 (.t 253)),
 oo 255 (.load none (.t 254)),
 mv 256 0,
 oo 257 (.nilck (.t 256)),
 oo 258 (.faddr 1 (.t 257)),
 oo 259 (.load none (.t 258)),
 oo 260 (.bin .int .eql (.t 255) (.t 259))])
 (.cond (.t 260)
 (.seq
 (.reg [mv 261 0,
 oo 262 (.faddr 8 (.t 4)),
 oo 263 (.load none (.t 262)),
 mv 264 14,
 oo 265 (.iaddr 10 (.t 263) (.t 264)),
 oo 266 (.faddr 1 (.t 265)),
 oo 267 (.load (some 9) (.t 266)),
 mv 268 2,
 oo 269 (.call 54 [(.t 261), (.t 267), (.t 268)]),
 oo 270 (.extract (.t 269) 0),
 oo 271 (.extract (.t 269) 1),
 ⟨none, .store 15 (.t 6) (.t 270), none⟩,
 mv 7 271])
 .ret)
 .skip)))
 (.reg [mv 248 14,
 oo 249 (.bin .int .add (.t 248) (.c (.int .i64 1))),
 mv 14 249]))))))
 (.seq
 (.reg [mv 272 0,
 oo 273 (.faddr 5 (.t 4)),
 oo 274 (.load none (.t 273)),
 oo 275 (.iaddr 9 (.t 274) (.c (.int .i64 0))),
 oo 276 (.load (some 9) (.t 275)),
 mv 277 2,
 oo 278 (.call 54 [(.t 272), (.t 276), (.t 277)]),
 oo 279 (.extract (.t 278) 0),
 oo 280 (.extract (.t 278) 1),
 ⟨none, .store 15 (.t 6) (.t 279), none⟩,
 mv 7 280])
 .ret))
 .skip))))))))))))))))))))))
 (.seq
 (.reg [mv 281 0,
 oo 282 (.call 100 [(.t 281), (.c (.int .i64 2))]),
 oo 283 (.extract (.t 282) 0),
 oo 284 (.extract (.t 282) 1),
 ⟨none, .store 15 (.t 6) (.t 283), none⟩,
 mv 7 284])
 .ret))))
theorem in54 {args : List AV} {σ : Store} {K : AV → Store → Prop} (hargs : args.length ≤ 285 := by simp) (h : AWP Try.prog Try.f54.ntmps c54 (fun e t s => match e with | .exit _ => False | _ => Res [.cell 6 (some 15), .slot 7] K t s) (env (argList 0 args)) σ) : ACalls Try.prog 54 args σ K :=
 enter (own := []) Try.func54 (by kernel_rfl) (by kernel_rfl) (by kernel_rfl) hargs h
/-- (*changeling/changelingref14.CMachine).step -/
def c98 : ACode :=
(.seq
 (.reg [oo 2 (.move (.c (.bool false)))])
 (.seq
 (.reg [mv 3 0,
 mv 4 0,
 oo 5 (.nilck (.t 4)),
 oo 6 (.faddr 2 (.t 5)),
 oo 7 (.load none (.t 6)),
 oo 8 (.bin .int .add (.t 7) (.c (.int .i64 1))),
 oo 9 (.nilck (.t 3)),
 oo 10 (.faddr 2 (.t 9)),
 ⟨none, .store 1 (.t 10) (.t 8), none⟩])
 (.seq
 (.seq
 (.reg [mv 11 0,
 oo 12 (.nilck (.t 11)),
 oo 13 (.faddr 2 (.t 12)),
 oo 14 (.load none (.t 13)),
 mv 15 0,
 oo 16 (.nilck (.t 15)),
 oo 17 (.faddr 3 (.t 16)),
 oo 18 (.load none (.t 17)),
 oo 19 (.bin .int .gtr (.t 14) (.t 18))])
 (.cond (.t 19)
 (.reg [mv 20 0,
 oo 21 (.nilck (.t 20)),
 oo 22 (.faddr 4 (.t 21)),
 ⟨none, .store 1 (.t 22) (.c (.int .i64 (-1))), none⟩])
 .skip))
 (.seq
 (.reg [mv 23 0,
 oo 24 (.nilck (.t 23)),
 oo 25 (.faddr 4 (.t 24)),
 oo 26 (.load none (.t 25)),
 oo 27 (.bin .int .eql (.t 26) (.c (.int .i64 0))),
 mv 2 27])
 .ret))))
theorem in98 {args : List AV} {σ : Store} {K : AV → Store → Prop} (hargs : args.length ≤ 28 := by simp) (h : AWP Try.prog Try.f98.ntmps c98 (fun e t s => match e with | .exit _ => False | _ => Res [.slot 2] K t s) (env (argList 0 args)) σ) : ACalls Try.prog 98 args σ K :=
 enter (own := []) Try.func98 (by kernel_rfl) (by kernel_rfl) (by kernel_rfl) hargs h
/-- (*changeling/changelingref14.CMachine).thunk -/
def c99 : ACode :=
(.seq
 (.reg [oo 3 (.new 211 (.t 1)),
 oo 4 (.new 132 (.c (.agg [(.int .i64 0), (.int .i64 0), (.str ⟨#[]⟩), (.int .i64 0), .nils, (.int .i64 0), (.str ⟨#[]⟩), (.int .i64 0), (.int .i64 0), .nils, .nils, .nils, .nils, .nils, .nils]))),
 oo 5 (.move (.c (.bool false)))])
 (.seq
 (.reg [mv 6 0,
 oo 7 (.faddr 0 (.t 3)),
 oo 8 (.load (some 9) (.t 7)),
 oo 9 (.faddr 9 (.t 3)),
 oo 10 (.load none (.t 9)),
 oo 11 (.call 54 [(.t 6), (.t 8), (.t 10)]),
 oo 12 (.extract (.t 11) 0),
 oo 13 (.extract (.t 11) 1),
 ⟨none, .store 15 (.t 4) (.t 12), none⟩,
 mv 5 13])
 .ret))
theorem in99 {args : List AV} {σ : Store} {K : AV → Store → Prop} (hargs : args.length ≤ 14 := by simp) (h : AWP Try.prog Try.f99.ntmps c99 (fun e t s => match e with | .exit _ => False | _ => Res [.cell 4 (some 15), .slot 5] K t s) (env (argList 0 args)) σ) : ACalls Try.prog 99 args σ K :=
 enter (own := []) Try.func99 (by kernel_rfl) (by kernel_rfl) (by kernel_rfl) hargs h
/-- (*changeling/changelingref14.CMachine).wrong -/
def c100 : ACode :=
(.seq
 (.reg [oo 4 (.new 132 (.c (.agg [(.int .i64 0), (.int .i64 0), (.str ⟨#[]⟩), (.int .i64 0), .nils, (.int .i64 0), (.str ⟨#[]⟩), (.int .i64 0), (.int .i64 0), .nils, .nils, .nils, .nils, .nils, .nils]))),
 oo 5 (.move (.c (.bool false)))])
 (.seq
 (.seq
 (.reg [mv 6 0,
 oo 7 (.nilck (.t 6)),
 oo 8 (.faddr 4 (.t 7)),
 oo 9 (.load none (.t 8)),
 oo 10 (.bin .int .eql (.t 9) (.c (.int .i64 0)))])
 (.cond (.t 10)
 (.reg [mv 11 0,
 mv 12 1,
 oo 13 (.nilck (.t 11)),
 oo 14 (.faddr 4 (.t 13)),
 ⟨none, .store 1 (.t 14) (.t 12), none⟩])
 .skip))
 (.seq
 (.reg [oo 15 (.build [(.int .i64 0), (.int .i64 0), (.str ⟨#[]⟩), (.int .i64 0), .nils, (.int .i64 0), (.str ⟨#[]⟩), (.int .i64 0), (.int .i64 0), .nils, .nils, .nils, .nils, .nils, .nils] []),
 ⟨none, .store 15 (.t 4) (.t 15), none⟩,
 oo 5 (.move (.c (.bool false)))])
 .ret)))
theorem in100 {args : List AV} {σ : Store} {K : AV → Store → Prop} (hargs : args.length ≤ 16 := by simp) (h : AWP Try.prog Try.f100.ntmps c100 (fun e t s => match e with | .exit _ => False | _ => Res [.cell 4 (some 15), .slot 5] K t s) (env (argList 0 args)) σ) : ACalls Try.prog 100 args σ K :=
 enter (own := []) Try.func100 (by kernel_rfl) (by kernel_rfl) (by kernel_rfl) hargs h
/-- (*changeling/changelingref14.CMachine).apply -/
def c101 : ACode :=
(.seq
 (.reg [oo 4 (.new 132 (.t 1)),
 oo 5 (.new 211 (.t 2)),
 oo 6 (.new 132 (.c (.agg [(.int .i64 0), (.int .i64 0), (.str ⟨#[]⟩), (.int .i64 0), .nils, (.int .i64 0), (.str ⟨#[]⟩), (.int .i64 0), (.int .i64 0), .nils, .nils, .nils, .nils, .nils, .nils]))),
 oo 7 (.move (.c (.bool false)))])
 (.seq
 (.reg [oo 8 (.move (.c .nils))])
 (.seq
 (.seq
 (.reg [oo 9 (.move (.c (.int .i64 0)))])
 (.block 0
 (.loop
 (.seq
 (.seq
 (.reg [mv 12 9,
 oo 13 (.faddr 4 (.t 4)),
 oo 14 (.load none (.t 13)),
 oo 15 (.len .slice (.t 14)),
 oo 16 (.bin .int .lss (.t 12) (.t 15))])
 (.cond (.t 16)
 .skip
 (.exit 0)))
 (.seq
 (.block 1
 (.reg [mv 19 8,
 oo 20 (.faddr 4 (.t 4)),
 oo 21 (.load none (.t 20)),
 mv 22 9,
 oo 23 (.iaddr 10 (.t 21) (.t 22)),
 oo 24 (.load (some 10) (.t 23)),
 oo 25 (.lit false 211 10 [(.t 24)]),
 oo 26 (.append 211 10 184 (.t 19) (.t 25)),
 mv 8 26]))
 (.reg [mv 17 9,
 oo 18 (.bin .int .add (.t 17) (.c (.int .i64 1))),
 mv 9 18]))))))
 (.seq
 (.reg [mv 27 8,
 oo 28 (.load (some 10) (.t 5)),
 oo 29 (.lit false 211 10 [(.t 28)]),
 oo 30 (.append 211 10 184 (.t 27) (.t 29)),
 oo 31 (.faddr 4 (.t 4)),
 ⟨none, .store 1 (.t 31) (.t 30), none⟩])
 (.seq
 (.seq
 (.reg [oo 32 (.faddr 0 (.t 4)),
 oo 33 (.load none (.t 32)),
 oo 34 (.bin .int .lss (.t 33) (.c (.int .i64 3))),
 mv 35 34,
 og 36 35 false (.move (.t 0)),
 og 37 35 false (.call 98 [(.t 36)]),
 og 38 35 false (.not (.t 37)),
 oo 39 (.pick (.t 35) (.c (.bool true)) (.t 38))])
 (.cond (.t 39)
 (.seq
 (.reg [mv 40 0,
 oo 41 (.call 100 [(.t 40), (.c (.int .i64 (-2)))]),
 oo 42 (.extract (.t 41) 0),
 oo 43 (.extract (.t 41) 1),
 ⟨none, .store 15 (.t 6) (.t 42), none⟩,
 mv 7 43])
 .ret)
 .skip))
 (.seq
 (.seq
 (.reg [oo 44 (.faddr 4 (.t 4)),
 oo 45 (.load none (.t 44)),
 oo 46 (.len .slice (.t 45)),
 oo 47 (.faddr 3 (.t 4)),
 oo 48 (.load none (.t 47)),
 oo 49 (.bin .int .lss (.t 46) (.t 48))])
 (.cond (.t 49)
 (.seq
 (.reg [oo 50 (.load (some 15) (.t 4)),
 ⟨none, .store 15 (.t 6) (.t 50), none⟩,
 oo 7 (.move (.c (.bool true)))])
 .ret)
 .skip))
 (.seq
 (.seq
 (.reg [oo 51 (.faddr 0 (.t 4)),
 oo 52 (.load none (.t 51)),
 oo 53 (.bin .int .eql (.t 52) (.c (.int .i64 5)))])
 (.cond (.t 53)
 (.seq
 (.reg [oo 54 (.faddr 2 (.t 4)),
 oo 55 (.load none (.t 54)),
 oo 56 (.faddr 4 (.t 4)),
 oo 57 (.load none (.t 56)),
 oo 58 (.build [(.int .i64 0), (.int .i64 0), (.str ⟨#[]⟩), (.int .i64 0), .nils, (.int .i64 0), (.str ⟨#[]⟩), (.int .i64 0), (.int .i64 0), .nils, .nils, .nils, .nils, .nils, .nils] [(0, 1, (.c (.int .i64 2))), (2, 1, (.t 55)), (4, 1, (.t 57))]),
 ⟨none, .store 15 (.t 6) (.t 58), none⟩,
 oo 7 (.move (.c (.bool true)))])
 .ret)
 .skip))
 (.seq
 (.seq
 (.reg [oo 59 (.faddr 0 (.t 4)),
 oo 60 (.load none (.t 59)),
 oo 61 (.bin .int .eql (.t 60) (.c (.int .i64 6)))])
 (.cond (.t 61)
 (.seq
 (.reg [mv 62 0,
 oo 63 (.faddr 1 (.t 4)),
 oo 64 (.load none (.t 63)),
 oo 65 (.faddr 4 (.t 4)),
 oo 66 (.load none (.t 65)),
 oo 67 (.iaddr 10 (.t 66) (.c (.int .i64 0))),
 oo 68 (.load (some 10) (.t 67)),
 oo 69 (.faddr 4 (.t 4)),
 oo 70 (.load none (.t 69)),
 oo 71 (.iaddr 10 (.t 70) (.c (.int .i64 1))),
 oo 72 (.load (some 10) (.t 71)),
 oo 73 (.call 104 [(.t 62), (.t 64), (.t 68), (.t 72)]),
 oo 74 (.extract (.t 73) 0),
 oo 75 (.extract (.t 73) 1),
 ⟨none, .store 15 (.t 6) (.t 74), none⟩,
 mv 7 75])
 .ret)
 .skip))
 (.seq
 (.reg [oo 76 (.faddr 14 (.t 4)),
 oo 77 (.load none (.t 76)),
 mv 10 77])
 (.seq
 (.seq
 (.reg [oo 11 (.move (.c (.int .i64 0)))])
 (.block 2
 (.loop
 (.seq
 (.seq
 (.reg [mv 78 11,
 oo 79 (.faddr 4 (.t 4)),
 oo 80 (.load none (.t 79)),
 oo 81 (.len .slice (.t 80)),
 oo 82 (.bin .int .lss (.t 78) (.t 81))])
 (.cond (.t 82)
 .skip
 (.exit 2)))
 (.seq
 (.block 3
 (.reg [mv 85 10,
 oo 86 (.faddr 5 (.t 4)),
 oo 87 (.faddr 4 (.t 86)),
 oo 88 (.load none (.t 87)),
 mv 89 11,
 oo 90 (.iaddr 1 (.t 88) (.t 89)),
 oo 91 (.load none (.t 90)),
 oo 92 (.faddr 4 (.t 4)),
 oo 93 (.load none (.t 92)),
 mv 94 11,
 oo 95 (.iaddr 10 (.t 93) (.t 94)),
 oo 96 (.load (some 10) (.t 95)),
 oo 97 (.build [(.str ⟨#[]⟩), (.int .i64 0), (.str ⟨#[]⟩), (.int .i64 0), (.int .i64 0), .nils, .nils, .nils, .nils, .nils, .nils, (.bool false), (.int .i64 0), (.str ⟨#[]⟩), (.int .i64 0), (.int .i64 0), .nils, .nils, .nils, .nils, .nils, (.int .i64 0)] [(0, 1, (.t 91)), (1, 10, (.t 96))]),
 oo 98 (.call 102 [(.t 85), (.t 97)]),
 mv 10 98]))
 (.reg [mv 83 11,
 oo 84 (.bin .int .add (.t 83) (.c (.int .i64 1))),
 mv 11 84]))))))
 (.seq
 (.reg [mv 99 0,
 oo 100 (.faddr 5 (.t 4)),
 oo 101 (.faddr 5 (.t 100)),
 oo 102 (.load none (.t 101)),
 oo 103 (.iaddr 9 (.t 102) (.c (.int .i64 0))),
 oo 104 (.load (some 9) (.t 103)),
 mv 105 10,
 oo 106 (.call 54 [(.t 99), (.t 104), (.t 105)]),
 oo 107 (.extract (.t 106) 0),
 oo 108 (.extract (.t 106) 1),
 ⟨none, .store 15 (.t 6) (.t 107), none⟩,
 mv 7 108])
 .ret)))))))))))
theorem in101 {args : List AV} {σ : Store} {K : AV → Store → Prop} (hargs : args.length ≤ 109 := by simp) (h : AWP Try.prog Try.f101.ntmps c101 (fun e t s => match e with | .exit _ => False | _ => Res [.cell 6 (some 15), .slot 7] K t s) (env (argList 0 args)) σ) : ACalls Try.prog 101 args σ K :=
 enter (own := []) Try.func101 (by kernel_rfl) (by kernel_rfl) (by kernel_rfl) hargs h
/-- (*changeling/changelingref14.CMachine).prim -/
def c104 : ACode :=
(.seq
 (.reg [oo 6 (.new 211 (.t 2)),
 oo 7 (.new 211 (.t 3)),
 oo 8 (.new 132 (.c (.agg [(.int .i64 0), (.int .i64 0), (.str ⟨#[]⟩), (.int .i64 0), .nils, (.int .i64 0), (.str ⟨#[]⟩), (.int .i64 0), (.int .i64 0), .nils, .nils, .nils, .nils, .nils, .nils]))),
 oo 9 (.move (.c (.bool false)))])
 (.seq
 (.reg [mv 16 0,
 oo 17 (.load (some 10) (.t 6)),
 oo 18 (.call 99 [(.t 16), (.t 17)]),
 mv 15 18,
 oo 19 (.extract (.t 15) 0),
 oo 20 (.extract (.t 15) 1),
 oo 10 (.new 132 (.c (.agg [(.int .i64 0), (.int .i64 0), (.str ⟨#[]⟩), (.int .i64 0), .nils, (.int .i64 0), (.str ⟨#[]⟩), (.int .i64 0), (.int .i64 0), .nils, .nils, .nils, .nils, .nils, .nils]))),
 ⟨none, .store 15 (.t 10) (.t 19), none⟩,
 mv 11 20])
 (.seq
 (.seq
 (.reg [mv 21 11,
 oo 22 (.not (.t 21))])
 (.cond (.t 22)
 (.seq
 (.reg [oo 23 (.load (some 15) (.t 10)),
 ⟨none, .store 15 (.t 8) (.t 23), none⟩,
 oo 9 (.move (.c (.bool false)))])
 .ret)
 .skip))
 (.seq
 (.reg [mv 25 0,
 oo 26 (.load (some 10) (.t 7)),
 oo 27 (.call 99 [(.t 25), (.t 26)]),
 mv 24 27,
 oo 28 (.extract (.t 24) 0),
 oo 29 (.extract (.t 24) 1),
 oo 12 (.new 132 (.c (.agg [(.int .i64 0), (.int .i64 0), (.str ⟨#[]⟩), (.int .i64 0), .nils, (.int .i64 0), (.str ⟨#[]⟩), (.int .i64 0), (.int .i64 0), .nils, .nils, .nils, .nils, .nils, .nils]))),
 ⟨none, .store 15 (.t 12) (.t 28), none⟩,
 mv 11 29])
 (.seq
 (.seq
 (.reg [mv 30 11,
 oo 31 (.not (.t 30))])
 (.cond (.t 31)
 (.seq
 (.reg [oo 32 (.load (some 15) (.t 12)),
 ⟨none, .store 15 (.t 8) (.t 32), none⟩,
 oo 9 (.move (.c (.bool false)))])
 .ret)
 .skip))
 (.seq
 (.reg [mv 34 1,
 oo 35 (.faddr 1 (.t 10)),
 oo 36 (.load none (.t 35)),
 oo 37 (.faddr 1 (.t 12)),
 oo 38 (.load none (.t 37)),
 oo 39 (.call 151 [(.t 34), (.t 36), (.t 38)]),
 mv 33 39,
 oo 40 (.extract (.t 33) 0),
 oo 41 (.extract (.t 33) 1),
 mv 13 40,
 mv 14 41])
 (.seq
 (.seq
 (.reg [mv 42 14,
 oo 43 (.bin .int .neq (.t 42) (.c (.int .i64 0)))])
 (.cond (.t 43)
 (.seq
 (.reg [mv 44 0,
 oo 45 (.call 100 [(.t 44), (.c (.int .i64 3))]),
 oo 46 (.extract (.t 45) 0),
 oo 47 (.extract (.t 45) 1),
 ⟨none, .store 15 (.t 8) (.t 46), none⟩,
 mv 9 47])
 .ret)
 .skip))
 (.seq
 (.seq
 (.reg [mv 48 1,
 oo 49 (.bin .int .lss (.t 48) (.c (.int .i64 6)))])
 (.cond (.t 49)
 (.seq
 (.reg [mv 50 13,
 oo 51 (.build [(.int .i64 0), (.int .i64 0), (.str ⟨#[]⟩), (.int .i64 0), .nils, (.int .i64 0), (.str ⟨#[]⟩), (.int .i64 0), (.int .i64 0), .nils, .nils, .nils, .nils, .nils, .nils] [(0, 1, (.c (.int .i64 1))), (1, 1, (.t 50))]),
 ⟨none, .store 15 (.t 8) (.t 51), none⟩,
 oo 9 (.move (.c (.bool true)))])
 .ret)
 .skip))
 (.seq
 (.seq
 (.reg [mv 52 13,
 oo 53 (.bin .int .eql (.t 52) (.c (.int .i64 1)))])
 (.cond (.t 53)
 (.seq
 (.reg [oo 54 (.build [(.int .i64 0), (.int .i64 0), (.str ⟨#[]⟩), (.int .i64 0), .nils, (.int .i64 0), (.str ⟨#[]⟩), (.int .i64 0), (.int .i64 0), .nils, .nils, .nils, .nils, .nils, .nils] [(0, 1, (.c (.int .i64 2))), (2, 1, (.c (.str ⟨#[84, 114, 117, 101]⟩)))]),
 ⟨none, .store 15 (.t 8) (.t 54), none⟩,
 oo 9 (.move (.c (.bool true)))])
 .ret)
 .skip))
 (.seq
 (.reg [oo 55 (.build [(.int .i64 0), (.int .i64 0), (.str ⟨#[]⟩), (.int .i64 0), .nils, (.int .i64 0), (.str ⟨#[]⟩), (.int .i64 0), (.int .i64 0), .nils, .nils, .nils, .nils, .nils, .nils] [(0, 1, (.c (.int .i64 2))), (2, 1, (.c (.str ⟨#[70, 97, 108, 115, 101]⟩)))]),
 ⟨none, .store 15 (.t 8) (.t 55), none⟩,
 oo 9 (.move (.c (.bool true)))])
 .ret))))))))))
theorem in104 {args : List AV} {σ : Store} {K : AV → Store → Prop} (hargs : args.length ≤ 56 := by simp) (h : AWP Try.prog Try.f104.ntmps c104 (fun e t s => match e with | .exit _ => False | _ => Res [.cell 8 (some 15), .slot 9] K t s) (env (argList 0 args)) σ) : ACalls Try.prog 104 args σ K :=
 enter (own := []) Try.func104 (by kernel_rfl) (by kernel_rfl) (by kernel_rfl) hargs h
/-- changeling/changelingref01.Do -/
def c151 : ACode :=
(.seq
 (.reg [oo 6 (.move (.c (.int .i64 0))),
 oo 7 (.move (.c (.int .i64 0)))])
 (.seq
 (.seq
 (.reg [mv 10 0,
 oo 11 (.call 163 [(.t 10)]),
 oo 12 (.not (.t 11))])
 (.cond (.t 12)
 (.seq
 (.reg [oo 6 (.move (.c (.int .i64 0))),
 oo 7 (.move (.c (.int .i64 1)))])
 .ret)
 .skip))
 (.seq
 (.seq
 (.reg [mv 13 0,
 oo 14 (.bin .int .eql (.t 13) (.c (.int .i64 4))),
 mv 15 14,
 og 16 15 false (.move (.t 0)),
 og 17 15 false (.bin .int .eql (.t 16) (.c (.int .i64 5))),
 oo 18 (.pick (.t 15) (.c (.bool true)) (.t 17)),
 mv 19 18,
 og 20 19 true (.move (.t 2)),
 og 21 19 true (.bin .int .eql (.t 20) (.c (.int .i64 0))),
 oo 22 (.pick (.t 19) (.t 21) (.c (.bool false)))])
 (.cond (.t 22)
 (.seq
 (.reg [oo 6 (.move (.c (.int .i64 0))),
 oo 7 (.move (.c (.int .i64 10)))])
 .ret)
 .skip))
 (.seq
 (.seq
 (.reg [mv 23 0,
 oo 24 (.bin .int .eql (.t 23) (.c (.int .i64 4))),
 mv 25 24,
 og 26 25 false (.move (.t 0)),
 og 27 25 false (.bin .int .eql (.t 26) (.c (.int .i64 5))),
 oo 28 (.pick (.t 25) (.c (.bool true)) (.t 27))])
 (.cond (.t 28)
 (.seq
 (.reg [mv 30 1,
 oo 31 (.call 162 [(.t 30)]),
 mv 32 2,
 oo 33 (.call 162 [(.t 32)]),
 oo 34 (.call 164 [(.t 31), (.t 33)]),
 mv 29 34,
 oo 35 (.extract (.t 29) 0),
 oo 36 (.extract (.t 29) 1),
 mv 8 35,
 mv 9 36])
 (.seq
 (.seq
 (.reg [mv 37 0,
 oo 38 (.bin .int .eql (.t 37) (.c (.int .i64 4)))])
 (.cond (.t 38)
 (.seq
 (.reg [mv 39 8,
 mv 40 1,
 oo 41 (.bin .int .lss (.t 40) (.c (.int .i64 0))),
 mv 42 2,
 oo 43 (.bin .int .lss (.t 42) (.c (.int .i64 0))),
 oo 44 (.bin .bool .neq (.t 41) (.t 43)),
 oo 45 (.call 148 [(.t 39), (.t 44)]),
 mv 6 45,
 oo 7 (.move (.c (.int .i64 0)))])
 .ret)
 .skip))
 (.seq
 (.reg [mv 46 9,
 mv 47 1,
 oo 48 (.bin .int .lss (.t 47) (.c (.int .i64 0))),
 oo 49 (.call 148 [(.t 46), (.t 48)]),
 mv 6 49,
 oo 7 (.move (.c (.int .i64 0)))])
 .ret)))
 .skip))
 (.seq
 (.seq
 (.reg [mv 50 0])
 (.block 0
 (.seq
 (.reg [oo 52 (.bin .int .eql (.t 50) (.c (.int .i64 1))),
 mv 51 52])
 (.cond (.t 51)
 (.seq
 (.reg [mv 53 1,
 oo 54 (.conv .u64 (.t 53)),
 mv 55 2,
 oo 56 (.conv .u64 (.t 55)),
 oo 57 (.bin .int .add (.t 54) (.t 56)),
 oo 58 (.conv .i64 (.t 57)),
 mv 6 58,
 oo 7 (.move (.c (.int .i64 0)))])
 .ret)
 (.seq
 (.reg [oo 60 (.bin .int .eql (.t 50) (.c (.int .i64 2))),
 mv 59 60])
 (.cond (.t 59)
 (.seq
 (.reg [mv 61 1,
 oo 62 (.conv .u64 (.t 61)),
 mv 63 2,
 oo 64 (.conv .u64 (.t 63)),
 oo 65 (.bin .int .sub (.c (.int .u64 0)) (.t 64)),
 oo 66 (.bin .int .add (.t 62) (.t 65)),
 oo 67 (.conv .i64 (.t 66)),
 mv 6 67,
 oo 7 (.move (.c (.int .i64 0)))])
 .ret)
 (.seq
 (.reg [oo 69 (.bin .int .eql (.t 50) (.c (.int .i64 3))),
 mv 68 69])
 (.cond (.t 68)
 (.seq
 (.reg [mv 70 1,
 oo 71 (.conv .u64 (.t 70)),
 mv 72 2,
 oo 73 (.conv .u64 (.t 72)),
 oo 74 (.call 165 [(.t 71), (.t 73)]),
 oo 75 (.conv .i64 (.t 74)),
 mv 6 75,
 oo 7 (.move (.c (.int .i64 0)))])
 .ret)
 (.seq
 (.reg [oo 77 (.bin .int .eql (.t 50) (.c (.int .i64 6))),
 mv 76 77])
 (.cond (.t 76)
 (.seq
 (.reg [mv 78 1,
 mv 79 2,
 oo 80 (.bin .int .eql (.t 78) (.t 79)),
 oo 81 (.call 166 [(.t 80)]),
 mv 6 81,
 oo 7 (.move (.c (.int .i64 0)))])
 .ret)
 (.seq
 (.reg [oo 83 (.bin .int .eql (.t 50) (.c (.int .i64 7))),
 mv 82 83])
 (.cond (.t 82)
 (.seq
 (.reg [mv 84 1,
 mv 85 2,
 oo 86 (.bin .int .neq (.t 84) (.t 85)),
 oo 87 (.call 166 [(.t 86)]),
 mv 6 87,
 oo 7 (.move (.c (.int .i64 0)))])
 .ret)
 (.seq
 (.reg [oo 89 (.bin .int .eql (.t 50) (.c (.int .i64 8))),
 mv 88 89])
 (.cond (.t 88)
 (.seq
 (.reg [mv 90 1,
 mv 91 2,
 oo 92 (.bin .int .lss (.t 90) (.t 91)),
 oo 93 (.call 166 [(.t 92)]),
 mv 6 93,
 oo 7 (.move (.c (.int .i64 0)))])
 .ret)
 (.seq
 (.reg [oo 95 (.bin .int .eql (.t 50) (.c (.int .i64 9))),
 mv 94 95])
 (.cond (.t 94)
 (.seq
 (.reg [mv 96 2,
 mv 97 1,
 oo 98 (.bin .int .lss (.t 96) (.t 97)),
 oo 99 (.not (.t 98)),
 oo 100 (.call 166 [(.t 99)]),
 mv 6 100,
 oo 7 (.move (.c (.int .i64 0)))])
 .ret)
 (.seq
 (.reg [oo 102 (.bin .int .eql (.t 50) (.c (.int .i64 10))),
 mv 101 102])
 (.cond (.t 101)
 (.seq
 (.reg [mv 103 2,
 mv 104 1,
 oo 105 (.bin .int .lss (.t 103) (.t 104)),
 oo 106 (.call 166 [(.t 105)]),
 mv 6 106,
 oo 7 (.move (.c (.int .i64 0)))])
 .ret)
 .skip))))))))))))))))))
 (.seq
 (.reg [mv 107 1,
 mv 108 2,
 oo 109 (.bin .int .lss (.t 107) (.t 108)),
 oo 110 (.not (.t 109)),
 oo 111 (.call 166 [(.t 110)]),
 mv 6 111,
 oo 7 (.move (.c (.int .i64 0)))])
 .ret))))))
theorem in151 {args : List AV} {σ : Store} {K : AV → Store → Prop} (hargs : args.length ≤ 112 := by simp) (h : AWP Try.prog Try.f151.ntmps c151 (fun e t s => match e with | .exit _ => False | _ => Res [.slot 6, .slot 7] K t s) (env (argList 0 args)) σ) : ACalls Try.prog 151 args σ K :=
 enter (own := []) Try.func151 (by kernel_rfl) (by kernel_rfl) (by kernel_rfl) hargs h
/-- changeling/changelingref01.Right -/
def c163 : ACode :=
(.seq
 (.reg [oo 2 (.move (.c (.bool false)))])
 (.seq
 (.reg [mv 3 0,
 oo 4 (.bin .int .geq (.t 3) (.c (.int .i64 1))),
 mv 5 4,
 og 6 5 true (.move (.t 0)),
 og 7 5 true (.bin .int .leq (.t 6) (.c (.int .i64 11))),
 oo 8 (.pick (.t 5) (.t 7) (.c (.bool false))),
 mv 2 8])
 .ret))
theorem in163 {args : List AV} {σ : Store} {K : AV → Store → Prop} (hargs : args.length ≤ 9 := by simp) (h : AWP Try.prog Try.f163.ntmps c163 (fun e t s => match e with | .exit _ => False | _ => Res [.slot 2] K t s) (env (argList 0 args)) σ) : ACalls Try.prog 163 args σ K :=
 enter (own := []) Try.func163 (by kernel_rfl) (by kernel_rfl) (by kernel_rfl) hargs h
/-- changeling/changelingref01.divided -/
def c164 : ACode :=
(.seq
 (.reg [oo 4 (.move (.c (.int .u64 0))),
 oo 5 (.move (.c (.int .u64 0)))])
 (.seq
 (.reg [oo 6 (.move (.c (.int .u64 0))),
 oo 7 (.move (.c (.int .u64 0)))])
 (.seq
 (.seq
 (.reg [oo 8 (.move (.c (.int .i64 63)))])
 (.block 0
 (.loop
 (.seq
 (.seq
 (.reg [mv 10 8,
 oo 11 (.bin .int .geq (.t 10) (.c (.int .i64 0)))])
 (.cond (.t 11)
 .skip
 (.exit 0)))
 (.seq
 (.block 1
 (.seq
 (.reg [mv 14 7,
 oo 15 (.bin .int .shr (.t 14) (.c (.int .u64 63))),
 oo 16 (.bin .int .eql (.t 15) (.c (.int .u64 1))),
 mv 9 16])
 (.seq
 (.reg [mv 17 7,
 oo 18 (.bin .int .shl (.t 17) (.c (.int .u64 1))),
 mv 19 0,
 mv 20 8,
 oo 21 (.conv .u64 (.t 20)),
 oo 22 (.bin .int .shr (.t 19) (.t 21)),
 oo 23 (.bin .int .and (.t 22) (.c (.int .u64 1))),
 oo 24 (.bin .int .or (.t 18) (.t 23)),
 mv 7 24])
 (.seq
 (.reg [mv 25 9,
 mv 26 25,
 og 27 26 false (.move (.t 7)),
 og 28 26 false (.move (.t 1)),
 og 29 26 false (.bin .int .geq (.t 27) (.t 28)),
 oo 30 (.pick (.t 26) (.c (.bool true)) (.t 29))])
 (.cond (.t 30)
 (.seq
 (.reg [mv 31 7,
 mv 32 1,
 oo 33 (.bin .int .sub (.t 31) (.t 32)),
 mv 7 33])
 (.reg [mv 34 6,
 mv 35 8,
 oo 36 (.conv .u64 (.t 35)),
 oo 37 (.bin .int .shl (.c (.int .u64 1)) (.t 36)),
 oo 38 (.bin .int .or (.t 34) (.t 37)),
 mv 6 38]))
 .skip)))))
 (.reg [mv 12 8,
 oo 13 (.bin .int .sub (.t 12) (.c (.int .i64 1))),
 mv 8 13]))))))
 (.seq
 (.reg [mv 39 6,
 mv 40 7,
 mv 4 39,
 mv 5 40])
 .ret))))
theorem in164 {args : List AV} {σ : Store} {K : AV → Store → Prop} (hargs : args.length ≤ 41 := by simp) (h : AWP Try.prog Try.f164.ntmps c164 (fun e t s => match e with | .exit _ => False | _ => Res [.slot 4, .slot 5] K t s) (env (argList 0 args)) σ) : ACalls Try.prog 164 args σ K :=
 enter (own := []) Try.func164 (by kernel_rfl) (by kernel_rfl) (by kernel_rfl) hargs h
/-- changeling/changelingref01.product -/
def c165 : ACode :=
(.seq
 (.reg [oo 4 (.move (.c (.int .u64 0)))])
 (.seq
 (.reg [oo 5 (.move (.c (.int .u64 0)))])
 (.seq
 (.seq
 (.reg [oo 6 (.move (.c (.int .i64 0)))])
 (.block 0
 (.loop
 (.seq
 (.seq
 (.reg [mv 7 6,
 oo 8 (.bin .int .lss (.t 7) (.c (.int .i64 64)))])
 (.cond (.t 8)
 .skip
 (.exit 0)))
 (.seq
 (.block 1
 (.seq
 (.reg [mv 11 1,
 mv 12 6,
 oo 13 (.conv .u64 (.t 12)),
 oo 14 (.bin .int .shr (.t 11) (.t 13)),
 oo 15 (.bin .int .and (.t 14) (.c (.int .u64 1))),
 oo 16 (.bin .int .eql (.t 15) (.c (.int .u64 1)))])
 (.cond (.t 16)
 (.reg [mv 17 5,
 mv 18 0,
 mv 19 6,
 oo 20 (.conv .u64 (.t 19)),
 oo 21 (.bin .int .shl (.t 18) (.t 20)),
 oo 22 (.bin .int .add (.t 17) (.t 21)),
 mv 5 22])
 .skip)))
 (.reg [mv 9 6,
 oo 10 (.bin .int .add (.t 9) (.c (.int .i64 1))),
 mv 6 10]))))))
 (.seq
 (.reg [mv 23 5,
 mv 4 23])
 .ret))))
theorem in165 {args : List AV} {σ : Store} {K : AV → Store → Prop} (hargs : args.length ≤ 24 := by simp) (h : AWP Try.prog Try.f165.ntmps c165 (fun e t s => match e with | .exit _ => False | _ => Res [.slot 4] K t s) (env (argList 0 args)) σ) : ACalls Try.prog 165 args σ K :=
 enter (own := []) Try.func165 (by kernel_rfl) (by kernel_rfl) (by kernel_rfl) hargs h
/-- changeling/changelingref01.truth -/
def c166 : ACode :=
(.seq
 (.reg [oo 2 (.move (.c (.int .i64 0)))])
 (.seq
 (.seq
 (.reg [mv 3 0])
 (.cond (.t 3)
 (.seq
 (.reg [oo 2 (.move (.c (.int .i64 1)))])
 .ret)
 .skip))
 (.seq
 (.reg [oo 2 (.move (.c (.int .i64 0)))])
 .ret)))
theorem in166 {args : List AV} {σ : Store} {K : AV → Store → Prop} (hargs : args.length ≤ 4 := by simp) (h : AWP Try.prog Try.f166.ntmps c166 (fun e t s => match e with | .exit _ => False | _ => Res [.slot 2] K t s) (env (argList 0 args)) σ) : ACalls Try.prog 166 args σ K :=
 enter (own := []) Try.func166 (by kernel_rfl) (by kernel_rfl) (by kernel_rfl) hargs h
/-- changeling/changelingref14.cwith -/
def c102 : ACode :=
(.seq
 (.reg [oo 3 (.new 213 (.t 1)),
 oo 4 (.move (.c .nils))])
 (.seq
 (.reg [oo 5 (.move (.c .nils))])
 (.seq
 (.seq
 (.reg [oo 6 (.move (.c (.int .i64 0)))])
 (.block 0
 (.loop
 (.seq
 (.seq
 (.reg [mv 7 6,
 mv 8 0,
 oo 9 (.len .slice (.t 8)),
 oo 10 (.bin .int .lss (.t 7) (.t 9))])
 (.cond (.t 10)
 .skip
 (.exit 0)))
 (.seq
 (.block 1
 (.reg [mv 13 5,
 mv 14 0,
 mv 15 6,
 oo 16 (.iaddr 22 (.t 14) (.t 15)),
 oo 17 (.load (some 22) (.t 16)),
 oo 18 (.lit false 213 22 [(.t 17)]),
 oo 19 (.append 213 22 376 (.t 13) (.t 18)),
 mv 5 19]))
 (.reg [mv 11 6,
 oo 12 (.bin .int .add (.t 11) (.c (.int .i64 1))),
 mv 6 12]))))))
 (.seq
 (.reg [mv 20 5,
 oo 21 (.load (some 22) (.t 3)),
 oo 22 (.lit false 213 22 [(.t 21)]),
 oo 23 (.append 213 22 376 (.t 20) (.t 22)),
 mv 4 23])
 .ret))))
theorem in102 {args : List AV} {σ : Store} {K : AV → Store → Prop} (hargs : args.length ≤ 24 := by simp) (h : AWP Try.prog Try.f102.ntmps c102 (fun e t s => match e with | .exit _ => False | _ => Res [.slot 4] K t s) (env (argList 0 args)) σ) : ACalls Try.prog 102 args σ K :=
 enter (own := []) Try.func102 (by kernel_rfl) (by kernel_rfl) (by kernel_rfl) hargs h
/-- (*changeling/changelingref14.CMachine).cases -/
def c103 : ACode :=
(.seq
 (.reg [oo 4 (.new 54 (.t 1)),
 oo 6 (.new 132 (.c (.agg [(.int .i64 0), (.int .i64 0), (.str ⟨#[]⟩), (.int .i64 0), .nils, (.int .i64 0), (.str ⟨#[]⟩), (.int .i64 0), (.int .i64 0), .nils, .nils, .nils, .nils, .nils, .nils]))),
 oo 7 (.move (.c (.bool false)))])
 (.seq
 (.reg [mv 15 0,
 oo 16 (.faddr 5 (.t 4)),
 oo 17 (.load none (.t 16)),
 oo 18 (.iaddr 9 (.t 17) (.c (.int .i64 0))),
 oo 19 (.load (some 9) (.t 18)),
 mv 20 2,
 oo 21 (.call 54 [(.t 15), (.t 19), (.t 20)]),
 mv 14 21,
 oo 22 (.extract (.t 14) 0),
 oo 23 (.extract (.t 14) 1),
 oo 8 (.new 132 (.c (.agg [(.int .i64 0), (.int .i64 0), (.str ⟨#[]⟩), (.int .i64 0), .nils, (.int .i64 0), (.str ⟨#[]⟩), (.int .i64 0), (.int .i64 0), .nils, .nils, .nils, .nils, .nils, .nils]))),
 ⟨none, .store 15 (.t 8) (.t 22), none⟩,
 mv 9 23])
 (.seq
 (.seq
 (.reg [mv 24 9,
 oo 25 (.not (.t 24))])
 (.cond (.t 25)
 (.seq
 (.reg [oo 26 (.load (some 15) (.t 8)),
 ⟨none, .store 15 (.t 6) (.t 26), none⟩,
 oo 7 (.move (.c (.bool false)))])
 .ret)
 .skip))
 (.seq
 (.seq
 (.reg [oo 10 (.move (.c (.int .i64 0)))])
 (.block 0
 (.loop
 (.seq
 (.seq
 (.reg [mv 27 10,
 oo 28 (.faddr 6 (.t 4)),
 oo 29 (.load none (.t 28)),
 oo 30 (.len .slice (.t 29)),
 oo 31 (.bin .int .lss (.t 27) (.t 30))])
 (.cond (.t 31)
 .skip
 (.exit 0)))
 (.seq
 (.block 1
 (.seq
 (.reg [oo 34 (.faddr 6 (.t 4)),
 oo 35 (.load none (.t 34)),
 mv 36 10,
 oo 37 (.iaddr 13 (.t 35) (.t 36)),
 oo 38 (.load (some 13) (.t 37)),
 oo 11 (.new 113 (.c (.agg [(.int .i64 0), (.str ⟨#[]⟩), (.int .i64 0), .nils, (.int .i64 0), (.str ⟨#[]⟩), (.int .i64 0), (.int .i64 0), .nils, .nils, .nils, .nils, .nils]))),
 ⟨none, .store 13 (.t 11) (.t 38), none⟩])
 (.seq
 (.seq
 (.reg [oo 39 (.faddr 0 (.t 11)),
 oo 40 (.load none (.t 39)),
 oo 41 (.bin .int .eql (.t 40) (.c (.int .i64 3))),
 mv 42 41,
 og 43 42 false (.faddr 0 (.t 11)),
 og 44 42 false (.load none (.t 43)),
 og 45 42 false (.bin .int .eql (.t 44) (.c (.int .i64 2))),
 og 46 42 false (.move (.t 45)),
 og 47 46 true (.faddr 0 (.t 8)),
 og 48 46 true (.load none (.t 47)),
 og 49 46 true (.bin .int .eql (.t 48) (.c (.int .i64 1))),
 og 50 42 false (.pick (.t 46) (.t 49) (.c (.bool false))),
 og 51 42 false (.move (.t 50)),
 og 52 51 true (.faddr 1 (.t 8)),
 og 53 51 true (.load none (.t 52)),
 og 54 51 true (.faddr 2 (.t 11)),
 og 55 51 true (.load none (.t 54)),
 og 56 51 true (.bin .int .eql (.t 53) (.t 55)),
 og 57 42 false (.pick (.t 51) (.t 56) (.c (.bool false))),
 oo 58 (.pick (.t 42) (.c (.bool true)) (.t 57))])
 (.cond (.t 58)
 (.seq
 (.reg [mv 59 0,
 oo 60 (.faddr 4 (.t 11)),
 oo 61 (.load (some 9) (.t 60)),
 mv 62 2,
 oo 63 (.call 54 [(.t 59), (.t 61), (.t 62)]),
 oo 64 (.extract (.t 63) 0),
 oo 65 (.extract (.t 63) 1),
 ⟨none, .store 15 (.t 6) (.t 64), none⟩,
 mv 7 65])
 .ret)
 .skip))
 (.seq
 (.reg [oo 66 (.faddr 0 (.t 11)),
 oo 67 (.load none (.t 66)),
 oo 68 (.bin .int .eql (.t 67) (.c (.int .i64 1))),
 mv 69 68,
 og 70 69 true (.faddr 0 (.t 8)),
 og 71 69 true (.load none (.t 70)),
 og 72 69 true (.bin .int .eql (.t 71) (.c (.int .i64 2))),
 oo 73 (.pick (.t 69) (.t 72) (.c (.bool false))),
 mv 74 73,
 og 75 74 true (.faddr 2 (.t 8)),
 og 76 74 true (.load none (.t 75)),
 og 77 74 true (.faddr 1 (.t 11)),
 og 78 74 true (.load none (.t 77)),
 og 79 74 true (.bin .str .eql (.t 76) (.t 78)),
 oo 80 (.pick (.t 74) (.t 79) (.c (.bool false)))])
 (.cond (.t 80)
 (.seq
 (.seq
 (.reg [oo 81 (.faddr 4 (.t 8)),
 oo 82 (.load none (.t 81)),
 oo 83 (.len .slice (.t 82)),
 oo 84 (.faddr 3 (.t 11)),
 oo 85 (.load none (.t 84)),
 oo 86 (.len .slice (.t 85)),
 oo 87 (.bin .int .neq (.t 83) (.t 86))])
 (.cond (.t 87)
 (.seq
 (.reg [mv 88 0,
 oo 89 (.call 100 [(.t 88), (.c (.int .i64 (-2)))]),
 oo 90 (.extract (.t 89) 0),
 oo 91 (.extract (.t 89) 1),
 ⟨none, .store 15 (.t 6) (.t 90), none⟩,
 mv 7 91])
 .ret)
 .skip))
 (.seq
 (.reg [mv 92 2,
 mv 12 92])
 (.seq
 (.seq
 (.reg [oo 13 (.move (.c (.int .i64 0)))])
 (.block 2
 (.loop
 (.seq
 (.seq
 (.reg [mv 93 13,
 oo 94 (.faddr 3 (.t 11)),
 oo 95 (.load none (.t 94)),
 oo 96 (.len .slice (.t 95)),
 oo 97 (.bin .int .lss (.t 93) (.t 96))])
 (.cond (.t 97)
 .skip
 (.exit 2)))
 (.seq
 (.block 3
 (.reg [mv 100 12,
 oo 101 (.faddr 3 (.t 11)),
 oo 102 (.load none (.t 101)),
 mv 103 13,
 oo 104 (.iaddr 1 (.t 102) (.t 103)),
 oo 105 (.load none (.t 104)),
 oo 106 (.faddr 4 (.t 8)),
 oo 107 (.load none (.t 106)),
 mv 108 13,
 oo 109 (.iaddr 10 (.t 107) (.t 108)),
 oo 110 (.load (some 10) (.t 109)),
 oo 111 (.build [(.str ⟨#[]⟩), (.int .i64 0), (.str ⟨#[]⟩), (.int .i64 0), (.int .i64 0), .nils, .nils, .nils, .nils, .nils, .nils, (.bool false), (.int .i64 0), (.str ⟨#[]⟩), (.int .i64 0), (.int .i64 0), .nils, .nils, .nils, .nils, .nils, (.int .i64 0)] [(0, 1, (.t 105)), (1, 10, (.t 110))]),
 oo 112 (.call 102 [(.t 100), (.t 111)]),
 mv 12 112]))
 (.reg [mv 98 13,
 oo 99 (.bin .int .add (.t 98) (.c (.int .i64 1))),
 mv 13 99]))))))
 (.seq
 (.reg [mv 113 0,
 oo 114 (.faddr 4 (.t 11)),
 oo 115 (.load (some 9) (.t 114)),
 mv 116 12,
 oo 117 (.call 54 [(.t 113), (.t 115), (.t 116)]),
 oo 118 (.extract (.t 117) 0),
 oo 119 (.extract (.t 117) 1),
 ⟨none, .store 15 (.t 6) (.t 118), none⟩,
 mv 7 119])
 .ret))))
 .skip)))))
 (.reg [mv 32 10,
 oo 33 (.bin .int .add (.t 32) (.c (.int .i64 1))),
 mv 10 33]))))))
 (.seq
 (.reg [mv 120 0,
 oo 121 (.call 100 [(.t 120), (.c (.int .i64 (-2)))]),
 oo 122 (.extract (.t 121) 0),
 oo 123 (.extract (.t 121) 1),
 ⟨none, .store 15 (.t 6) (.t 122), none⟩,
 mv 7 123])
 .ret)))))
theorem in103 {args : List AV} {σ : Store} {K : AV → Store → Prop} (hargs : args.length ≤ 124 := by simp) (h : AWP Try.prog Try.f103.ntmps c103 (fun e t s => match e with | .exit _ => False | _ => Res [.cell 6 (some 15), .slot 7] K t s) (env (argList 0 args)) σ) : ACalls Try.prog 103 args σ K :=
 enter (own := []) Try.func103 (by kernel_rfl) (by kernel_rfl) (by kernel_rfl) hargs h
/-- (*changeling/changelingref14.CMachine).Term -/
def c55 : ACode :=
(.seq
 (.reg [oo 3 (.new 132 (.t 1)),
 oo 4 (.new 43 (.c (.agg [(.str ⟨#[]⟩), (.int .i64 0), .nils]))),
 oo 5 (.move (.c (.bool false)))])
 (.seq
 (.seq
 (.reg [oo 11 (.faddr 0 (.t 3)),
 oo 12 (.load none (.t 11)),
 oo 13 (.bin .int .geq (.t 12) (.c (.int .i64 3)))])
 (.cond (.t 13)
 (.seq
 (.reg [oo 14 (.build [(.str ⟨#[]⟩), (.int .i64 0), .nils] [(0, 1, (.c (.str ⟨#[45, 62]⟩)))]),
 ⟨none, .store 3 (.t 4) (.t 14), none⟩,
 oo 5 (.move (.c (.bool true)))])
 .ret)
 .skip))
 (.seq
 (.reg [oo 15 (.faddr 2 (.t 3)),
 oo 16 (.load none (.t 15)),
 oo 17 (.faddr 1 (.t 3)),
 oo 18 (.load none (.t 17)),
 oo 19 (.build [(.str ⟨#[]⟩), (.int .i64 0), .nils] [(0, 1, (.t 16)), (1, 1, (.t 18))]),
 oo 6 (.new 43 (.c (.agg [(.str ⟨#[]⟩), (.int .i64 0), .nils]))),
 ⟨none, .store 3 (.t 6) (.t 19), none⟩])
 (.seq
 (.seq
 (.reg [oo 7 (.move (.c (.int .i64 0)))])
 (.block 0
 (.loop
 (.seq
 (.seq
 (.reg [mv 20 7,
 oo 21 (.faddr 4 (.t 3)),
 oo 22 (.load none (.t 21)),
 oo 23 (.len .slice (.t 22)),
 oo 24 (.bin .int .lss (.t 20) (.t 23))])
 (.cond (.t 24)
 .skip
 (.exit 0)))
 (.seq
 (.block 1
 (.seq
 (.reg [mv 28 0,
 oo 29 (.faddr 4 (.t 3)),
 oo 30 (.load none (.t 29)),
 mv 31 7,
 oo 32 (.iaddr 10 (.t 30) (.t 31)),
 oo 33 (.load (some 10) (.t 32)),
 oo 34 (.call 99 [(.t 28), (.t 33)]),
 mv 27 34,
 oo 35 (.extract (.t 27) 0),
 oo 36 (.extract (.t 27) 1),
 oo 8 (.new 132 (.c (.agg [(.int .i64 0), (.int .i64 0), (.str ⟨#[]⟩), (.int .i64 0), .nils, (.int .i64 0), (.str ⟨#[]⟩), (.int .i64 0), (.int .i64 0), .nils, .nils, .nils, .nils, .nils, .nils]))),
 ⟨none, .store 15 (.t 8) (.t 35), none⟩,
 mv 9 36])
 (.seq
 (.seq
 (.reg [mv 37 9,
 oo 38 (.not (.t 37))])
 (.cond (.t 38)
 (.seq
 (.reg [oo 39 (.load (some 3) (.t 6)),
 ⟨none, .store 3 (.t 4) (.t 39), none⟩,
 oo 5 (.move (.c (.bool false)))])
 .ret)
 .skip))
 (.seq
 (.reg [mv 41 0,
 oo 42 (.load (some 15) (.t 8)),
 oo 43 (.call 55 [(.t 41), (.t 42)]),
 mv 40 43,
 oo 44 (.extract (.t 40) 0),
 oo 45 (.extract (.t 40) 1),
 oo 10 (.new 43 (.c (.agg [(.str ⟨#[]⟩), (.int .i64 0), .nils]))),
 ⟨none, .store 3 (.t 10) (.t 44), none⟩,
 mv 9 45])
 (.seq
 (.seq
 (.reg [mv 46 9,
 oo 47 (.not (.t 46))])
 (.cond (.t 47)
 (.seq
 (.reg [oo 48 (.load (some 3) (.t 6)),
 ⟨none, .store 3 (.t 4) (.t 48), none⟩,
 oo 5 (.move (.c (.bool false)))])
 .ret)
 .skip))
 (.reg [oo 49 (.faddr 2 (.t 6)),
 oo 50 (.load none (.t 49)),
 oo 51 (.load (some 3) (.t 10)),
 oo 52 (.lit false 43 3 [(.t 51)]),
 oo 53 (.append 43 3 48 (.t 50) (.t 52)),
 oo 54 (.faddr 2 (.t 6)),
 ⟨none, .store 1 (.t 54) (.t 53), none⟩]))))))
 (.reg [mv 25 7,
 oo 26 (.bin .int .add (.t 25) (.c (.int .i64 1))),
 mv 7 26]))))))
 (.seq
 (.reg [oo 55 (.load (some 3) (.t 6)),
 ⟨none, .store 3 (.t 4) (.t 55), none⟩,
 oo 5 (.move (.c (.bool true)))])
 .ret)))))
theorem in55 {args : List AV} {σ : Store} {K : AV → Store → Prop} (hargs : args.length ≤ 56 := by simp) (h : AWP Try.prog Try.f55.ntmps c55 (fun e t s => match e with | .exit _ => False | _ => Res [.cell 4 (some 3), .slot 5] K t s) (env (argList 0 args)) σ) : ACalls Try.prog 55 args σ K :=
 enter (own := []) Try.func55 (by kernel_rfl) (by kernel_rfl) (by kernel_rfl) hargs h
/-- changeling/changelingref14.SameOut -/
def c23 : ACode :=
(.seq
 (.reg [oo 2 (.new 63 (.t 0)),
 oo 3 (.new 63 (.t 1)),
 oo 4 (.move (.c (.bool false)))])
 (.seq
 (.reg [oo 5 (.faddr 0 (.t 2)),
 oo 6 (.load none (.t 5)),
 oo 7 (.faddr 0 (.t 3)),
 oo 8 (.load none (.t 7)),
 oo 9 (.bin .int .eql (.t 6) (.t 8)),
 mv 10 9,
 og 11 10 true (.faddr 1 (.t 2)),
 og 12 10 true (.load (some 3) (.t 11)),
 og 13 10 true (.faddr 1 (.t 3)),
 og 14 10 true (.load (some 3) (.t 13)),
 og 15 10 true (.call 45 [(.t 12), (.t 14)]),
 oo 16 (.pick (.t 10) (.t 15) (.c (.bool false))),
 mv 4 16])
 .ret))
theorem in23 {args : List AV} {σ : Store} {K : AV → Store → Prop} (hargs : args.length ≤ 17 := by simp) (h : AWP Try.prog Try.f23.ntmps c23 (fun e t s => match e with | .exit _ => False | _ => Res [.slot 4] K t s) (env (argList 0 args)) σ) : ACalls Try.prog 23 args σ K :=
 enter (own := []) Try.func23 (by kernel_rfl) (by kernel_rfl) (by kernel_rfl) hargs h
/-- changeling/changelingref14.SameTerm -/
def c45 : ACode :=
(.seq
 (.reg [oo 2 (.new 43 (.t 0)),
 oo 3 (.new 43 (.t 1)),
 oo 4 (.move (.c (.bool false)))])
 (.seq
 (.seq
 (.reg [oo 6 (.faddr 0 (.t 2)),
 oo 7 (.load none (.t 6)),
 oo 8 (.faddr 0 (.t 3)),
 oo 9 (.load none (.t 8)),
 oo 10 (.bin .str .neq (.t 7) (.t 9)),
 mv 11 10,
 og 12 11 false (.faddr 1 (.t 2)),
 og 13 11 false (.load none (.t 12)),
 og 14 11 false (.faddr 1 (.t 3)),
 og 15 11 false (.load none (.t 14)),
 og 16 11 false (.bin .int .neq (.t 13) (.t 15)),
 oo 17 (.pick (.t 11) (.c (.bool true)) (.t 16)),
 mv 18 17,
 og 19 18 false (.faddr 2 (.t 2)),
 og 20 18 false (.load none (.t 19)),
 og 21 18 false (.len .slice (.t 20)),
 og 22 18 false (.faddr 2 (.t 3)),
 og 23 18 false (.load none (.t 22)),
 og 24 18 false (.len .slice (.t 23)),
 og 25 18 false (.bin .int .neq (.t 21) (.t 24)),
 oo 26 (.pick (.t 18) (.c (.bool true)) (.t 25))])
 (.cond (.t 26)
 (.seq
 (.reg [oo 4 (.move (.c (.bool false)))])
 .ret)
 .skip))
 (.seq
 (.seq
 (.reg [oo 5 (.move (.c (.int .i64 0)))])
 (.block 0
 (.loop
 (.seq
 (.seq
 (.reg [mv 27 5,
 oo 28 (.faddr 2 (.t 2)),
 oo 29 (.load none (.t 28)),
 oo 30 (.len .slice (.t 29)),
 oo 31 (.bin .int .lss (.t 27) (.t 30))])
 (.cond (.t 31)
 .skip
 (.exit 0)))
 (.seq
 (.block 1
 (.seq
 (.reg [oo 34 (.faddr 2 (.t 2)),
 oo 35 (.load none (.t 34)),
 mv 36 5,
 oo 37 (.iaddr 3 (.t 35) (.t 36)),
 oo 38 (.load (some 3) (.t 37)),
 oo 39 (.faddr 2 (.t 3)),
 oo 40 (.load none (.t 39)),
 mv 41 5,
 oo 42 (.iaddr 3 (.t 40) (.t 41)),
 oo 43 (.load (some 3) (.t 42)),
 oo 44 (.call 45 [(.t 38), (.t 43)]),
 oo 45 (.not (.t 44))])
 (.cond (.t 45)
 (.seq
 (.reg [oo 4 (.move (.c (.bool false)))])
 .ret)
 .skip)))
 (.reg [mv 32 5,
 oo 33 (.bin .int .add (.t 32) (.c (.int .i64 1))),
 mv 5 33]))))))
 (.seq
 (.reg [oo 4 (.move (.c (.bool true)))])
 .ret))))
theorem in45 {args : List AV} {σ : Store} {K : AV → Store → Prop} (hargs : args.length ≤ 46 := by simp) (h : AWP Try.prog Try.f45.ntmps c45 (fun e t s => match e with | .exit _ => False | _ => Res [.slot 4] K t s) (env (argList 0 args)) σ) : ACalls Try.prog 45 args σ K :=
 enter (own := []) Try.func45 (by kernel_rfl) (by kernel_rfl) (by kernel_rfl) hargs h
end Go.Proofs.Ytjjbjibbjbbeaaa
/- The machine that means expressions by name: its data; names in scope. -/
set_option linter.unusedVariables false
set_option linter.unusedSimpArgs false
namespace Go.AL
/-! ### Data -/
def thkE (nm : ByteArray) (c : Cr) (fl : List (List AV)) : List AV := .str nm :: (c.cells ++ [.list fl, .bool false] ++ zeroC ++ [.int .i64 0])
def recE (nm : ByteArray) (c : Cr) (u : Nat) : List AV := .str nm :: (zeroC ++ [.nils, .bool true] ++ c.cells ++ [.int .i64 u])
def Env.flat : Env → List (List AV)
 | .nil => []
 | .thk e nm c e' => e.flat ++ [thkE nm c e'.flat]
 | .lets e bs => e.flat ++ bs.map fun b => recE b.1 b.2 (e.flat.length + bs.length)
def thkC (t : Thk) : List AV := t.1.cells ++ [.list t.2.flat]
def valK (k n : Int) (con : ByteArray) (need : Int) (args : List Thk) : List AV := [.int .i64 k, .int .i64 n, .str con, .int .i64 need, .list (args.map thkC)]
def Val.cells : Val → List AV
 | .whole n => valK 1 n ⟨#[]⟩ 0 [] ++ zeroC ++ [.nils]
 | .made con args => valK 2 0 con 0 args ++ zeroC ++ [.nils]
 | .lam args c e => valK 4 0 ⟨#[]⟩ c.pss.length args ++ c.cells ++ [.list e.flat]
 | .maker con need args => valK 5 0 con need args ++ zeroC ++ [.nils]
 | .prim n args => valK 6 n ⟨#[]⟩ 2 args ++ zeroC ++ [.nils]
def valZ : List AV := [.int .i64 0, .int .i64 0, .str ⟨#[]⟩, .int .i64 0, .nils] ++ zeroC ++ [.nils]
theorem zeroC_len : zeroC.length = 9 := rfl
theorem thkE_len (nm : ByteArray) (c : Cr) (fl : List (List AV)) : (thkE nm c fl).length = 22 := by simp [thkE, Cr.len, zeroC_len]
theorem recE_len (nm : ByteArray) (c : Cr) (u : Nat) : (recE nm c u).length = 22 := by simp [recE, Cr.len, zeroC_len]
theorem thkC_len (t : Thk) : (thkC t).length = 10 := by simp [thkC, Cr.len]
theorem Val.len (v : Val) : v.cells.length = 15 := by cases v <;> simp [Val.cells, valK, zeroC_len, Cr.len]
theorem flat_len : ∀ (e : Env), ∀ q, q ∈ e.flat → q.length = 22
 | .nil, q, h => by simp [Env.flat] at h
 | .thk e nm c e', q, h => by
  rw [Env.flat] at h
  rcases List.mem_append.1 h with h | h
  · exact flat_len e q h
  · simp at h; subst h; exact thkE_len _ _ _
 | .lets e bs, q, h => by
  rw [Env.flat] at h
  rcases List.mem_append.1 h with h | h
  · exact flat_len e q h
  · obtain ⟨b, _, rfl⟩ := List.mem_map.1 h; exact recE_len _ _ _
/-! What is read from an entry. -/
theorem thkE_nm (nm : ByteArray) (c : Cr) (fl : List (List AV)) : (thkE nm c fl)[0]? = some (.str nm) := rfl
theorem recE_nm (nm : ByteArray) (c : Cr) (u : Nat) : (recE nm c u)[0]? = some (.str nm) := rfl
theorem thkE_rec (nm : ByteArray) (c : Cr) (fl : List (List AV)) : (thkE nm c fl)[11]? = some (.bool false) := by
 rw [thkE, List.getElem?_cons_succ, List.append_assoc, List.append_assoc, List.getElem?_append_right (by rw [Cr.len]; omega), Cr.len]; rfl
theorem recE_rec (nm : ByteArray) (c : Cr) (u : Nat) : (recE nm c u)[11]? = some (.bool true) := rfl
theorem recE_up (nm : ByteArray) (c : Cr) (u : Nat) : (recE nm c u)[21]? = some (.int .i64 u) := by
 rw [recE, List.getElem?_cons_succ, List.getElem?_append_right (by simp [Cr.len, zeroC_len])]; simp [Cr.len, zeroC_len]
theorem thkE_t (nm : ByteArray) (c : Cr) (fl : List (List AV)) : (List.drop 1 (thkE nm c fl)).take 10 = c.cells ++ [.list fl] := by
 rw [thkE, List.drop_succ_cons, List.drop_zero]
 rw [show c.cells ++ [AV.list fl, .bool false] ++ zeroC ++ [.int .i64 0] = (c.cells ++ [AV.list fl]) ++ ([.bool false] ++ zeroC ++ [.int .i64 0]) by simp]
 rw [List.take_append_of_le_length (by simp [Cr.len]), List.take_of_length_le (by simp [Cr.len])]
theorem recE_b (nm : ByteArray) (c : Cr) (u : Nat) : (List.drop 12 (recE nm c u)).take 9 = c.cells := by
 have : recE nm c u = (.str nm :: (zeroC ++ [.nils, .bool true])) ++ (c.cells ++ [.int .i64 u]) := by simp [recE]
 rw [this, List.drop_append_of_le_length (by simp [zeroC_len]), List.drop_of_length_le (by simp [zeroC_len]), List.nil_append, List.take_append_of_le_length (by simp [Cr.len]), List.take_of_length_le (by simp [Cr.len])]
theorem thkC_c (t : Thk) : (List.take 9 (thkC t)) = t.1.cells := by rw [thkC, List.take_append_of_le_length (by simp [Cr.len]), List.take_of_length_le (by simp [Cr.len])]
theorem thkC_e (t : Thk) : (thkC t)[9]? = some (.list t.2.flat) := by rw [thkC, List.getElem?_append_right (by rw [Cr.len]; omega), Cr.len]; rfl
theorem thkC_10 (t : Thk) : (List.take 10 (thkC t)) = thkC t := List.take_of_length_le (by rw [thkC_len]; omega)
/-! ### Entries -/
/-- A name, what it is bound to, and whether it is one of bindings. -/
abbrev Ent := ByteArray × Cr × Env × Bool
def Env.ents : Env → List Ent
 | .nil => []
 | .thk e nm c e' => e.ents ++ [(nm, c, e', false)]
 | .lets e bs => e.ents ++ bs.map fun b => (b.1, b.2, .lets e bs, true)
def entC : Ent → List AV
 | (nm, c, e, true) => recE nm c e.flat.length
 | (nm, c, e, false) => thkE nm c e.flat
theorem flat_ents : ∀ (e : Env), e.flat = e.ents.map entC
 | .nil => rfl
 | .thk e nm c e' => by rw [Env.flat, Env.ents, flat_ents e]; simp [entC]
 | .lets e bs => by
  rw [Env.flat, Env.ents, List.map_append, ← flat_ents e, List.map_map]
  congr 1
  refine List.map_congr_left fun b hb => ?_
  simp [entC, Env.flat]
theorem entsE_len (e : Env) : e.ents.length = e.flat.length := by rw [flat_ents]; simp
def lastE (x : ByteArray) : List Ent → Option Thk
 | [] => none
 | a :: r => match lastE x r with
  | some t => some t
  | none => if a.1 = x then some (a.2.1, a.2.2.1) else none
theorem lastE_app (x : ByteArray) : ∀ (l m : List Ent), lastE x (l ++ m) = match lastE x m with | some t => some t | none => lastE x l
 | [], m => by cases h : lastE x m <;> simp [lastE, h]
 | a :: r, m => by
  rw [List.cons_append, lastE, lastE_app x r m]
  cases h : lastE x m <;> simp [lastE]
theorem lastE_bs (x : ByteArray) (E : Env) : ∀ (bs : List (ByteArray × Cr)), lastE x (bs.map fun b => (b.1, b.2, E, true)) = (lastB x bs).map fun c => (c, E)
 | [] => rfl
 | b :: r => by
  rw [List.map_cons, lastE, lastE_bs x E r, lastB]
  cases h : lastB x r with
  | some c => rfl
  | none => simp only [Option.map_none]; split <;> rfl
theorem look_ents (x : ByteArray) : ∀ (e : Env), e.look x = lastE x e.ents
 | .nil => rfl
 | .thk e nm c e' => by
  rw [Env.look, Env.ents, lastE_app, look_ents x e]
  simp only [lastE]
  split <;> simp_all
 | .lets e bs => by
  rw [Env.look, Env.ents, lastE_app, lastE_bs, look_ents x e]
  cases lastB x bs <;> rfl
/-! ### What is well formed -/
inductive Gd : Cr → Prop
 | mk {k : Int} {nm : ByteArray} {n ar : Int} {ps : List ByteArray} {gs : List Cr} {al : List (AltH × Cr)} {bs : List (ByteArray × Cr)} {pk : List (Int × Cr)} (hn : Nd (.mk k nm n ar ps gs al bs pk))
  (hl : ps.length ≤ 5000000 ∧ al.length ≤ 5000000 ∧ bs.length ≤ 5000000 ∧ pk.length ≤ 5000000 ∧ ∀ a, a ∈ al → a.1.ps.length ≤ 5000000)
  (h1 : ∀ x, x ∈ gs → Gd x) (h2 : ∀ x, x ∈ al → Gd x.2) (h3 : ∀ x, x ∈ bs → Gd x.2) (h4 : ∀ x, x ∈ pk → Gd x.2) : Gd (.mk k nm n ar ps gs al bs pk)
inductive WfE (b : Nat) : Env → Prop
 | nil : WfE b .nil
 | thk {e : Env} {nm : ByteArray} {c : Cr} {e' : Env} (h : WfE b e) (hc : Gd c) (h' : WfE b e') (hl : e.flat.length + 1 ≤ b) : WfE b (.thk e nm c e')
 | lets {e : Env} {bs : List (ByteArray × Cr)} (h : WfE b e) (hc : ∀ x, x ∈ bs → Gd x.2) (hl : e.flat.length + bs.length ≤ b) : WfE b (.lets e bs)
theorem WfE.mono {b b' : Nat} (hb : b ≤ b') {e : Env} (h : WfE b e) : WfE b' e := by
 induction h with
 | nil => exact .nil
 | thk _ hc _ hl i1 i2 => exact .thk i1 hc i2 (by omega)
 | lets _ hc hl i1 => exact .lets i1 hc (by omega)
theorem WfE.len {b : Nat} {e : Env} (h : WfE b e) : e.flat.length ≤ b := by
 cases h with
 | nil => simp [Env.flat]
 | thk _ _ _ hl => simp [Env.flat]; omega
 | lets _ _ hl => simp [Env.flat]; omega
/-- An entry leads to what is well formed; a binding's place is the names up to it. -/
theorem WfE.ent {b : Nat} {e : Env} (h : WfE b e) : ∀ a, a ∈ e.ents → Gd a.2.1 ∧ WfE b a.2.2.1 ∧ (a.2.2.2 = true → a.2.2.1.flat.length ≤ e.flat.length ∧ e.flat.take a.2.2.1.flat.length = a.2.2.1.flat) := by
 induction h with
 | nil => intro a ha; simp [Env.ents] at ha
 | thk h hc h' hl i1 i2 =>
  intro a ha
  rw [Env.ents] at ha
  rcases List.mem_append.1 ha with ha | ha
  · obtain ⟨h1, h2, h3⟩ := i1 a ha
    refine ⟨h1, h2, fun hr => ?_⟩
    obtain ⟨h4, h5⟩ := h3 hr
    rw [Env.flat, List.take_append_of_le_length h4]
    exact ⟨by simp; omega, h5⟩
  · simp at ha; subst ha
    exact ⟨hc, h', by simp⟩
 | lets h hc hl i1 =>
  rename_i e bs
  intro a ha
  rw [Env.ents] at ha
  rcases List.mem_append.1 ha with ha | ha
  · obtain ⟨h1, h2, h3⟩ := i1 a ha
    refine ⟨h1, h2, fun hr => ?_⟩
    obtain ⟨h4, h5⟩ := h3 hr
    rw [Env.flat, List.take_append_of_le_length h4]
    exact ⟨by simp; omega, h5⟩
  · obtain ⟨x, hx, rfl⟩ := List.mem_map.1 ha
    exact ⟨hc x hx, .lets h hc hl, fun _ => ⟨Nat.le_refl _, List.take_of_length_le (Nat.le_refl _)⟩⟩
def WfT (b : Nat) (t : Thk) : Prop := Gd t.1 ∧ WfE b t.2
def WfA (b : Nat) (l : List Thk) : Prop := l.length ≤ b ∧ ∀ t, t ∈ l → WfT b t
def WfV (b : Nat) : Val → Prop
 | .whole _ => True
 | .made _ args => WfA b args
 | .lam args c e => WfA b args ∧ Gd c ∧ c.kd = 6 ∧ args.length < c.pss.length ∧ WfE b e
 | .maker _ _ args => WfA b args
 | .prim _ args => WfA b args ∧ args.length < 2
theorem WfT.mono {b b' : Nat} (hb : b ≤ b') {t : Thk} (h : WfT b t) : WfT b' t := ⟨h.1, h.2.mono hb⟩
theorem WfA.mono {b b' : Nat} (hb : b ≤ b') {l : List Thk} (h : WfA b l) : WfA b' l := ⟨by have := h.1; omega, fun t ht => (h.2 t ht).mono hb⟩
theorem WfV.mono {b b' : Nat} (hb : b ≤ b') {v : Val} (h : WfV b v) : WfV b' v := by
 cases v with
 | whole n => trivial
 | made c a => exact WfA.mono hb h
 | lam a c e => exact ⟨h.1.mono hb, h.2.1, h.2.2.1, h.2.2.2.1, h.2.2.2.2.mono hb⟩
 | maker c n a => exact WfA.mono hb h
 | prim n a => exact ⟨h.1.mono hb, h.2⟩
theorem ext_flat : ∀ (ps : List ByteArray) (ts : List Thk) (e : Env), ps.length = ts.length → (e.ext ps ts).flat.length = e.flat.length + ts.length
 | [], [], e, _ => by simp [Env.ext]
 | [], _ :: _, e, h => by simp at h
 | _ :: _, [], e, h => by simp at h
 | p :: ps, t :: ts, e, h => by rw [Env.ext, ext_flat ps ts _ (by simpa using h), Env.flat]; simp; omega
theorem ext_snoc (ps : List ByteArray) (ts : List Thk) (p : ByteArray) (t : Thk) (e : Env) (h : ps.length = ts.length) : e.ext (ps ++ [p]) (ts ++ [t]) = .thk (e.ext ps ts) p t.1 t.2 := by
 rw [ext_app _ _ _ _ _ h]; simp [Env.ext]
theorem WfE.ext {b : Nat} : ∀ {ps : List ByteArray} {ts : List Thk} {e : Env}, WfE b e → (∀ t, t ∈ ts → WfT b t) → ps.length = ts.length → e.flat.length + ts.length ≤ b → WfE b (e.ext ps ts)
 | [], [], e, h, _, _, _ => by simpa [Env.ext] using h
 | [], _ :: _, e, h, _, hl, _ => by simp at hl
 | _ :: _, [], e, h, _, hl, _ => by simp at hl
 | p :: ps, t :: ts, e, h, ht, hl, hb => by
  rw [Env.ext]
  simp only [List.length_cons] at hb
  refine WfE.ext (.thk h (ht t (by simp)).1 (ht t (by simp)).2 (by omega)) (fun u hu => ht u (by simp [hu])) (by simpa using hl) (by rw [Env.flat]; simp; omega)
end Go.AL
/- The machine: a step, what goes wrong, names that are added. -/
set_option linter.unusedVariables false
set_option linter.unusedSimpArgs false
namespace Go.AL
def mch (ds : List (ByteArray × Cr)) (sel : Int) (st most : Nat) (out : Int) : AObj := .cells 128 0 5 [[.list (ds.map defC), .int .i64 sel, .int .i64 st, .int .i64 most, .int .i64 out]]
/-- What was there is as it was, but for the machine. -/
structure MK (σ s : Store) (mid : Nat) : Prop where
 next : σ.next ≤ s.next
 keep : ∀ j, j < σ.next → j ≠ mid → s.get j = σ.get j
theorem MK.refl (σ : Store) (mid : Nat) : MK σ σ mid := ⟨Nat.le_refl _, fun _ _ _ => rfl⟩
theorem MK.of {σ s : Store} {mid : Nat} (h : Kp σ s) : MK σ s mid := ⟨h.next, fun j hj _ => h.keep j hj⟩
theorem MK.trans {a b c : Store} {mid : Nat} (h : MK a b mid) (k : MK b c mid) : MK a c mid := ⟨Nat.le_trans h.next k.next, fun j hj hm => by rw [k.keep j (Nat.lt_of_lt_of_le hj h.next) hm, h.keep j hj hm]⟩
theorem MK.push {σ s : Store} {mid : Nat} (h : MK σ s mid) (o : AObj) : MK σ (s.push o) mid := h.trans (.of (.pushed s o))
theorem MK.upd {σ s : Store} {mid : Nat} (h : MK σ s mid) {id : Nat} (hid : σ.next ≤ id) (o : AObj) : MK σ (s.upd id o) mid :=
 ⟨h.next, fun j hj hm => by rw [Store.get_upd_ne _ _ (by omega), h.keep j hj hm]⟩
theorem MK.get {σ s : Store} {mid : Nat} (h : MK σ s mid) {id : Nat} {o : AObj} (e : σ.get id = some o) (hne : id ≠ mid) : s.get id = some o := by rw [h.keep id (σ.lt e) hne]; exact e
/-- What an evaluation's result says. -/
def Sem (D : Defs) (sel : Int) (dF : Int → Int → Int → Int × Int) (most : Nat) (t : Task) (cs : List AV) (b : Bool) (st : Nat) (out : Int) : Prop :=
 (∃ v n, b = true ∧ cs = v.cells ∧ out = 0 ∧ st ≤ most ∧ run D sel dF n t = some (.ok v) ∧ WfV (5000000 * st) v) ∨ (∃ k n, b = false ∧ 0 < k ∧ out = k ∧ run D sel dF n t = some (.bad k)) ∨ (b = false ∧ out < 0)
def Ans (ds : List (ByteArray × Cr)) (sel : Int) (dF : Int → Int → Int → Int × Int) (most : Nat) (t : Task) (σ : Store) (mid st : Nat) (r : AV) (s : Store) : Prop :=
 ∃ (cs : List AV) (b : Bool) (st' : Nat) (out : Int), r = .tuple [.agg cs, .bool b] ∧ cs.length = 15 ∧ s.get mid = some (mch ds sel st' most out) ∧ MK σ s mid ∧ st ≤ st' ∧ Sem (lookD ds) sel dF most t cs b st' out
/-- The same; the result may be told less sharply. -/
def AnsL (ds : List (ByteArray × Cr)) (sel : Int) (dF : Int → Int → Int → Int × Int) (most : Nat) (t : Task) (σ : Store) (mid st : Nat) (r : AV) (s : Store) : Prop := ∃ r', LeD r r' ∧ Ans ds sel dF most t σ mid st r' s
@[congr] theorem AnsL_congr {w : Prop} (hw : Visit = w) {ds : List (ByteArray × Cr)} {sel : Int} {dF : Int → Int → Int → Int × Int} {most : Nat} {t : Task} {σ : Store} {mid st : Nat} {r r' : AV} {s s' : Store} (h : r = r') (h' : s = s') :
 AnsL ds sel dF most t σ mid st r s = AnsL ds sel dF most t σ mid st r' s' := by rw [h, h']
section
variable {ds : List (ByteArray × Cr)} {sel : Int} {dF : Int → Int → Int → Int × Int} {most : Nat}
theorem Sem.of {D : Defs} {t t' : Task} (h : ∀ n r, run D sel dF n t = some r → ∃ n', run D sel dF n' t' = some r) {cs : List AV} {b : Bool} {st : Nat} {out : Int} (k : Sem D sel dF most t cs b st out) : Sem D sel dF most t' cs b st out := by
 rcases k with ⟨v, n, h1, h2, h3, h4, h5, h6⟩ | ⟨k, n, h1, h2, h3, h4⟩ | h1
 · obtain ⟨n', h7⟩ := h n _ h5
   exact .inl ⟨v, n', h1, h2, h3, h4, h7, h6⟩
 · obtain ⟨n', h7⟩ := h n _ h4
   exact .inr (.inl ⟨k, n', h1, h2, h3, h7⟩)
 · exact .inr (.inr h1)
theorem leD_nil5 {a b c d x : AV} {rest : List AV} : LeD (.tuple [.agg (a :: b :: c :: d :: .nils :: rest), x]) (.tuple [.agg (a :: b :: c :: d :: .list [] :: rest), x]) :=
 .tuple (.cons (.agg (.cons (.refl _) (.cons (.refl _) (.cons (.refl _) (.cons (.refl _) (.cons .nil (LeDL.refl _))))))) (.cons (.refl _) .nil))
theorem AnsL.val {t : Task} {σ s : Store} {mid st st' : Nat} {r : AV} (v : Val) (n : Nat) (hle : LeD r (.tuple [.agg v.cells, .bool true])) (hm : s.get mid = some (mch ds sel st' most 0)) (hk : MK σ s mid) (h1 : st ≤ st') (h2 : st' ≤ most)
 (hr : run (lookD ds) sel dF n t = some (.ok v)) (hw : WfV (5000000 * st') v) : AnsL ds sel dF most t σ mid st r s :=
 ⟨_, hle, _, _, _, _, rfl, v.len, hm, hk, h1, .inl ⟨v, n, rfl, rfl, rfl, h2, hr, hw⟩⟩
theorem AnsL.low {t : Task} {σ s : Store} {mid st st' : Nat} {cs : List AV} {out : Int} (hl : cs.length = 15) (hm : s.get mid = some (mch ds sel st' most out)) (hk : MK σ s mid) (h1 : st ≤ st') (ho : out < 0) : AnsL ds sel dF most t σ mid st (.tuple [.agg cs, .bool false]) s :=
 ⟨_, .refl _, _, _, _, _, rfl, hl, hm, hk, h1, .inr (.inr ⟨rfl, ho⟩)⟩
theorem AnsL.bad {t : Task} {σ s : Store} {mid st st' : Nat} {cs : List AV} {k : Int} (n : Nat) (hl : cs.length = 15) (hm : s.get mid = some (mch ds sel st' most k)) (hk : MK σ s mid) (h1 : st ≤ st') (hk0 : 0 < k) (hr : run (lookD ds) sel dF n t = some (.bad k)) : AnsL ds sel dF most t σ mid st (.tuple [.agg cs, .bool false]) s :=
 ⟨_, .refl _, _, _, _, _, rfl, hl, hm, hk, h1, .inr (.inl ⟨k, n, rfl, hk0, rfl, hr⟩)⟩
theorem AnsL.tail {t t' : Task} {σ s : Store} {mid st st' : Nat} {out : Int} {cs : List AV} {b : Bool} (hl : cs.length = 15) (hm : s.get mid = some (mch ds sel st' most out)) (hk : MK σ s mid) (h1 : st ≤ st') (hs : Sem (lookD ds) sel dF most t cs b st' out)
 (h : ∀ n r, run (lookD ds) sel dF n t = some r → ∃ n', run (lookD ds) sel dF n' t' = some r) : AnsL ds sel dF most t' σ mid st (.tuple [.agg cs, .bool b]) s :=
 ⟨_, .refl _, _, _, _, _, rfl, hl, hm, hk, h1, hs.of h⟩
end
theorem entC_cln {n : Nat} {nm : ByteArray} {c : Cr} {fl : List (List AV)} (h : ∀ q, q ∈ fl → ∀ c, c ∈ q → Cln n c) : ∀ x, x ∈ thkE nm c fl → Cln n x := by
 intro x hx
 simp only [thkE, zeroC, List.mem_cons, List.mem_append, List.not_mem_nil, or_false] at hx
 rcases hx with rfl | ((hx | rfl | rfl) | rfl | rfl | rfl | rfl | rfl | rfl | rfl | rfl | rfl) | rfl
 · exact .str _
 · exact c.cln x hx
 · exact .list' h
 · exact .bool _
 · exact .int _ _
 · exact .str _
 · exact .int _ _
 · exact .int _ _
 · exact .nils
 · exact .nils
 · exact .nils
 · exact .nils
 · exact .nils
 · exact .int _ _
theorem recE_cln {n : Nat} {nm : ByteArray} {c : Cr} {u : Nat} : ∀ x, x ∈ recE nm c u → Cln n x := by
 intro x hx
 simp only [recE, zeroC, List.mem_cons, List.mem_append, List.not_mem_nil, or_false] at hx
 rcases hx with rfl | (((rfl | rfl | rfl | rfl | rfl | rfl | rfl | rfl | rfl) | rfl | rfl) | hx) | rfl
 · exact .str _
 · exact .int _ _
 · exact .str _
 · exact .int _ _
 · exact .int _ _
 · exact .nils
 · exact .nils
 · exact .nils
 · exact .nils
 · exact .nils
 · exact .nils
 · exact .bool _
 · exact c.cln x hx
 · exact .int _ _
theorem flat_cln {n : Nat} : ∀ (e : Env), ∀ q, q ∈ e.flat → ∀ c, c ∈ q → Cln n c
 | .nil, q, h => by simp [Env.flat] at h
 | .thk e nm c e', q, h => by
  rw [Env.flat] at h
  rcases List.mem_append.1 h with h | h
  · exact flat_cln e q h
  · simp at h; subst h; exact entC_cln (flat_cln e')
 | .lets e bs, q, h => by
  rw [Env.flat] at h
  rcases List.mem_append.1 h with h | h
  · exact flat_cln e q h
  · obtain ⟨b, _, rfl⟩ := List.mem_map.1 h; exact recE_cln
end Go.AL
namespace Go.Proofs.Ytjjbjibbjbbeaaa
open Go.AL
variable {ds : List (ByteArray × Cr)} {sel : Int} {most : Nat}
theorem step_ok {mid st : Nat} {σ : Store} (hm : σ.get mid = some (mch ds sel st most 0)) (h1 : st ≤ most) (h2 : most ≤ 100000) :
 ACalls Try.prog 98 [.ptr mid 0 0 0] σ fun r s => (∃ b : Bool, r = .bool b ∧ (b = true ↔ st + 1 ≤ most) ∧ s.get mid = some (mch ds sel (st + 1) most (if b then 0 else -1)) ∧ MK σ s mid) := by
 refine in98 (by simp) ?_
 unfold c98
 have hw : IntKind.i64.wrap ((st : Int) + 1) = ((st + 1 : Nat) : Int) := wrap_succ (by omega)
 have hlt := σ.lt hm
 have hm' := hm
 unfold mch at hm'
 have hg : ∀ o : AObj, (σ.upd mid o).get mid = some o := fun o => Store.get_upd_self _ _ hlt
 by_cases hc : st + 1 ≤ most
 · have hc' : ¬ ((st + 1 : Nat) : Int) > (most : Int) := by omega
   have hc2 : ¬ (most : Int) < ((st + 1 : Nat) : Int) := by omega
   refine raw ?_
   repeat (first | (with_reducible refine unr ?_; try simp only [YY, ↓reduceIte, Za, Zb, Zc, reduceCtorEq, Zd, Ze, Zf, Zg, Zh, Zi, Zj, hm', hw, hg, hc', hc2]) | (with_reducible refine WW (by decide) ?_))
   exact ⟨true, rfl, by simp [hc], by simp [mch], (MK.refl σ mid).next, fun j hj hne => Store.get_upd_ne _ _ hne⟩
 · have hc2 : (most : Int) < ((st + 1 : Nat) : Int) := by omega
   have hg2 : ∀ o o' : AObj, ((σ.upd mid o).upd mid o').get mid = some o' := fun o o' => Store.get_upd_self _ _ hlt
   refine raw ?_
   repeat (first | (with_reducible refine unr ?_; try simp only [YY, ↓reduceIte, Za, Zb, Zc, reduceCtorEq, Zd, Ze, Zf, Zg, Zh, Zi, Zj, hm', hw, hg, hg2, hc2]) | (with_reducible refine WW (by decide) ?_))
   refine ⟨false, rfl, by simp [hc], by simp [mch], (MK.refl σ mid).next, fun j hj hne => ?_⟩
   rw [Store.get_upd_ne _ _ hne]
theorem wrong_ok {mid st : Nat} {σ : Store} (hm : σ.get mid = some (mch ds sel st most 0)) (k : Int) :
 ACalls Try.prog 100 [.ptr mid 0 0 0, .int .i64 k] σ fun r s => r = .tuple [.agg valZ, .bool false] ∧ s.get mid = some (mch ds sel st most k) ∧ MK σ s mid := by
 refine in100 (by simp) ?_
 unfold c100
 have hlt := σ.lt hm
 try simp only [YY, ↓reduceIte, Za, Zb, Zc, reduceCtorEq, Zd, Ze, Zf, Zg, Zh, Zi, Zj]
 iterate 2 ((with_reducible refine WW (by decide) ?_); refine unr ?_; try simp only [YY, ↓reduceIte, Za, Zb, Zc, reduceCtorEq, Zd, Ze, Zf, Zg, Zh, Zi, Zj])
 generalize hs : Store.push _ _ = s1
 have k1 : Kp σ s1 := by rw [← hs]; exact .pushed _ _
 have g1 : s1.get σ.next = some (.cells 132 0 15 [valZ]) := by rw [← hs]; simp [Store.push_get]; rfl
 have hm1 := k1.get hm
 unfold mch at hm1
 clear hs
 have hne : mid ≠ σ.next := by omega
 have hlt1 := s1.lt hm1
 have hlt2 := s1.lt g1
 have hg : ∀ o : AObj, (s1.upd mid o).get mid = some o := fun o => Store.get_upd_self _ _ hlt1
 have hg2 : ∀ o : AObj, (s1.upd mid o).get σ.next = some (.cells 132 0 15 [valZ]) := fun o => by rw [Store.get_upd_ne _ _ (by omega)]; exact g1
 have hg3 : ∀ o o' : AObj, ((s1.upd mid o).upd σ.next o').get σ.next = some o' := fun o o' => Store.get_upd_self _ _ hlt2
 have hv : valZ.length = 15 := rfl
 refine raw ?_
 repeat (first | (with_reducible refine unr ?_; try simp only [YY, ↓reduceIte, Za, Zb, Zc, reduceCtorEq, Zd, Ze, Zf, Zg, Zh, Zi, Zj, hm1, hg, hg2, hg3, hv]) | (with_reducible refine WW (by decide) ?_))
 refine ⟨rfl, ?_, ?_⟩
 · rw [Store.get_upd_ne _ _ hne, Store.get_upd_self _ _ hlt1]; rfl
 · refine ⟨k1.next, fun j hj hjm => ?_⟩
   rw [Store.get_upd_ne _ _ (by omega), Store.get_upd_ne _ _ hjm, k1.keep j hj]
theorem cwith_ok (l : List (List AV)) (x : List AV) (hl : ∀ q, q ∈ l → q.length = 22) (hx : x.length = 22) (hcl : ∀ n q, q ∈ l ++ [x] → ∀ c, c ∈ q → Cln n c) (hb : l.length + 1 ≤ 300000000000) (σ : Store) :
 ACalls Try.prog 102 [.list l, .agg x] σ fun r σ' => r = .list (l ++ [x]) ∧ σ' = σ := by
 refine ACalls_fp (p := fun r => r = .list (l ++ [x])) ?_
 refine in102 (by simp) ?_
 unfold c102
 have htk : List.take 22 x = x := List.take_of_length_le (by omega)
 try simp only [YY, ↓reduceIte, Za, Zb, Zc, reduceCtorEq, Zd, Ze, Zf, Zg, Zh, Zi, Zj, hx, htk]
 iterate 2 ((with_reducible refine WW (by decide) ?_); refine unr ?_; try simp only [YY, ↓reduceIte, Za, Zb, Zc, reduceCtorEq, Zd, Ze, Zf, Zg, Zh, Zi, Zj, hx, htk])
 generalize hs : Store.push _ _ = s1
 have k1 : Kp σ s1 := by rw [← hs]; exact .pushed _ _
 have g1 : s1.get σ.next = some (.cells 213 0 22 [x]) := by rw [← hs]; simp [Store.push_get]
 clear hs
 refine raw ?_
 repeat (first | (with_reducible refine unr ?_; try simp only [YY, ↓reduceIte, Za, Zb, Zc, reduceCtorEq, Zd, Ze, Zf, Zg, Zh, Zi, Zj]) | (with_reducible refine WW (by decide) ?_))
 refine AWP_while [0, 3, 5, 6] (fun y : AV × Nat => l.length - y.2) (fun y => [.list l, .ptr σ.next 0 0 0, y.1, .int .i64 y.2])
  (fun y t => y.2 ≤ l.length ∧ Grow s1 t y.1 213 22 (l.take y.2)) (.nils, 0) ⟨by simp, .start _ _ _⟩ ?_ ?_
 · refine raw ?_
   repeat (first | (with_reducible refine unr ?_; try simp only [YY, ↓reduceIte, Za, Zb, Zc, reduceCtorEq, Zd, Ze, Zf, Zg, Zh, Zi, Zj]) | (with_reducible refine WW (by decide) ?_))
   rfl
 rintro ⟨v, i⟩ t ⟨hi, hG⟩
 simp only at hi hG
 have hw := wrap_succ (i := i) (by omega)
 by_cases hil : i < l.length
 · have hil' : (i : Int) < (l.length : Int) := by omega
   obtain ⟨q, hq⟩ : ∃ q, l[i]? = some q := ⟨_, List.getElem?_eq_getElem hil⟩
   have hqm := List.mem_of_getElem? hq
   have hql := hl q hqm
   have hqt : List.take 22 q = q := List.take_of_length_le (by omega)
   refine raw ?_
   repeat (first | (with_reducible refine unr ?_; try simp only [YY, ↓reduceIte, Za, Zb, Zc, reduceCtorEq, Zd, Ze, Zf, Zg, Zh, Zi, Zj, hil', hq, hql, hqt]) | (with_reducible refine WW (by decide) ?_))
   refine ok_grow hG (es2 := [q]) (by simp [hql]) (by simp; omega) (by simp [maxLen]; omega) ?_
   intro v' t3 hG3 _ _
   refine raw ?_
   repeat (first | (with_reducible refine unr ?_; try simp only [YY, ↓reduceIte, Za, Zb, Zc, reduceCtorEq, Zd, Ze, Zf, Zg, Zh, Zi, Zj, hw]) | (with_reducible refine WW (by decide) ?_))
   refine ⟨(v', i + 1), rfl, ⟨by simp only; omega, ?_⟩, by simp only; omega⟩
   rw [List.take_add_one, hq]; exact hG3
 · have hil' : ¬ (i : Int) < (l.length : Int) := by omega
   rw [List.take_of_length_le (by omega)] at hG
   have g2 := hG.kp.get g1
   refine raw ?_
   repeat (first | (with_reducible refine unr ?_; try simp only [YY, ↓reduceIte, Za, Zb, Zc, reduceCtorEq, Zd, Ze, Zf, Zg, Zh, Zi, Zj, hil', g2, hx, htk]) | (with_reducible refine WW (by decide) ?_))
   refine ok_grow hG (es2 := [x]) (by simp [hx]) (by simp; omega) (by simp [maxLen]; omega) ?_
   intro v' t3 hG3 _ _
   refine raw ?_
   repeat (first | (with_reducible refine unr ?_; try simp only [YY, ↓reduceIte, Za, Zb, Zc, reduceCtorEq, Zd, Ze, Zf, Zg, Zh, Zi, Zj]) | (with_reducible refine WW (by decide) ?_))
   exact FP.mk (.list (l ++ [x])) hG3.sl .here rfl (.list' (hcl _)) (k1.trans hG3.kp) (fun j hj => Nat.le_trans k1.next (hG3.fresh j hj))
end Go.Proofs.Ytjjbjibbjbbeaaa
