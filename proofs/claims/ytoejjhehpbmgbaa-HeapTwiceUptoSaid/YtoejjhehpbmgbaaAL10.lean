/- The abstract layer, part 10: rows of operations whose order is drawn. -/
import Derived.Test.YtoejjhehpbmgbaaAL9
set_option linter.unusedVariables false
set_option linter.unusedSimpArgs false
namespace Go.AL
open Go.RowKit

def AX.slot : AX → List Nat
  | .t i => [i]
  | .c _ => []
theorem AX.ev_congr {x : AX} {tm tm' : Nat → AV} (h : ∀ i, i ∈ x.slot → tm i = tm' i) : x.ev tm = x.ev tm' := by
  cases x with
  | t i => exact h i (by simp [AX.slot])
  | c v => rfl

def AOp.xs : AOp → List AX
  | .move x | .new _ x | .load _ x | .nilck x | .not x | .neg x | .conv _ x | .same x | .faddr _ x | .field _ _ x | .extract x _ | .len _ x => [x]
  | .pick a b c => [a, b, c]
  | .build _ ps => ps.map (·.2.2)
  | .lit _ _ _ xs => xs
  | .store _ a x | .bin _ _ a x | .nileq _ _ a x | .mkslice _ _ _ _ a x | .iaddr _ a x | .index a x | .lookup _ _ _ a x | .append _ _ _ a x | .min2 a x => [a, x]
  | .mkfn _ a b => a ++ b
  | .mkmap => []
  | .cut _ _ x lo hi => [x] ++ lo.toList ++ hi.toList
  | .mapset _ m k x => [m, k, x]
  | .call _ args => args
  | .callv f args => f :: args

theorem map_ev_congr {xs : List AX} {tm tm' : Nat → AV} (h : ∀ x, x ∈ xs → x.ev tm = x.ev tm') : xs.map (·.ev tm) = xs.map (·.ev tm') := List.map_congr_left h

theorem AOp.eff_congr {op : AOp} {tm tm' : Nat → AV} (h : ∀ x, x ∈ op.xs → x.ev tm = x.ev tm') (σ : Store) : op.eff tm σ = op.eff tm' σ := by
  cases op <;> simp only [AOp.xs] at h <;> simp only [AOp.eff]
  case build z ps =>
    have : (ps.map fun p => (p.1, p.2.1, p.2.2.ev tm)) = (ps.map fun p => (p.1, p.2.1, p.2.2.ev tm')) := List.map_congr_left fun p hp => by
      rw [h p.2.2 (List.mem_map_of_mem hp)]
    rw [this]
  case lit own ty sz xs => rw [map_ev_congr h]
  case mkfn f a b => rw [map_ev_congr fun x hx => h x (by simp [hx]), map_ev_congr fun x hx => h x (by simp [hx])]
  case cut k sz x lo hi =>
    have h1 := h x (by simp)
    have h2 : lo.map (·.ev tm) = lo.map (·.ev tm') := by cases lo with | none => rfl | some y => simp [h y (by simp)]
    have h3 : hi.map (·.ev tm) = hi.map (·.ev tm') := by cases hi with | none => rfl | some y => simp [h y (by simp)]
    rw [h1, h2, h3]
  all_goals first | rfl | (simp only [List.mem_cons, List.mem_nil_iff, or_false, forall_eq_or_imp, forall_eq] at h; simp only [h])

/-- Its value hangs on its operands alone. -/
def AOp.pure : AOp → Bool
  | .move _ | .pick .. | .build .. | .nilck _ | .bin .. | .nileq .. | .not _ | .neg _ | .conv .. | .same _ | .mkfn .. | .field .. | .index .. | .extract .. | .min2 .. => true
  | .lit own _ _ _ => !own
  | .len k _ => k != .map
  | _ => false
/-- It changes nothing. -/
def AOp.quiet : AOp → Bool
  | .load .. | .cut .. | .faddr .. | .iaddr .. | .lookup .. | .len .. | .call .. | .callv .. => true
  | op => op.pure

theorem AOp.eff_pure {op : AOp} (hp : op.pure = true) {tm : Nat → AV} {σ σ' : Store} {r : AV} (h : op.eff tm σ = some (r, σ')) : σ' = σ ∧ ∀ τ, op.eff tm τ = some (r, τ) := by
  cases op <;> simp only [AOp.pure, Bool.false_eq_true, Bool.not_eq_true'] at hp <;> simp only [AOp.eff] at h ⊢
  case lit own ty sz xs =>
    subst hp
    simp only [Bool.false_eq_true, if_false] at h ⊢
    split at h
    · rename_i es hes; cases h; exact ⟨rfl, fun τ => by simp [hes]⟩
    · cases h
  case len k x =>
    split at h <;> (try simp only [Option.some.injEq, Prod.mk.injEq, reduceCtorEq] at h) <;> first | (obtain ⟨rfl, rfl⟩ := h; rename_i hx; exact ⟨rfl, fun τ => by simp [hx]⟩) | skip
    all_goals simp at hp
  all_goals
    (repeat' split at h) <;> simp only [Option.some.injEq, Prod.mk.injEq, reduceCtorEq] at h <;> (first | (obtain ⟨rfl, rfl⟩ := h; exact ⟨rfl, fun τ => by simp [*]⟩))

theorem AOp.eff_quiet {op : AOp} (hp : op.quiet = true) {tm : Nat → AV} {σ σ' : Store} {r : AV} (h : op.eff tm σ = some (r, σ')) : σ' = σ := by
  by_cases hpp : op.pure = true
  · exact (AOp.eff_pure hpp h).1
  · cases op <;> simp only [AOp.quiet, AOp.pure, Bool.false_eq_true] at hp hpp <;> simp only [AOp.eff] at h
    all_goals first | (exact absurd rfl hpp) | skip
    all_goals (try (exact absurd hp hpp))
    all_goals ((repeat' split at h) <;> simp only [Option.some.injEq, Prod.mk.injEq, reduceCtorEq] at h <;> (first | (exact h.2.symm)))

/-! ### Steps that come to one thing -/
/-- What an operation comes to; a call to one value, the store as it was. -/
def AOp.dval (P : Program) (op : AOp) (tm : Nat → AV) (σ : Store) (r : AV) (σ' : Store) : Prop :=
  match op with
  | .call f args => σ' = σ ∧ ACalls P f (args.map (·.ev tm)) σ fun r' τ => r' = r ∧ τ = σ
  | .callv f args => match f.ev tm with | .fn (.func f) first captured => σ' = σ ∧ ACalls P f (first ++ args.map (·.ev tm) ++ captured) σ (fun r' τ => r' = r ∧ τ = σ) | _ => False
  | op => op.eff tm σ = some (r, σ')
def AOper.dval (P : Program) (o : AOper) (tm : Nat → AV) (σ : Store) (r : AV) (σ' : Store) : Prop :=
  match o.guard with
  | none => o.op.dval P tm σ r σ'
  | some (s, want) =>
    match tm s with
    | .bool b => if b = want then o.op.dval P tm σ r σ' else r = .junk ∧ σ' = σ
    | _ => False
def AOper.uses (o : AOper) : List Nat := o.op.xs.flatMap AX.slot ++ (match o.guard with | some (s, _) => [s] | none => [])

theorem AOp.dval_congr {P : Program} {op : AOp} {tm tm' : Nat → AV} (h : ∀ i, i ∈ op.xs.flatMap AX.slot → tm i = tm' i) {σ σ' : Store} {r : AV} (hv : op.dval P tm σ r σ') : op.dval P tm' σ r σ' := by
  have hx : ∀ x, x ∈ op.xs → x.ev tm = x.ev tm' := fun x hx => AX.ev_congr fun i hi => h i (List.mem_flatMap.2 ⟨x, hx, hi⟩)
  unfold AOp.dval at hv ⊢
  split at hv
  · rename_i f args
    have e : args.map (·.ev tm) = args.map (·.ev tm') := map_ev_congr hx
    rw [← e]; exact hv
  · rename_i f args
    have e1 : f.ev tm = f.ev tm' := hx f (by simp [AOp.xs])
    have e2 : args.map (·.ev tm) = args.map (·.ev tm') := map_ev_congr fun x hm => hx x (by simp [AOp.xs, hm])
    rw [← e1, ← e2]; exact hv
  · rw [← AOp.eff_congr hx]; exact hv
theorem AOper.dval_congr {P : Program} {o : AOper} {tm tm' : Nat → AV} (h : ∀ i, i ∈ o.uses → tm i = tm' i) {σ σ' : Store} {r : AV} (hv : o.dval P tm σ r σ') : o.dval P tm' σ r σ' := by
  obtain ⟨dst, op, guard⟩ := o
  cases guard with
  | none => exact AOp.dval_congr (op := op) (fun i hi => h i (by simp [AOper.uses, hi])) hv
  | some sw =>
    obtain ⟨s, want⟩ := sw
    simp only [AOper.dval] at hv ⊢
    have hs : tm s = tm' s := h s (by simp [AOper.uses])
    rw [← hs]
    split at hv
    · rename_i b hb
      try simp only [hb]
      split at hv
      · rename_i hbw
        rw [if_pos hbw]
        exact AOp.dval_congr (fun i hi => h i (by simp [AOper.uses, hi])) hv
      · rename_i hbw
        rw [if_neg hbw]; exact hv
    · exact hv.elim

theorem AOper.dval_quiet {P : Program} {o : AOper} (hq : o.op.quiet = true) {tm : Nat → AV} {σ σ' : Store} {r : AV} (hv : o.dval P tm σ r σ') : σ' = σ := by
  have key : o.op.dval P tm σ r σ' → σ' = σ := by
    intro hv
    unfold AOp.dval at hv
    split at hv
    · exact hv.1
    · split at hv
      · exact hv.1
      · exact hv.elim
    · exact AOp.eff_quiet hq hv
  unfold AOper.dval at hv
  split at hv
  · exact key hv
  · split at hv
    · split at hv
      · exact key hv
      · exact hv.2
    · exact hv.elim
theorem AOper.dval_pure {P : Program} {o : AOper} (hq : o.op.pure = true) {tm : Nat → AV} {σ σ' : Store} {r : AV} (hv : o.dval P tm σ r σ') : σ' = σ ∧ ∀ τ, o.dval P tm τ r τ := by
  obtain ⟨dst, op, guard⟩ := o
  simp only at hq
  have hd : ∀ τ τ', op.dval P tm τ r τ' ↔ op.eff tm τ = some (r, τ') := by
    intro τ τ'
    unfold AOp.dval
    split <;> first | rfl | (simp [AOp.pure] at hq)
  cases guard with
  | none =>
    simp only [AOper.dval] at hv ⊢
    rw [hd] at hv
    obtain ⟨h1, h2⟩ := AOp.eff_pure hq hv
    exact ⟨h1, fun τ => by rw [hd]; exact h2 τ⟩
  | some sw =>
    obtain ⟨s, want⟩ := sw
    simp only [AOper.dval] at hv ⊢
    split at hv
    · rename_i b hb
      split at hv
      · rename_i hbw
        rw [hd] at hv
        obtain ⟨h1, h2⟩ := AOp.eff_pure hq hv
        exact ⟨h1, fun τ => by rw [if_pos hbw, hd]; exact h2 τ⟩
      · rename_i hbw
        exact ⟨hv.2, fun τ => by rw [if_neg hbw]; exact ⟨hv.1, trivial⟩⟩
    · exact hv.elim

/-- A run of some operations, one after the other. -/
def dRun (P : Program) (al : List AOper) : List Nat → (Nat → AV) → Store → (Nat → AV) → Store → Prop
  | [], tm, σ, tm', σ' => tm' = tm ∧ σ' = σ
  | i :: rest, tm, σ, tm', σ' => ∃ o r σ1, al[i]? = some o ∧ o.dval P tm σ r σ1 ∧ dRun P al rest (put tm o.dst r) σ1 tm' σ'

/-- May two operations change places? -/
def comm (x y : AOper) : Bool :=
  (match x.dst with | some d => !(y.uses).contains d && y.dst != some d | none => true) && (match y.dst with | some d => !(x.uses).contains d | none => true) &&
  (x.op.pure || y.op.pure || (x.op.quiet && y.op.quiet))

theorem put_other {tm : Nat → AV} {dst : Option Nat} {v : AV} {l : List Nat} (h : ∀ d, dst = some d → d ∉ l) : ∀ i, i ∈ l → put tm dst v i = tm i := by
  intro i hi
  cases dst with
  | none => rfl
  | some d =>
    have : i ≠ d := fun e => h d rfl (e ▸ hi)
    simp [put, this]
theorem put_comm (tm : Nat → AV) {x y : Option Nat} (u v : AV) (h : ∀ d, x = some d → y ≠ some d) : put (put tm x u) y v = put (put tm y v) x u := by
  cases x with
  | none => rfl
  | some d =>
    cases y with
    | none => rfl
    | some e =>
      have hne : e ≠ d := fun he => h d rfl (by rw [he])
      funext i
      simp only [put]
      by_cases h1 : i = e
      · subst h1; simp [hne]
      · simp [h1]

theorem dRun_swap {P : Program} {al : List AOper} {i j : Nat} {oi oj : AOper} (hi : al[i]? = some oi) (hj : al[j]? = some oj) (hc : comm oi oj = true) {rest : List Nat} {tm tm' : Nat → AV} {σ σ' : Store}
    (h : dRun P al (i :: j :: rest) tm σ tm' σ') : dRun P al (j :: i :: rest) tm σ tm' σ' := by
  obtain ⟨o1, r1, σ1, e1, v1, o2, r2, σ2, e2, v2, hr⟩ := h
  rw [hi] at e1; cases e1
  rw [hj] at e2; cases e2
  simp only [comm, Bool.and_eq_true] at hc
  obtain ⟨⟨c1, c2⟩, c3⟩ := hc
  have d1 : ∀ d, oi.dst = some d → d ∉ oj.uses := fun d hd => by rw [hd] at c1; simp at c1; exact c1.1
  have d2 : ∀ d, oi.dst = some d → oj.dst ≠ some d := fun d hd => by rw [hd] at c1; simp at c1; exact c1.2
  have d3 : ∀ d, oj.dst = some d → d ∉ oi.uses := fun d hd => by rw [hd] at c2; simp at c2; exact c2
  have v2' : oj.dval P tm σ1 r2 σ2 := AOper.dval_congr (put_other d1) v2
  have fin : ∀ τ, oj.dval P tm σ r2 τ → oi.dval P tm τ r1 σ2 → dRun P al (j :: i :: rest) tm σ tm' σ' := fun τ h1 h2 =>
    ⟨oj, r2, τ, hj, h1, oi, r1, σ2, hi, AOper.dval_congr (fun x hx => (put_other d3 x hx).symm) h2, by rw [← put_comm tm r1 r2 d2]; exact hr⟩
  simp only [Bool.or_eq_true, Bool.and_eq_true] at c3
  rcases c3 with (hp | hp) | ⟨hq1, hq2⟩
  · obtain ⟨rfl, hall⟩ := AOper.dval_pure hp v1
    exact fin σ2 v2' (hall σ2)
  · obtain ⟨rfl, hall⟩ := AOper.dval_pure hp v2'
    exact fin σ (hall σ) v1
  · have q1 := AOper.dval_quiet hq1 v1
    subst q1
    have q2 := AOper.dval_quiet hq2 v2'
    subst q2
    exact fin _ v2' v1

theorem dRun_front {P : Program} {al : List AOper} {i : Nat} {oi : AOper} (hi : al[i]? = some oi) : ∀ (L1 L2 : List Nat) (tm tm' : Nat → AV) (σ σ' : Store),
    (∀ k, k ∈ L1 → ∃ ok, al[k]? = some ok ∧ comm ok oi = true) → dRun P al (L1 ++ i :: L2) tm σ tm' σ' → dRun P al (i :: (L1 ++ L2)) tm σ tm' σ' := by
  intro L1
  induction L1 with
  | nil => intro L2 tm tm' σ σ' _ h; exact h
  | cons k L1 ih =>
    intro L2 tm tm' σ σ' hk h
    obtain ⟨ok, e1, e2⟩ := hk k (by simp)
    obtain ⟨o, r, σ1, e3, v, hr⟩ := h
    have := ih L2 _ _ _ _ (fun k hk' => hk k (by simp [hk'])) hr
    exact dRun_swap e1 hi e2 ⟨o, r, σ1, e3, v, this⟩

/-! ### Which operations are ahead of others -/
inductive Ahead (ops : Array Oper) : Nat → Nat → Prop
  | step {i j : Nat} {o : Oper} {e : Edge} : ops[j]? = some o → e ∈ o.after → Region.binds .any e = true → e.on = i → Ahead ops i j
  | trans {i k j : Nat} {o : Oper} {e : Edge} : ops[j]? = some o → e ∈ o.after → Region.binds .any e = true → e.on = k → Ahead ops i k → Ahead ops i j

/-- For each operation, which are ahead of it: as bits. -/
def aheads : List Oper → Array Nat → Array Nat
  | [], acc => acc
  | o :: rest, acc => aheads rest (acc.push (o.after.toList.foldl (fun s e => if Region.binds .any e then s ||| 2 ^ e.on ||| acc.getD e.on 0 else s) 0))

theorem aheads_fold {ops : Array Oper} {acc : Array Nat} {j : Nat} {o : Oper} (ho : ops[j]? = some o) (hacc : ∀ k i, (acc.getD k 0).testBit i = true → Ahead ops i k) :
    ∀ (l : List Edge) (s : Nat), (∀ e, e ∈ l → e ∈ o.after) → (∀ i, s.testBit i = true → Ahead ops i j) →
      ∀ i, (l.foldl (fun s e => if Region.binds .any e then s ||| 2 ^ e.on ||| acc.getD e.on 0 else s) s).testBit i = true → Ahead ops i j := by
  intro l
  induction l with
  | nil => intro s _ hs i hi; exact hs i hi
  | cons e l ih =>
    intro s hm hs i hi
    simp only [List.foldl_cons] at hi
    refine ih _ (fun e he => hm e (by simp [he])) (fun i' hi' => ?_) i hi
    split at hi'
    · rename_i hb
      rw [Nat.testBit_or, Nat.testBit_or, Bool.or_eq_true, Bool.or_eq_true] at hi'
      rcases hi' with (h1 | h1) | h1
      · exact hs i' h1
      · rw [Nat.testBit_two_pow] at h1
        exact .step ho (hm e (by simp)) hb (by simpa using h1)
      · exact .trans ho (hm e (by simp)) hb rfl (hacc _ _ h1)
    · exact hs i' hi'

theorem aheads_spec {ops : Array Oper} : ∀ (l : List Oper) (acc : Array Nat), ops.toList.drop acc.size = l → (∀ k i, (acc.getD k 0).testBit i = true → Ahead ops i k) →
    ∀ k i, ((aheads l acc).getD k 0).testBit i = true → Ahead ops i k := by
  intro l
  induction l with
  | nil => intro acc _ hacc; exact hacc
  | cons o rest ih =>
    intro acc hd hacc
    have ho : ops[acc.size]? = some o := by
      have := congrArg (·[0]?) hd
      simpa using this
    simp only [aheads]
    refine ih _ (by rw [Array.size_push, ← List.drop_drop, hd]; rfl) (fun k i hk => ?_)
    by_cases h1 : k < acc.size
    · have e : (acc.push (o.after.toList.foldl (fun s e => if Region.binds .any e then s ||| 2 ^ e.on ||| acc.getD e.on 0 else s) 0)).getD k 0 = acc.getD k 0 := by
        simp [Array.getD_eq_getD_getElem?, Array.getElem?_push, Nat.ne_of_lt h1]
      rw [e] at hk
      exact hacc k i hk
    · by_cases h2 : k = acc.size
      · subst h2
        simp only [Array.getD_eq_getD_getElem?, Array.getElem?_push_size, Option.getD_some] at hk
        exact aheads_fold ho hacc o.after.toList 0 (fun e he => by simpa using he) (by simp) i (by simpa only [Array.getD_eq_getD_getElem?] using hk)
      · have e : (acc.push (o.after.toList.foldl (fun s e => if Region.binds .any e then s ||| 2 ^ e.on ||| acc.getD e.on 0 else s) 0)).getD k 0 = 0 := by
          simp [Array.getD_eq_getD_getElem?, Array.getElem?_push, h2]
          rw [Array.getElem?_eq_none (by omega)]
          rfl
        rw [e] at hk
        simp at hk

/-- May a row whose order is drawn be run in the text's order? -/
def drawOK (ops : Array Oper) (al : List AOper) : Bool :=
  (ops.toList.zipIdx.all fun p => p.1.after.all fun e => !Region.binds .any e || decide (e.on < p.2)) &&
  (let b := aheads ops.toList #[]
   al.zipIdx.all fun p => (al.take p.2).zipIdx.all fun q => (b.getD p.2 0).testBit q.2 || comm q.1 p.1)

theorem drawOK_edges {ops : Array Oper} {al : List AOper} (h : drawOK ops al = true) {j : Nat} {o : Oper} (ho : ops[j]? = some o) {e : Edge} (he : e ∈ o.after) (hb : Region.binds .any e = true) : e.on < j := by
  simp only [drawOK, Bool.and_eq_true] at h
  have h1 := List.all_eq_true.1 h.1 (o, j) (by
    rw [List.mem_zipIdx_iff_getElem?]
    simpa using ho)
  have h2 := Array.all_eq_true_iff_forall_mem.1 h1 e he
  simp only [hb, Bool.not_true, Bool.false_or, decide_eq_true_eq] at h2
  exact h2
theorem drawOK_comm {ops : Array Oper} {al : List AOper} (h : drawOK ops al = true) {i j : Nat} {oi oj : AOper} (hi : al[i]? = some oi) (hj : al[j]? = some oj) (hij : i < j) : Ahead ops i j ∨ comm oi oj = true := by
  simp only [drawOK, Bool.and_eq_true] at h
  have h1 := List.all_eq_true.1 h.2 (oj, j) (by rw [List.mem_zipIdx_iff_getElem?]; exact hj)
  have h2 := List.all_eq_true.1 h1 (oi, i) (by
    rw [List.mem_zipIdx_iff_getElem?]
    rw [List.getElem?_take, if_pos hij]
    exact hi)
  simp only [Bool.or_eq_true] at h2
  rcases h2 with h2 | h2
  · exact .inl (aheads_spec ops.toList #[] (by simp) (by simp) j i h2)
  · exact .inr h2

theorem Ahead.listed {ops : Array Oper} {listed : Array Bool} (hdown : ∀ (m : Nat) (o : Oper) (e : Edge), listed.getD m false = true → ops[m]? = some o → e ∈ o.after → Region.binds .any e = true → listed.getD e.on false = true)
    {i j : Nat} (h : Ahead ops i j) (hj : ∀ (o : Oper) (e : Edge), ops[j]? = some o → e ∈ o.after → Region.binds .any e = true → listed.getD e.on false = true) : listed.getD i false = true := by
  induction h with
  | step ho he hb hon => subst hon; exact hj _ _ ho he hb
  | trans ho he hb hon _ ih => subst hon; exact ih fun o e h1 h2 h3 => hdown _ o e (hj _ _ ho he hb) h1 h2 h3

/-- A run of some operations, one after the other; the one of number m, which is the last, by whatever it may come to. -/
def dRunK (P : Program) (al : List AOper) (m : Nat) (K : (Nat → AV) → Store → Prop) : List Nat → (Nat → AV) → Store → Prop
  | [], tm, σ => K tm σ
  | i :: rest, tm, σ => ∃ o, al[i]? = some o ∧ if i = m then (rest = [] ∧ o.wp P tm σ K) else ∃ r σ1, o.dval P tm σ r σ1 ∧ dRunK P al m K rest (put tm o.dst r) σ1
theorem dRunK_swap {P : Program} {al : List AOper} {m : Nat} {K : (Nat → AV) → Store → Prop} {i j : Nat} (him : i ≠ m) (hjm : j ≠ m) {oi oj : AOper} (hi : al[i]? = some oi) (hj : al[j]? = some oj) (hc : comm oi oj = true) {rest : List Nat} {tm : Nat → AV} {σ : Store}
    (h : dRunK P al m K (i :: j :: rest) tm σ) : dRunK P al m K (j :: i :: rest) tm σ := by
  obtain ⟨o1, e1, h⟩ := h
  rw [if_neg him] at h
  obtain ⟨r1, σ1, v1, o2, e2, h⟩ := h
  rw [if_neg hjm] at h
  obtain ⟨r2, σ2, v2, hr⟩ := h
  rw [hi] at e1; cases e1
  rw [hj] at e2; cases e2
  simp only [comm, Bool.and_eq_true] at hc
  obtain ⟨⟨c1, c2⟩, c3⟩ := hc
  have d1 : ∀ d, oi.dst = some d → d ∉ oj.uses := fun d hd => by rw [hd] at c1; simp at c1; exact c1.1
  have d2 : ∀ d, oi.dst = some d → oj.dst ≠ some d := fun d hd => by rw [hd] at c1; simp at c1; exact c1.2
  have d3 : ∀ d, oj.dst = some d → d ∉ oi.uses := fun d hd => by rw [hd] at c2; simp at c2; exact c2
  have v2' : oj.dval P tm σ1 r2 σ2 := AOper.dval_congr (put_other d1) v2
  have fin : ∀ τ, oj.dval P tm σ r2 τ → oi.dval P tm τ r1 σ2 → dRunK P al m K (j :: i :: rest) tm σ := fun τ h1 h2 =>
    ⟨oj, hj, by rw [if_neg hjm]; exact ⟨r2, τ, h1, oi, hi, by rw [if_neg him]; exact ⟨r1, σ2, AOper.dval_congr (fun x hx => (put_other d3 x hx).symm) h2, by rw [← put_comm tm r1 r2 d2]; exact hr⟩⟩⟩
  simp only [Bool.or_eq_true, Bool.and_eq_true] at c3
  rcases c3 with (hp | hp) | ⟨hq1, hq2⟩
  · obtain ⟨rfl, hall⟩ := AOper.dval_pure hp v1
    exact fin σ2 v2' (hall σ2)
  · obtain ⟨rfl, hall⟩ := AOper.dval_pure hp v2'
    exact fin σ (hall σ) v1
  · have q1 := AOper.dval_quiet hq1 v1
    subst q1
    have q2 := AOper.dval_quiet hq2 v2'
    subst q2
    exact fin _ v2' v1
theorem dRunK_front {P : Program} {al : List AOper} {m : Nat} {K : (Nat → AV) → Store → Prop} {i : Nat} {oi : AOper} (hi : al[i]? = some oi) (him : i ≠ m) : ∀ (L1 L2 : List Nat) (tm : Nat → AV) (σ : Store),
    (∀ k, k ∈ L1 → ∃ ok, al[k]? = some ok ∧ comm ok oi = true) → (∀ k, k ∈ L1 → k ≠ m) → dRunK P al m K (L1 ++ i :: L2) tm σ → dRunK P al m K (i :: (L1 ++ L2)) tm σ := by
  intro L1
  induction L1 with
  | nil => intro L2 tm σ _ _ h; exact h
  | cons k L1 ih =>
    intro L2 tm σ hk hkm h
    obtain ⟨ok, e1, e2⟩ := hk k (by simp)
    have hkm1 := hkm k (by simp)
    obtain ⟨o, e3, hx⟩ := h
    rw [if_neg hkm1] at hx
    obtain ⟨r, σ1, v, hr⟩ := hx
    have := ih L2 _ _ (fun k hk' => hk k (by simp [hk'])) (fun k hk' => hkm k (by simp [hk'])) hr
    exact dRunK_swap hkm1 him e1 hi e2 ⟨o, e3, by rw [if_neg hkm1]; exact ⟨r, σ1, v, this⟩⟩

/-- Are all others ahead of the last one? -/
def lastOK (ops : Array Oper) : Bool :=
  let b := aheads ops.toList #[]
  (List.range (ops.size - 1)).all fun i => (b.getD (ops.size - 1) 0).testBit i
theorem lastOK_ahead {ops : Array Oper} (h : lastOK ops = true) (i : Nat) (hi : i < ops.size - 1) : Ahead ops i (ops.size - 1) :=
  aheads_spec ops.toList #[] (by simp) (by simp) _ i (List.all_eq_true.mp h i (List.mem_range.mpr hi))

section
variable {P : Program} {B : Nat} {w0 : World} {n : Nat} {ops : Array Oper} {Q : Exit → Act → World → Prop}

theorem AOp.wp_mono {op : AOp} {tm : Nat → AV} {σ : Store} {K K' : AV → Store → Prop} (hk : ∀ r τ, K r τ → K' r τ) (h : op.wp P tm σ K) : op.wp P tm σ K' := by
  cases op
  case call f args => exact ACalls.mono h hk
  case callv f args =>
    simp only [AOp.wp] at h ⊢
    split at h
    · exact ACalls.mono h hk
    · exact h.elim
  all_goals
    simp only [AOp.wp] at h ⊢
    split at h
    · exact hk _ _ h
    · exact h.elim
theorem AOp.wp_of_dval {op : AOp} {tm : Nat → AV} {σ σ' : Store} {r : AV} (h : op.dval P tm σ r σ') : op.wp P tm σ fun r' τ => r' = r ∧ τ = σ' := by
  cases op
  case call f args => obtain ⟨rfl, h⟩ := h; exact h
  case callv f args =>
    simp only [AOp.dval] at h
    simp only [AOp.wp]
    split at h
    · rename_i heq
      obtain ⟨rfl, h⟩ := h
      rw [heq]
      exact h
    · exact h.elim
  all_goals (simp only [AOp.dval] at h; simp only [AOp.wp, h]; exact ⟨trivial, trivial⟩)
theorem AOper.wp_of_dval {o : AOper} {tm : Nat → AV} {σ σ' : Store} {r : AV} (h : o.dval P tm σ r σ') : o.wp P tm σ fun tm' τ => tm' = put tm o.dst r ∧ τ = σ' := by
  obtain ⟨dst, op, guard⟩ := o
  cases guard with
  | none => exact AOp.wp_mono (fun r' τ ⟨a, b⟩ => ⟨by rw [a], b⟩) (AOp.wp_of_dval (op := op) h)
  | some sw =>
    obtain ⟨s, want⟩ := sw
    simp only [AOper.dval] at h
    simp only [AOper.wp]
    split at h
    · rename_i b hb
      simp only [hb]
      split at h
      · rename_i hbw
        rw [if_pos hbw]
        exact AOp.wp_mono (fun r' τ ⟨a, b⟩ => ⟨by rw [a], b⟩) (AOp.wp_of_dval (op := op) h)
      · rename_i hbw
        rw [if_neg hbw, h.1, h.2]
        exact ⟨rfl, rfl⟩
    · exact h.elim

theorem draw_sound {own : List Nat} {al : List AOper} (hres : ∀ (i : Nat) (o : Oper), ops[i]? = some o → ∃ ao, al[i]? = some ao ∧ resolveOper P own ops n o = some ao) (hlen : al.length = ops.size) (hok : drawOK ops al = true) {tmF : Nat → AV} {σF : Store} {B : Nat} {w0 : World} {g0 : Ghost}
    (hK : ∀ g' a' w', Ext g0 g' → SR B w0 σF g' w' → RelT g' n tmF a' → Q .normal a' w') :
    ∀ (fuel : Nat) (listed : Array Bool) (L : List Nat) (tm : Nat → AV) (σ : Store) (g : Ghost) (a : Act) (w : World), listed.size = ops.size → L = (List.range ops.size).filter (fun i => !listed.getD i true) → L.length ≤ fuel →
      (∀ (m : Nat) (o : Oper) (e : Edge), listed.getD m false = true → ops[m]? = some o → e ∈ o.after → Region.binds .any e = true → listed.getD e.on false = true) →
      dRun P al L tm σ tmF σF → Ext g0 g → SR B w0 σ g w → RelT g n tm a → wpAny P .any ops Q fuel listed a w := by
  intro fuel
  have hfirst : ∀ (listed : Array Bool) (L : List Nat), listed.size = ops.size → L = (List.range ops.size).filter (fun i => !listed.getD i true) → Region.ready .any ops listed = [] → L = [] := by
    intro listed L hsz hL hr
    cases hL0 : L with
    | nil => rfl
    | cons i0 rest =>
      exfalso
      rw [hL0] at hL
      have hmem : i0 ∈ (List.range ops.size).filter (fun i => !listed.getD i true) := by rw [← hL]; simp
      rw [List.mem_filter, List.mem_range] at hmem
      obtain ⟨hlt, hun⟩ := hmem
      have ho : ops[i0]? = some ops[i0] := Array.getElem?_eq_getElem hlt
      have : i0 ∈ Region.ready .any ops listed := by
        rw [mem_ready]
        refine ⟨by simpa using hun, ops[i0], ho, fun e he hb => ?_⟩
        have hlt2 := drawOK_edges hok ho he hb
        cases hle : listed.getD e.on false with
        | true => rfl
        | false =>
          exfalso
          have hmem2 : e.on ∈ i0 :: rest := by
            rw [hL, List.mem_filter, List.mem_range]
            refine ⟨by omega, ?_⟩
            have hlt3 : e.on < listed.size := by omega
            simp [hlt3] at hle ⊢
            exact hle
          have hsorted : (i0 :: rest).Pairwise (· < ·) := by rw [hL]; exact List.Pairwise.filter _ List.pairwise_lt_range
          rw [List.pairwise_cons] at hsorted
          rcases List.mem_cons.1 hmem2 with h1 | h1
          · omega
          · have := hsorted.1 _ h1; omega
      rw [hr] at this
      simp at this
  induction fuel with
  | zero =>
    intro listed L tm σ g a w hsz hL hlenL hdown hrun hE hS hT
    have hnil : L = [] := List.eq_nil_of_length_eq_zero (by omega)
    subst hnil
    obtain ⟨rfl, rfl⟩ := hrun
    refine ⟨?_, hK g a w hE hS hT⟩
    cases hr : Region.ready .any ops listed with
    | nil => rfl
    | cons x xs =>
      exfalso
      have hx : x ∈ Region.ready .any ops listed := by rw [hr]; simp
      rw [mem_ready] at hx
      obtain ⟨h1, o, ho, _⟩ := hx
      have hlt : x < ops.size := (Array.getElem?_eq_some_iff.1 ho).1
      have : x ∈ ([] : List Nat) := by rw [hL, List.mem_filter, List.mem_range]; exact ⟨hlt, by simpa using h1⟩
      simp at this
  | succ fuel ih =>
    intro listed L tm σ g a w hsz hL hlenL hdown hrun hE hS hT
    refine ⟨fun hr => ?_, fun i hi => ?_⟩
    · have hnil := hfirst listed L hsz hL hr
      subst hnil
      obtain ⟨rfl, rfl⟩ := hrun
      exact hK g a w hE hS hT
    · rw [mem_ready] at hi
      obtain ⟨hun, o, ho, hall⟩ := hi
      have hlt : i < ops.size := (Array.getElem?_eq_some_iff.1 ho).1
      have hmem : i ∈ L := by rw [hL, List.mem_filter, List.mem_range]; exact ⟨hlt, by simpa using hun⟩
      obtain ⟨L1, L2, rfl⟩ := List.append_of_mem hmem
      obtain ⟨ao, hao, hra⟩ := hres i o ho
      have hsorted : (L1 ++ i :: L2).Pairwise (· < ·) := by rw [hL]; exact List.Pairwise.filter _ List.pairwise_lt_range
      have hL1 : ∀ k, k ∈ L1 → k < i := fun k hk => (List.pairwise_append.1 hsorted).2.2 k hk i (by simp)
      have hL2 : ∀ k, k ∈ L2 → i < k := fun k hk => (List.pairwise_cons.1 (List.pairwise_append.1 hsorted).2.1).1 k hk
      have hcomm : ∀ k, k ∈ L1 → ∃ ok, al[k]? = some ok ∧ comm ok ao = true := by
        intro k hk
        have hkm : k ∈ L1 ++ i :: L2 := by simp [hk]
        rw [hL, List.mem_filter, List.mem_range] at hkm
        obtain ⟨hk1, hk2⟩ := hkm
        have hka : al[k]? = some (al[k]'(by omega)) := List.getElem?_eq_getElem (by omega)
        refine ⟨_, hka, ?_⟩
        rcases drawOK_comm hok hka hao (hL1 k hk) with h1 | h1
        · exfalso
          have hlk : listed.getD k false = true := h1.listed hdown fun o' e h2 h3 h4 => by rw [ho] at h2; cases h2; exact hall e h3 h4
          have hlt3 : k < listed.size := by omega
          simp [hlt3] at hlk hk2
          rw [hlk] at hk2
          cases hk2
        · exact h1
      have hrun' := dRun_front hao L1 L2 tm tmF σ σF hcomm hrun
      obtain ⟨o', r, σ1, e1, v1, hr1⟩ := hrun'
      rw [hao] at e1
      cases e1
      refine oper_sound ho hra hT hS (AOper.wp_of_dval v1) fun tm' σ' g' a' w' k1 k2 k3 k4 => ?_
      obtain ⟨rfl, rfl⟩ := k1
      refine ih (listed.setIfInBounds i true) (L1 ++ L2) _ _ g' a' w' (by simpa using hsz) ?_ (by simp at hlenL ⊢; omega) (fun m o' e hm ho' he hb => ?_) hr1 (hE.trans k2) k3 k4
      · have hfil : (List.range ops.size).filter (fun x => !(listed.setIfInBounds i true).getD x true) = ((List.range ops.size).filter (fun x => !listed.getD x true)).filter (fun x => x != i) := by
          rw [List.filter_filter]
          congr 1
          funext x
          by_cases hx : x = i
          · subst hx
            have : x < listed.size := by omega
            simp [this]
          · rw [getD_set_ne true (Ne.symm hx)]
            simp [hx]
        rw [hfil, ← hL, List.filter_append, List.filter_cons]
        simp only [bne_self_eq_false, Bool.false_eq_true, if_false]
        rw [List.filter_eq_self.2 (fun k hk => by have := hL1 k hk; simp; omega), List.filter_eq_self.2 (fun k hk => by have := hL2 k hk; simp; omega)]
      · by_cases hmi : m = i
        · subst hmi
          rw [ho] at ho'
          cases ho'
          exact getD_set_true (hall e he hb)
        · rw [getD_set_ne false (Ne.symm hmi)] at hm
          exact getD_set_true (hdown m o' e hm ho' he hb)
theorem draw_soundK {own : List Nat} {al : List AOper} (hres : ∀ (i : Nat) (o : Oper), ops[i]? = some o → ∃ ao, al[i]? = some ao ∧ resolveOper P own ops n o = some ao) (hlen : al.length = ops.size) (hok : drawOK ops al = true) {m : Nat} (hm : ops.size ≤ m + 1) (hlast : ∀ i, i < m → m < ops.size → Ahead ops i m) {K : (Nat → AV) → Store → Prop} {B : Nat} {w0 : World} {g0 : Ghost}
    (hK : ∀ tm' σ' g' a' w', K tm' σ' → Ext g0 g' → SR B w0 σ' g' w' → RelT g' n tm' a' → Q .normal a' w') :
    ∀ (fuel : Nat) (listed : Array Bool) (L : List Nat) (tm : Nat → AV) (σ : Store) (g : Ghost) (a : Act) (w : World), listed.size = ops.size → L = (List.range ops.size).filter (fun i => !listed.getD i true) → L.length ≤ fuel →
      (∀ (m : Nat) (o : Oper) (e : Edge), listed.getD m false = true → ops[m]? = some o → e ∈ o.after → Region.binds .any e = true → listed.getD e.on false = true) →
      dRunK P al m K L tm σ → Ext g0 g → SR B w0 σ g w → RelT g n tm a → wpAny P .any ops Q fuel listed a w := by
  intro fuel
  have hfirst : ∀ (listed : Array Bool) (L : List Nat), listed.size = ops.size → L = (List.range ops.size).filter (fun i => !listed.getD i true) → Region.ready .any ops listed = [] → L = [] := by
    intro listed L hsz hL hr
    cases hL0 : L with
    | nil => rfl
    | cons i0 rest =>
      exfalso
      rw [hL0] at hL
      have hmem : i0 ∈ (List.range ops.size).filter (fun i => !listed.getD i true) := by rw [← hL]; simp
      rw [List.mem_filter, List.mem_range] at hmem
      obtain ⟨hlt, hun⟩ := hmem
      have ho : ops[i0]? = some ops[i0] := Array.getElem?_eq_getElem hlt
      have : i0 ∈ Region.ready .any ops listed := by
        rw [mem_ready]
        refine ⟨by simpa using hun, ops[i0], ho, fun e he hb => ?_⟩
        have hlt2 := drawOK_edges hok ho he hb
        cases hle : listed.getD e.on false with
        | true => rfl
        | false =>
          exfalso
          have hmem2 : e.on ∈ i0 :: rest := by
            rw [hL, List.mem_filter, List.mem_range]
            refine ⟨by omega, ?_⟩
            have hlt3 : e.on < listed.size := by omega
            simp [hlt3] at hle ⊢
            exact hle
          have hsorted : (i0 :: rest).Pairwise (· < ·) := by rw [hL]; exact List.Pairwise.filter _ List.pairwise_lt_range
          rw [List.pairwise_cons] at hsorted
          rcases List.mem_cons.1 hmem2 with h1 | h1
          · omega
          · have := hsorted.1 _ h1; omega
      rw [hr] at this
      simp at this
  induction fuel with
  | zero =>
    intro listed L tm σ g a w hsz hL hlenL hdown hrun hE hS hT
    have hnil : L = [] := List.eq_nil_of_length_eq_zero (by omega)
    subst hnil
    refine ⟨?_, hK tm σ g a w hrun hE hS hT⟩
    cases hr : Region.ready .any ops listed with
    | nil => rfl
    | cons x xs =>
      exfalso
      have hx : x ∈ Region.ready .any ops listed := by rw [hr]; simp
      rw [mem_ready] at hx
      obtain ⟨h1, o, ho, _⟩ := hx
      have hlt : x < ops.size := (Array.getElem?_eq_some_iff.1 ho).1
      have : x ∈ ([] : List Nat) := by rw [hL, List.mem_filter, List.mem_range]; exact ⟨hlt, by simpa using h1⟩
      simp at this
  | succ fuel ih =>
    intro listed L tm σ g a w hsz hL hlenL hdown hrun hE hS hT
    refine ⟨fun hr => ?_, fun i hi => ?_⟩
    · have hnil := hfirst listed L hsz hL hr
      subst hnil
      exact hK tm σ g a w hrun hE hS hT
    · rw [mem_ready] at hi
      obtain ⟨hun, o, ho, hall⟩ := hi
      have hlt : i < ops.size := (Array.getElem?_eq_some_iff.1 ho).1
      have hmem : i ∈ L := by rw [hL, List.mem_filter, List.mem_range]; exact ⟨hlt, by simpa using hun⟩
      obtain ⟨L1, L2, rfl⟩ := List.append_of_mem hmem
      obtain ⟨ao, hao, hra⟩ := hres i o ho
      have hsorted : (L1 ++ i :: L2).Pairwise (· < ·) := by rw [hL]; exact List.Pairwise.filter _ List.pairwise_lt_range
      have hL1 : ∀ k, k ∈ L1 → k < i := fun k hk => (List.pairwise_append.1 hsorted).2.2 k hk i (by simp)
      have hL2 : ∀ k, k ∈ L2 → i < k := fun k hk => (List.pairwise_cons.1 (List.pairwise_append.1 hsorted).2.1).1 k hk
      have hcomm : ∀ k, k ∈ L1 → ∃ ok, al[k]? = some ok ∧ comm ok ao = true := by
        intro k hk
        have hkm : k ∈ L1 ++ i :: L2 := by simp [hk]
        rw [hL, List.mem_filter, List.mem_range] at hkm
        obtain ⟨hk1, hk2⟩ := hkm
        have hka : al[k]? = some (al[k]'(by omega)) := List.getElem?_eq_getElem (by omega)
        refine ⟨_, hka, ?_⟩
        rcases drawOK_comm hok hka hao (hL1 k hk) with h1 | h1
        · exfalso
          have hlk : listed.getD k false = true := h1.listed hdown fun o' e h2 h3 h4 => by rw [ho] at h2; cases h2; exact hall e h3 h4
          have hlt3 : k < listed.size := by omega
          simp [hlt3] at hlk hk2
          rw [hlk] at hk2
          cases hk2
        · exact h1
      have next : ∀ (tm' : Nat → AV) (σ' : Store) (g' : Ghost) (a' : Act) (w' : World), dRunK P al m K (L1 ++ L2) tm' σ' → Ext g g' → SR B w0 σ' g' w' → RelT g' n tm' a' → wpAny P .any ops Q fuel (listed.setIfInBounds i true) a' w' := by
        intro tm' σ' g' a' w' hr1 k2 k3 k4
        refine ih (listed.setIfInBounds i true) (L1 ++ L2) _ _ g' a' w' (by simpa using hsz) ?_ (by simp at hlenL ⊢; omega) (fun q o' e hq ho' he hb => ?_) hr1 (hE.trans k2) k3 k4
        · have hfil : (List.range ops.size).filter (fun x => !(listed.setIfInBounds i true).getD x true) = ((List.range ops.size).filter (fun x => !listed.getD x true)).filter (fun x => x != i) := by
            rw [List.filter_filter]
            congr 1
            funext x
            by_cases hx : x = i
            · subst hx
              have : x < listed.size := by omega
              simp [this]
            · rw [getD_set_ne true (Ne.symm hx)]
              simp [hx]
          rw [hfil, ← hL, List.filter_append, List.filter_cons]
          simp only [bne_self_eq_false, Bool.false_eq_true, if_false]
          rw [List.filter_eq_self.2 (fun k hk => by have := hL1 k hk; simp; omega), List.filter_eq_self.2 (fun k hk => by have := hL2 k hk; simp; omega)]
        · by_cases hmi : q = i
          · subst hmi
            rw [ho] at ho'
            cases ho'
            exact getD_set_true (hall e he hb)
          · rw [getD_set_ne false (Ne.symm hmi)] at hq
            exact getD_set_true (hdown q o' e hq ho' he hb)
      by_cases him : i = m
      · subst him
        have e1 : L1 = [] := by
          cases L1 with
          | nil => rfl
          | cons k L1 =>
            exfalso
            have hk := hL1 k (by simp)
            have hlk : listed.getD k false = true := (hlast k hk hlt).listed hdown fun o' e h2 h3 h4 => by rw [ho] at h2; cases h2; exact hall e h3 h4
            have hkm : k ∈ (k :: L1) ++ i :: L2 := by simp
            rw [hL, List.mem_filter] at hkm
            have hlt3 : k < listed.size := by omega
            have hk2 := hkm.2
            simp [hlt3] at hlk hk2
            rw [hlk] at hk2
            cases hk2
        subst e1
        obtain ⟨o', e3, hx⟩ := hrun
        rw [hao] at e3; cases e3
        rw [if_pos rfl] at hx
        obtain ⟨e2, hwp⟩ := hx
        subst e2
        exact oper_sound ho hra hT hS hwp fun tm' σ' g' a' w' k1 k2 k3 k4 => next tm' σ' g' a' w' k1 k2 k3 k4
      · have hrun' := dRunK_front hao him L1 L2 tm σ hcomm (fun k hk => by have := hL1 k hk; omega) hrun
        obtain ⟨o', e1, hx⟩ := hrun'
        rw [hao] at e1
        cases e1
        rw [if_neg him] at hx
        obtain ⟨r, σ1, v1, hr1⟩ := hx
        refine oper_sound ho hra hT hS (AOper.wp_of_dval v1) fun tm' σ' g' a' w' k1 k2 k3 k4 => ?_
        obtain ⟨rfl, rfl⟩ := k1
        exact next _ _ g' a' w' hr1 k2 k3 k4
end
end Go.AL
