/- The abstract layer, part 23: code is run on values, and what is run so is so. -/
import Derived.Test.YtjjbjibbjbbeaaaAL22
set_option linter.unusedVariables false
set_option linter.unusedSimpArgs false
namespace Go.AL
open Go.RowKit

/-- A tree keyed by numbers. -/
inductive Tr (α : Type) where
  | nil
  | node (v : Option α) (l r : Tr α)
noncomputable def Tr.get {α : Type} (t : Tr α) : Nat → Option α :=
  Tr.rec (motive := fun _ => Nat → Option α) (fun _ => none) (fun v l r gl gr k => Nat.rec (motive := fun _ => Option α) v (fun k _ => Bool.rec (motive := fun _ => Option α) (gr (Nat.div k 2)) (gl (Nat.div k 2)) (Nat.beq (Nat.mod k 2) 0)) k) t
theorem Tr.get_nil' {α : Type} (k : Nat) : (Tr.nil : Tr α).get k = none := (rfl)
theorem Tr.get_zero {α : Type} (v : Option α) (l r : Tr α) : (Tr.node v l r).get 0 = v := (rfl)
theorem Tr.get_succ {α : Type} (v : Option α) (l r : Tr α) (k : Nat) : (Tr.node v l r).get (k + 1) = match Nat.beq (Nat.mod k 2) 0 with | true => l.get (Nat.div k 2) | false => r.get (Nat.div k 2) := by
  show Bool.rec (motive := fun _ => Option α) (r.get (Nat.div k 2)) (l.get (Nat.div k 2)) (Nat.beq (Nat.mod k 2) 0) = _
  cases Nat.beq (Nat.mod k 2) 0 <;> rfl
noncomputable def optNode {α : Type} (x : Option (Tr α)) (f : Tr α → Tr α) : Option (Tr α) := Option.rec (motive := fun _ => Option (Tr α)) none (fun t => some (f t)) x
noncomputable def Tr.put {α : Type} (v : Option α) (l r : Tr α) (rec : Tr α → Nat → Option (Tr α)) (k : Nat) (a : α) : Option (Tr α) :=
  Nat.rec (motive := fun _ => Option (Tr α)) (some (.node (some a) l r)) (fun k _ => Bool.rec (motive := fun _ => Option (Tr α)) (optNode (rec r (Nat.div k 2)) fun r => .node v l r) (optNode (rec l (Nat.div k 2)) fun l => .node v l r) (Nat.beq (Nat.mod k 2) 0)) k
noncomputable def Tr.setR {α : Type} (a : α) (f : Nat) : Tr α → Nat → Option (Tr α) :=
  Nat.rec (motive := fun _ => Tr α → Nat → Option (Tr α)) (fun _ _ => none) (fun _ rec t => Tr.rec (motive := fun _ => Nat → Option (Tr α)) (fun k => Tr.put none .nil .nil rec k a) (fun v l r _ _ k => Tr.put v l r rec k a) t) f
noncomputable def Tr.set {α : Type} (f : Nat) (t : Tr α) (k : Nat) (a : α) : Option (Tr α) := Tr.setR a f t k
theorem Tr.set_zero {α : Type} (t : Tr α) (k : Nat) (a : α) : Tr.set 0 t k a = none := (rfl)
theorem Tr.put_eq {α : Type} (v : Option α) (l r : Tr α) (rec : Tr α → Nat → Option (Tr α)) (k : Nat) (a : α) : Tr.put v l r rec k a =
    match k with
    | 0 => some (.node (some a) l r)
    | k + 1 =>
      match Nat.beq (Nat.mod k 2) 0 with
      | true => match rec l (Nat.div k 2) with | some l => some (.node v l r) | none => none
      | false => match rec r (Nat.div k 2) with | some r => some (.node v l r) | none => none := by
  cases k with
  | zero => rfl
  | succ k =>
    show Bool.rec (motive := fun _ => Option (Tr α)) (optNode (rec r (Nat.div k 2)) fun r => .node v l r) (optNode (rec l (Nat.div k 2)) fun l => .node v l r) (Nat.beq (Nat.mod k 2) 0) = (match Nat.beq (Nat.mod k 2) 0 with
      | true => match rec l (Nat.div k 2) with | some l => some (.node v l r) | none => none
      | false => match rec r (Nat.div k 2) with | some r => some (.node v l r) | none => none)
    cases Nat.beq (Nat.mod k 2) 0
    · simp only
      cases rec r (Nat.div k 2) <;> rfl
    · simp only
      cases rec l (Nat.div k 2) <;> rfl
theorem Tr.set_nil {α : Type} (f k : Nat) (a : α) : Tr.set (f + 1) .nil k a = Tr.put none .nil .nil (fun t k => Tr.set f t k a) k a := (rfl)
theorem Tr.set_node {α : Type} (f k : Nat) (v : Option α) (l r : Tr α) (a : α) : Tr.set (f + 1) (.node v l r) k a = Tr.put v l r (fun t k => Tr.set f t k a) k a := (rfl)
theorem beqT {k : Nat} (h : Nat.beq (Nat.mod k 2) 0 = true) : k % 2 = 0 := Nat.eq_of_beq_eq_true h
theorem beqF {k : Nat} (h : Nat.beq (Nat.mod k 2) 0 = false) : ¬ k % 2 = 0 := Nat.ne_of_beq_eq_false h
theorem Tr.get_nil {α : Type} (k : Nat) : (Tr.nil : Tr α).get k = none := rfl
theorem Tr.get_put {α : Type} (v : Option α) (l r t' : Tr α) (rec : Tr α → Nat → Option (Tr α)) (k : Nat) (a : α) (hr : ∀ t t' k, rec t k = some t' → ∀ j, t'.get j = if j = k then some a else t.get j) (h : Tr.put v l r rec k a = some t') (j : Nat) :
    t'.get j = if j = k then some a else (Tr.node v l r).get j := by
  rw [Tr.put_eq] at h
  cases k with
  | zero =>
    simp only [Option.some.injEq] at h
    subst h
    cases j with
    | zero => rw [Tr.get_zero, if_pos rfl]
    | succ j => rw [if_neg (by omega), Tr.get_succ, Tr.get_succ]
  | succ k =>
    simp only at h
    split at h
    · rename_i hb
      split at h
      · rename_i l' hl
        cases h
        have ih := hr _ _ _ hl
        cases j with
        | zero => rw [if_neg (by omega), Tr.get_zero, Tr.get_zero]
        | succ j =>
          rw [Tr.get_succ, Tr.get_succ]
          have hb' : k % 2 = 0 := beqT hb
          split
          · rename_i hj
            have hj' : j % 2 = 0 := beqT hj
            rw [ih]
            have : (j.div 2 = k.div 2) = (j + 1 = k + 1) := by show (j / 2 = k / 2) = _; simp; omega
            simp only [this]
          · rename_i hj
            have hj' : ¬ j % 2 = 0 := beqF hj
            rw [if_neg (by omega)]
      · cases h
    · rename_i hb
      split at h
      · rename_i l' hl
        cases h
        have ih := hr _ _ _ hl
        cases j with
        | zero => rw [if_neg (by omega), Tr.get_zero, Tr.get_zero]
        | succ j =>
          rw [Tr.get_succ, Tr.get_succ]
          have hb' : ¬ k % 2 = 0 := beqF hb
          split
          · rename_i hj
            have hj' : j % 2 = 0 := beqT hj
            rw [if_neg (by omega)]
          · rename_i hj
            have hj' : ¬ j % 2 = 0 := beqF hj
            rw [ih]
            have : (j.div 2 = k.div 2) = (j + 1 = k + 1) := by show (j / 2 = k / 2) = _; simp; omega
            simp only [this]
      · cases h
theorem Tr.get_set {α : Type} : ∀ (f : Nat) (t t' : Tr α) (k : Nat) (a : α), Tr.set f t k a = some t' → ∀ j, t'.get j = if j = k then some a else t.get j
  | 0, t, t', k, a, h, j => by cases h
  | f + 1, .nil, t', k, a, h, j => by
    rw [Tr.set_nil] at h
    rw [Tr.get_put _ _ _ _ _ _ _ (fun t t' k h => Tr.get_set f t t' k a h) h j]
    cases j with
    | zero => rfl
    | succ j => rw [Tr.get_succ]; simp only [Tr.get_nil]; cases Nat.beq (Nat.mod j 2) 0 <;> rfl
  | f + 1, .node v l r, t', k, a, h, j => by
    rw [Tr.set_node] at h
    rw [Tr.get_put _ _ _ _ _ _ _ (fun t t' k h => Tr.get_set f t t' k a h) h j]

/-- Where a run stands. -/
structure St where
  tm : Tr AV
  n : Nat
  hp : Tr AObj
noncomputable def tmF (t : Tr AV) (i : Nat) : AV := match t.get i with | some v => v | none => .junk
noncomputable def stF (n : Nat) (hp : Tr AObj) : Store := ⟨n, fun i => match Nat.ble n i with | true => none | false => hp.get i, fun i hi => by
  have : Nat.ble n i = true := by rw [Nat.ble_eq]; exact hi
  simp only [this]⟩
theorem stF_get {n : Nat} {hp : Tr AObj} {i : Nat} (h : i < n) : (stF n hp).get i = hp.get i := by
  have : Nat.ble n i = false := by
    cases e : Nat.ble n i with
    | false => rfl
    | true => have := Nat.le_of_ble_eq_true e; omega
  simp only [stF, this]
/-- The object that an operation may change. -/
def AOp.touch (op : AOp) (tm : Nat → AV) : Option Nat :=
  match op with
  | .store _ a _ => match a.ev tm with | .ptr id _ _ _ => some id | _ => none
  | .append _ _ _ s _ => match s.ev tm with | .own id _ _ _ _ => some id | _ => none
  | .mapset _ m _ _ => match m.ev tm with | .map id => some id | _ => none
  | .mapdel _ m _ => match m.ev tm with | .map id => some id | _ => none
  | _ => none
theorem AOp.eff_touch {op : AOp} {tm : Nat → AV} {σ σ' : Store} {r : AV} (h : op.eff tm σ = some (r, σ')) : (σ'.next = σ.next ∨ σ'.next = σ.next + 1) ∧ ∀ j, j < σ.next → op.touch tm ≠ some j → σ'.get j = σ.get j := by
  by_cases hq : op.quiet = true
  · have := AOp.eff_quiet hq h
    subst this
    exact ⟨.inl rfl, fun _ _ _ => rfl⟩
  · have hp : ∀ (o : AObj), ((σ.push o).next = σ.next ∨ (σ.push o).next = σ.next + 1) ∧ ∀ j, j < σ.next → op.touch tm ≠ some j → (σ.push o).get j = σ.get j := fun o => ⟨.inr rfl, fun j hj _ => Store.get_push_lt _ _ hj⟩
    have hu : ∀ (id : Nat) (o : AObj), op.touch tm = some id → ((σ.upd id o).next = σ.next ∨ (σ.upd id o).next = σ.next + 1) ∧ ∀ j, j < σ.next → op.touch tm ≠ some j → (σ.upd id o).get j = σ.get j := fun id o e => ⟨.inl rfl, fun j hj hn => Store.get_upd_ne _ _ (fun e2 => hn (by rw [e, e2]))⟩
    have hs : (σ.next = σ.next ∨ σ.next = σ.next + 1) ∧ ∀ j, j < σ.next → op.touch tm ≠ some j → σ.get j = σ.get j := ⟨.inl rfl, fun _ _ _ => rfl⟩
    cases op <;> simp only [AOp.quiet, not_true_eq_false, Bool.false_eq_true] at hq <;> simp only [AOp.eff] at h
    all_goals (repeat' split at h)
    all_goals first | (cases h; done) | (simp only [Option.some.injEq, Prod.mk.injEq] at h; obtain ⟨-, rfl⟩ := h; first | exact hs | exact hp _ | (refine hu _ _ ?_; simp_all [AOp.touch]) | (split <;> first | exact hs | exact hp _))

/-- A number is brought to its plain form. -/
def forceN {β : Type} (n : Nat) (k : Nat → β) : β := match n with | 0 => k 0 | m + 1 => k (m + 1)
theorem forceN_eq {β : Type} (n : Nat) (k : Nat → β) : forceN n k = k n := by cases n <;> rfl
def forceV {β : Type} (v : AV) (k : AV → β) : β :=
  match v with
  | .int kd (.ofNat m) => forceN m fun m => k (.int kd (.ofNat m))
  | .int kd (.negSucc m) => forceN m fun m => k (.int kd (.negSucc m))
  | .bool true => k (.bool true)
  | .bool false => k (.bool false)
  | .ptr a b c d => forceN b fun b => forceN c fun c => forceN d fun d => k (.ptr a b c d)
  | .own a b c d e => forceN b fun b => forceN d fun d => forceN e fun e => k (.own a b c d e)
  | v => k v
theorem forceV_eq {β : Type} (v : AV) (k : AV → β) : forceV v k = k v := by
  unfold forceV
  split <;> simp only [forceN_eq]

/-- What an operation leaves. -/
noncomputable def commit1 (hp : Tr AObj) (σ' : Store) (t : Option Nat) : Option (Tr AObj) :=
  match t with
  | none => some hp
  | some id => match σ'.get id with | some o => Tr.set 64 hp id o | none => none
noncomputable def commit3 (v : AV) (n : Nat) (hp : Tr AObj) (σ' : Store) : Option (AV × Nat × Tr AObj) :=
  match Nat.beq σ'.next n with
  | true => some (v, n, hp)
  | false => match σ'.get n with | some o => (match Tr.set 64 hp n o with | some hp => forceN σ'.next fun n => some (v, n, hp) | none => none) | none => none
noncomputable def commit2 (v : AV) (n : Nat) (hp : Tr AObj) (σ' : Store) : Option (AV × Nat × Tr AObj) := forceV v fun v => commit3 v n hp σ'
noncomputable def commit (t : Option Nat) (n : Nat) (hp : Tr AObj) (x : Option (AV × Store)) : Option (AV × Nat × Tr AObj) :=
  match x with
  | none => none
  | some (v, σ') => match commit1 hp σ' t with | none => none | some hp => commit2 v n hp σ'
theorem stF_ext {n : Nat} {hp : Tr AObj} {σ : Store} (hn : σ.next = n) (h : ∀ j, j < n → hp.get j = σ.get j) : stF n hp = σ := by
  refine Store.ext' hn.symm (funext fun j => ?_)
  rcases Nat.lt_or_ge j n with hj | hj
  · rw [stF_get hj, h j hj]
  · rw [(stF n hp).wf j hj, σ.wf j (by omega)]
theorem commit_ok {op : AOp} {n0 : Nat} {hp0 : Tr AObj} {tm : Nat → AV} {x : Option (AV × Store)} {id : Option Nat} {v : AV} {n : Nat} {hp : Tr AObj} (hx : x = op.eff tm (stF n0 hp0)) (hi : op.touch tm = none ∨ op.touch tm = id) (h : commit id n0 hp0 x = some (v, n, hp)) :
    op.eff tm (stF n0 hp0) = some (v, stF n hp) := by
  subst hx
  cases e : op.eff tm (stF n0 hp0) with
  | none => rw [e] at h; cases h
  | some p =>
    obtain ⟨r, σ'⟩ := p
    obtain ⟨h1, h2⟩ := AOp.eff_touch e
    rw [e] at h
    simp only [commit] at h
    split at h
    · cases h
    · rename_i hp1 hh
      have k1 : ∀ j, j < n0 → hp1.get j = σ'.get j := by
        intro j hj
        have hj2 : (stF n0 hp0).get j = hp0.get j := stF_get hj
        have hun : ∀ j, j < n0 → id ≠ some j → hp0.get j = σ'.get j := fun j hj hne => by
          rw [h2 j hj (by rcases hi with e | e <;> rw [e] <;> simp_all), stF_get hj]
        cases id with
        | none =>
          simp only [commit1, Option.some.injEq] at hh
          subst hh
          exact hun j hj (by simp)
        | some id =>
          simp only [commit1] at hh
          split at hh
          · rename_i o ho
            rw [Tr.get_set _ _ _ _ _ hh]
            by_cases hji : j = id
            · rw [if_pos hji, hji, ho]
            · rw [if_neg hji, hun j hj (by simpa using fun e => hji e.symm)]
          · cases hh
      simp only [commit2, forceV_eq, commit3] at h
      split at h
      · rename_i hb
        have hb := Nat.eq_of_beq_eq_true hb
        simp only [Option.some.injEq, Prod.mk.injEq] at h
        obtain ⟨rfl, rfl, rfl⟩ := h
        rw [stF_ext hb k1]
      · rename_i hb
        have hb := Nat.ne_of_beq_eq_false hb
        split at h
        · rename_i o ho
          split at h
          · rename_i hp2 hh2
            rw [forceN_eq] at h
            simp only [Option.some.injEq, Prod.mk.injEq] at h
            obtain ⟨rfl, rfl, rfl⟩ := h
            have hn : σ'.next = n0 + 1 := h1.elim (fun e => absurd e hb) (fun h => h)
            rw [stF_ext rfl fun j hj => ?_]
            rw [Tr.get_set _ _ _ _ _ hh2]
            by_cases hjn : j = n0
            · rw [if_pos hjn, hjn, ho]
            · rw [if_neg hjn]; exact k1 j (by omega)
          · cases h
        · cases h

/-! ### Running -/
structure FEnt where
  n : Nat
  c : ACode
  rs : List RV
def FTab := FuncId → Option FEnt
def FTab.OK (P : Program) (tab : FTab) : Prop := ∀ f e, tab f = some e → ∀ (args : List AV) (σ : Store) (K : AV → Store → Prop), args.length ≤ e.n →
  AWP P e.n e.c (fun x t s => match x with | .exit _ => False | _ => Res e.rs K t s) (env (argList 0 args)) σ → ACalls P f args σ K
abbrev Rec := ACode → St → Option (AEx × St)
noncomputable def argT : Nat → List AV → Tr AV → Option (Tr AV)
  | _, [], t => some t
  | k, a :: r, t => match Tr.set 64 t k a with | some t => argT (k + 1) r t | none => none
theorem argT_get : ∀ (args : List AV) (k : Nat) (t t' : Tr AV), argT k args t = some t' → ∀ i, tmF t' i = if k ≤ i ∧ i < k + args.length then args.getD (i - k) .junk else tmF t i
  | [], k, t, t', h, i => by simp [argT] at h; subst h; rw [if_neg (by simp only [List.length_nil]; omega)]
  | a :: r, k, t, t', h, i => by
    simp only [argT] at h
    split at h
    · rename_i t1 ht
      rw [argT_get r (k + 1) t1 t' h i]
      have hg := Tr.get_set _ _ _ _ _ ht i
      by_cases h1 : i = k
      · subst h1
        rw [if_neg (by omega), if_pos (by simp)]
        simp [tmF, hg]
      · by_cases h2 : k + 1 ≤ i ∧ i < k + 1 + r.length
        · rw [if_pos h2, if_pos (by simp; omega)]
          have : i - k = (i - (k + 1)) + 1 := by omega
          simp [this]
        · rw [if_neg h2, if_neg (by simp; omega)]
          simp only [tmF, hg, if_neg h1]
    · cases h
noncomputable def callF (tab : FTab) (rec : Rec) (f : FuncId) (args : List AV) (n : Nat) (hp : Tr AObj) : Option (AV × Nat × Tr AObj) :=
  match tab f with
  | none => none
  | some e =>
    match Nat.ble args.length e.n, argT 0 args .nil with
    | true, some t =>
      match rec e.c ⟨t, n, hp⟩ with
      | some (.exit _, _) => none
      | some (_, s) => match resVals (tmF s.tm) (stF s.n s.hp) e.rs with | some l => some (resOne l, s.n, s.hp) | none => none
      | none => none
    | _, _ => none
/-- What an operation that changes nothing comes to. -/
def quietF (x : Option (AV × Store)) (n : Nat) (hp : Tr AObj) : Option (AV × Nat × Tr AObj) := match x with | some (v, _) => some (v, n, hp) | none => none
noncomputable def binF (x : Option AV) (n : Nat) (hp : Tr AObj) : Option (AV × Nat × Tr AObj) := match x with | some v => forceV v fun v => some (v, n, hp) | none => none
noncomputable def callvF (tab : FTab) (rec : Rec) (f : AV) (args : List AV) (n : Nat) (hp : Tr AObj) : Option (AV × Nat × Tr AObj) :=
  match f with | .fn (.func f) a b => callF tab rec f (a ++ args ++ b) n hp | _ => none
noncomputable def evF (t : Tr AV) (x : AX) : AV := match x with | .t i => tmF t i | .c v => v
noncomputable def evsF (t : Tr AV) : List AX → List AV
  | [] => []
  | x :: l => evF t x :: evsF t l
noncomputable def evO (t : Tr AV) (x : Option AX) : Option AV := match x with | some x => some (evF t x) | none => none
def idOf (v : AV) : Option Nat := match v with | .ptr id _ _ _ => some id | .own id _ _ _ _ => some id | .map id => some id | _ => none
noncomputable def opF (tab : FTab) (rec : Rec) (op : AOp) (t : Tr AV) (n : Nat) (hp : Tr AObj) : Option (AV × Nat × Tr AObj) :=
  match op with
  | .call f args => callF tab rec f (evsF t args) n hp
  | .callv f args => callvF tab rec (evF t f) (evsF t args) n hp
  | .move x => some (evF t x, n, hp)
  | .pick c a b => quietF (ePick (evF t c) (evF t a) (evF t b) (stF n hp)) n hp
  | .new ty x => commit none n hp (eNew ty (evF t x).cellsOf (stF n hp))
  | .build z ps => quietF (eAgg (aFill z (ps.map fun p => (p.1, p.2.1, evF t p.2.2))) (stF n hp)) n hp
  | .lit own ty sz xs => commit none n hp (eLit own ty sz (litEs sz (evsF t xs)) (stF n hp))
  | .load agg x => quietF (eLoad agg (evF t x) (stF n hp)) n hp
  | .store sz a x => commit (idOf (evF t a)) n hp (eStore sz (evF t a) (evF t x).cellsOf (stF n hp))
  | .nilck x => quietF (eNck (evF t x) (stF n hp)) n hp
  | .bin kd op x y => binF (aBin kd op (evF t x) (evF t y)) n hp
  | .nileq k ng x y => quietF (eVal (aNilEq k ng (evF t x) (evF t y)) (stF n hp)) n hp
  | .not x => quietF (eNot (evF t x) (stF n hp)) n hp
  | .neg x => quietF (eNeg (evF t x) (stF n hp)) n hp
  | .conv k x => quietF (eConv k (evF t x) (stF n hp)) n hp
  | .same x => quietF (eSame (evF t x) (stF n hp)) n hp
  | .mkfn f a b => some (.fn f (evsF t a) (evsF t b), n, hp)
  | .mkmap => commit none n hp (some (.map n, (stF n hp).push (.map [])))
  | .mkslice ty sz bytes zc l c => commit none n hp (eMks ty sz bytes zc (evF t l) (evF t c) (stF n hp))
  | .cut k sz x lo hi => quietF (eCut k sz (evF t x) (evO t lo) (evO t hi) (stF n hp)) n hp
  | .faddr off x => quietF (eFad off (evF t x) (stF n hp)) n hp
  | .field off agg x => quietF (eFld off agg (evF t x) (stF n hp)) n hp
  | .iaddr sz x i => quietF (eIad sz (evF t x) (evF t i) (stF n hp)) n hp
  | .index x i => quietF (eIdx (evF t x) (evF t i) (stF n hp)) n hp
  | .lookup kd z ok m k => quietF (eLkp kd z ok (evF t m) (evF t k) (stF n hp)) n hp
  | .mapset kd m k x => commit (idOf (evF t m)) n hp (eMps kd (evF t m) (evF t k) (evF t x) (stF n hp))
  | .extract x i => quietF (eExt (evF t x) i (stF n hp)) n hp
  | .len k x => quietF (eLen k (evF t x) (stF n hp)) n hp
  | .append ty sz bytes s x => commit (idOf (evF t s)) n hp (eApp ty sz bytes (evF t s) (elemsOf (stF n hp) sz (evF t x)) (stF n hp))
  | .bstr x => quietF (eBst (elemsOf (stF n hp) 1 (evF t x)) (stF n hp)) n hp
  | .max2 x y => quietF (eMax (evF t x) (evF t y) (stF n hp)) n hp
  | .mapdel kd m k => commit (idOf (evF t m)) n hp (eMpd kd (evF t m) (evF t k) (stF n hp))
  | .min2 x y => quietF (eMin (evF t x) (evF t y) (stF n hp)) n hp
noncomputable def putF (t : Tr AV) (d : Option Nat) (v : AV) : Option (Tr AV) := match d with | none => some t | some d => Tr.set 64 t d v
noncomputable def operF (tab : FTab) (rec : Rec) (o : AOper) (s : St) : Option St :=
  let go : Unit → Option St := fun _ =>
    match opF tab rec o.op s.tm s.n s.hp with
    | some (v, n, hp) => match putF s.tm o.dst v with | some t => some ⟨t, n, hp⟩ | none => none
    | none => none
  match o.guard with
  | none => go ()
  | some (g, want) =>
    match tmF s.tm g with
    | .bool true => if want then go () else (match putF s.tm o.dst (.tuple []) with | some t => some ⟨t, s.n, s.hp⟩ | none => none)
    | .bool false => if want then (match putF s.tm o.dst (.tuple []) with | some t => some ⟨t, s.n, s.hp⟩ | none => none) else go ()
    | .tuple [] => (match putF s.tm o.dst (.tuple []) with | some t => some ⟨t, s.n, s.hp⟩ | none => none)
    | _ => none
noncomputable def opsF (tab : FTab) (rec : Rec) : List AOper → St → Option St
  | [], s => some s
  | o :: l, s => match operF tab rec o s with | some s => opsF tab rec l s | none => none
/-- Surely the same. -/
def eqA : AV → AV → Bool
  | .junk, .junk => true
  | .bool a, .bool b => a == b
  | .int k a, .int l b => decide (k = l) && decide (a = b)
  | .str a, .str b => decide (a = b)
  | .nilp, .nilp => true
  | .nils, .nils => true
  | .nilm, .nilm => true
  | .nilf, .nilf => true
  | .map a, .map b => Nat.beq a b
  | .ptr a b c d, .ptr a' b' c' d' => Nat.beq a a' && (Nat.beq b b' && (Nat.beq c c' && Nat.beq d d'))
  | .own a b c d e, .own a' b' c' d' e' => Nat.beq a a' && (Nat.beq b b' && (Nat.beq c c' && (Nat.beq d d' && Nat.beq e e')))
  | _, _ => false
theorem eqA_ok {a b : AV} (h : eqA a b = true) : a = b := by
  have hb : ∀ {x y : Nat}, Nat.beq x y = true → x = y := Nat.eq_of_beq_eq_true
  unfold eqA at h
  split at h
  · rfl
  · rw [eq_of_beq h]
  · simp only [Bool.and_eq_true, decide_eq_true_eq] at h; rw [h.1, h.2]
  · rw [of_decide_eq_true h]
  · rfl
  · rfl
  · rfl
  · rfl
  · rw [hb h]
  · simp only [Bool.and_eq_true] at h; rw [hb h.1, hb h.2.1, hb h.2.2.1, hb h.2.2.2]
  · simp only [Bool.and_eq_true] at h; rw [hb h.1, hb h.2.1, hb h.2.2.1, hb h.2.2.2.1, hb h.2.2.2.2]
  · cases h
def eqAL : List AV → List AV → Bool
  | [], [] => true
  | a :: r, b :: l => eqA a b && eqAL r l
  | _, _ => false
theorem eqAL_ok : ∀ {a b : List AV}, eqAL a b = true → a = b
  | [], [], _ => rfl
  | a :: r, b :: l, h => by
    simp only [eqAL, Bool.and_eq_true] at h
    rw [eqA_ok h.1, eqAL_ok h.2]
def eqA2 : AV → AV → Bool
  | .agg a, .agg b => eqAL a b
  | .tuple a, .tuple b => eqAL a b
  | a, b => eqA a b
theorem eqA2_ok {a b : AV} (h : eqA2 a b = true) : a = b := by
  unfold eqA2 at h
  split at h
  · rw [eqAL_ok h]
  · rw [eqAL_ok h]
  · exact eqA_ok h
noncomputable def stillF (o : AOper) (s : St) : Bool :=
  match o.dst with
  | none => false
  | some d =>
    let go : Unit → Bool := fun _ =>
      o.op.quiet && (match opF (fun _ => none) (fun _ _ => none) o.op s.tm s.n s.hp with | some (v, _) => eqA2 v (tmF s.tm d) | none => false)
    match o.guard with
    | none => go ()
    | some (g, want) =>
      match tmF s.tm g with
      | .bool true => if want then go () else eqA2 (.tuple []) (tmF s.tm d)
      | .bool false => if want then eqA2 (.tuple []) (tmF s.tm d) else go ()
      | .tuple [] => eqA2 (.tuple []) (tmF s.tm d)
      | _ => false
noncomputable def stillsF : List AOper → St → Bool
  | [], _ => true
  | o :: l, s => stillF o s && stillsF l s
noncomputable def drawF (tab : FTab) (rec : Rec) : List (List AOper × List AOper) → St → Option St
  | [], s => some s
  | (os, cs) :: l, s => match opsF tab rec os s with | some s => (match stillsF cs s with | true => drawF tab rec l s | false => none) | none => none
def iterF (body : St → Option (AEx × St)) : Nat → St → Option (AEx × St)
  | 0, _ => none
  | k + 1, s => match body s with | some (.normal, s) => iterF body k s | r => r
noncomputable def junkF : List Nat → Tr AV → Option (Tr AV)
  | [], t => some t
  | j :: l, t => match Tr.set 64 t j .junk with | some t => junkF l t | none => none
noncomputable def stepF (tab : FTab) (rec : Rec) : Rec := fun c s =>
  match c with
  | .skip => some (.normal, s)
  | .reg ops => match opsF tab rec ops s with | some s => some (.normal, s) | none => none
  | .draw js ops => match junkF js s.tm with | some t => (match drawF tab rec ops ⟨t, s.n, s.hp⟩ with | some s => some (.normal, s) | none => none) | none => none
  | .seq a b => match rec a s with | some (.normal, s) => rec b s | r => r
  | .cond c a b => match c.ev (tmF s.tm) with | .bool true => rec a s | .bool false => rec b s | _ => none
  | .block id c => match rec c s with | some (.exit id', s) => (match Nat.beq id' id with | true => some (.normal, s) | false => some (.exit id', s)) | r => r
  | .loop c => iterF (rec c) 100000 s
  | .exit id => some (.exit id, s)
  | .ret => some (.ret, s)
  | .scope c => rec c s
noncomputable def runF (tab : FTab) : Nat → Rec
  | 0 => fun _ _ => none
  | f + 1 => stepF tab (runF tab f)
end Go.AL
