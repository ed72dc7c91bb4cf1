/- The abstract layer, part 11: code, functions, and the rules by which they are gone through. -/
import Derived.Test.YtjjbjibbjbbeaaaAL10
import Derived.LoopN
import Derived.Scope
set_option linter.unusedVariables false
set_option linter.unusedSimpArgs false
namespace Go.AL
open Go.RowKit

inductive ACode where
  | skip
  | reg (ops : List AOper)
  | draw (js : List Nat) (ops : List (List AOper × List AOper))
  | seq (a b : ACode)
  | cond (c : AX) (a b : ACode)
  | block (id : Nat) (c : ACode)
  | loop (c : ACode)
  | exit (id : Nat)
  | ret
  | scope (c : ACode)

inductive AEx where
  | normal
  | exit (id : Nat)
  | ret
def AEx.to : AEx → Exit
  | .normal => .normal
  | .exit id => .exit id
  | .ret => .ret

/-! ### Plans -/
/-- The variables that are made first and written later. -/
def fusOf (b : Array Nat) (al : List AOper) : List (Nat × Nat × Nat) :=
  al.zipIdx.filterMap fun p =>
    match p.1 with
    | ⟨some t, .new _ (.c _), none⟩ =>
      match al.zipIdx.find? (fun q => match q.1 with | ⟨none, .store _ (.t t') _, none⟩ => t == t' && (b.getD q.2 0).testBit p.2 | _ => false) with
      | some q => some (p.2, q.2, t)
      | none => none
    | _ => none
/-- An order: what changes nothing first. The list: number, what is ahead of it, does it change nothing. -/
def orderOf : Nat → List (Nat × Nat × Bool) → Nat → List Nat
  | 0, _, _ => []
  | fuel + 1, l, mask =>
    match l.find? (fun x => x.2.2 && (x.2.1 &&& mask == 0)) with
    | some x => x.1 :: orderOf fuel (l.filter fun y => y.1 != x.1) (mask ^^^ 2 ^ x.1)
    | none =>
      match l.find? (fun x => x.2.1 &&& mask == 0) with
      | some x => x.1 :: orderOf fuel (l.filter fun y => y.1 != x.1) (mask ^^^ 2 ^ x.1)
      | none => []
def restOf (b : Array Nat) (it : Nat → List AOper) (i : Nat) : List Nat → List Nat
  | [] => []
  | k :: l => if (b.getD i 0).testBit k || (match it k with | [o] => o.op.pure | _ => true) then restOf b it i l else k :: restOf b it i l
def rsOf (b : Array Nat) (it : Nat → List AOper) : List Nat → List Nat → List (Nat × List Nat)
  | _, [] => []
  | acc, i :: l => (i, if quietI (it i) || growI (it i) then [] else restOf b it i (acc.filter fun k => quietI (it k))) :: rsOf b it (acc ++ [i]) l
def mkPlan (ops : Array Oper) (al : List AOper) (fuse : Bool) : Plan :=
  let b := aheads ops.toList #[]
  let fu := if fuse then fusOf b al else []
  let it := itemsOf al fu
  let l := (List.range al.length).filterMap fun i => if fu.any (·.1 == i) then none else some (i, b.getD i 0, quietI (it i))
  let mask := l.foldl (fun m x => m ||| 2 ^ x.1) 0
  let ord := orderOf l.length l mask
  let rs := rsOf b it [] ord
  ⟨fu, ord, (List.range al.length).map fun i => match rs.find? (·.1 == i) with | some r => r.2 | none => []⟩
def planOf (ops : Array Oper) (al : List AOper) : Option Plan :=
  let p := mkPlan ops al false
  if planOK ops al p = true then some p
  else
    let p := mkPlan ops al true
    if planOK ops al p = true then some p else none
theorem planOf_ok {ops : Array Oper} {al : List AOper} {p : Plan} (h : planOf ops al = some p) : planOK ops al p = true := by
  unfold planOf at h
  simp only at h
  split at h
  · cases h; assumption
  · split at h
    · cases h; assumption
    · cases h
def Plan.plain (p : Plan) : Bool := p.fu.isEmpty && p.rs.all List.isEmpty
def Plan.to (p : Plan) (al : List AOper) : ACode :=
  if p.plain = true then .reg (p.ord.flatMap (itemsOf al p.fu)) else .draw (p.fu.map (·.2.2)) (p.code al)

def resolveCode (P : Program) (own : List Nat) (n : Nat) : Code → Option ACode
  | .skip => some .skip
  | .label _ => some .skip
  | .region _ ops draw =>
    match resolveOps P own ops n ops.toList with
    | some al => if draw = true then (if P.follows .mixedOrders = true then (match planOf ops al with | some p => some (p.to al) | none => none) else none) else some (.reg al)
    | none => none
  | .seq a b => match resolveCode P own n a, resolveCode P own n b with | some a, some b => some (.seq a b) | _, _ => none
  | .cond c a b => match absX c, resolveCode P own n a, resolveCode P own n b with | some c, some a, some b => some (.cond c a b) | _, _, _ => none
  | .block id c => match resolveCode P own n c with | some c => some (.block id c) | none => none
  | .loop c => match resolveCode P own n c with | some c => some (.loop c) | none => none
  | .exit id => some (.exit id)
  | .ret => some .ret
  | .scope c => match resolveCode P own n c with | some c => some (.scope c) | none => none
  | _ => none

/-- What holds behind some code, over memory. -/
def postOf (B : Nat) (w0 : World) (n : Nat) (g : Ghost) (Q : AEx → (Nat → AV) → Store → Prop) : Exit → Act → World → Prop := fun e a' w' =>
  ∃ (ae : AEx) (tm' : Nat → AV) (σ' : Store) (g' : Ghost), e = ae.to ∧ Q ae tm' σ' ∧ Ext g g' ∧ SR B w0 σ' g' w' ∧ RelT g' n tm' a'

/-- What holds behind some resolved code. -/
def AWP (P : Program) (n : Nat) (c : ACode) (Q : AEx → (Nat → AV) → Store → Prop) (tm : Nat → AV) (σ : Store) : Prop :=
  ∀ (own : List Nat) (code : Code), resolveCode P own n code = some c → ∀ (B : Nat) (w0 : World) (g : Ghost) (w : World) (a : Act), SR B w0 σ g w → RelT g n tm a → code.wp P (postOf B w0 n g Q) a w
/-- What holds behind the rounds of a loop that are left. -/
def ALoop (P : Program) (n : Nat) (c : ACode) (Q : AEx → (Nat → AV) → Store → Prop) (tm : Nat → AV) (σ : Store) : Prop :=
  ∀ (own : List Nat) (code : Code), resolveCode P own n code = some c → ∀ (B : Nat) (w0 : World) (g : Ghost) (w : World) (a : Act), SR B w0 σ g w → RelT g n tm a → ∃ k, Code.rounds P code (postOf B w0 n g Q) k a w

section
variable {P : Program} {n : Nat} {Q : AEx → (Nat → AV) → Store → Prop} {tm : Nat → AV} {σ : Store}

theorem postOf.mono {B : Nat} {w0 : World} {g g1 : Ghost} (he : Ext g g1) {Q Q' : AEx → (Nat → AV) → Store → Prop} (hq : ∀ e t s, Q e t s → Q' e t s) {e : Exit} {a : Act} {w : World} (h : postOf B w0 n g1 Q e a w) : postOf B w0 n g Q' e a w := by
  obtain ⟨ae, tm', σ', g', h1, h2, h3, h4, h5⟩ := h
  exact ⟨ae, tm', σ', g', h1, hq _ _ _ h2, he.trans h3, h4, h5⟩
theorem AWP.mono {c : ACode} {Q' : AEx → (Nat → AV) → Store → Prop} (h : AWP P n c Q tm σ) (hq : ∀ e t s, Q e t s → Q' e t s) : AWP P n c Q' tm σ :=
  fun own code hc B w0 g w a hS hT => wp_mono (h own code hc B w0 g w a hS hT) fun e a' w' hp => hp.mono (.refl g) hq

theorem AWP_skip (h : Q .normal tm σ) : AWP P n .skip Q tm σ := by
  intro own code hc B w0 g w a hS hT
  have hq : postOf B w0 n g Q .normal a w := ⟨.normal, tm, σ, g, rfl, h, .refl g, hS, hT⟩
  cases code <;> simp only [resolveCode, reduceCtorEq] at hc <;> first | exact wp_skip hq | exact wp_label hq | skip
  all_goals ((repeat' split at hc) <;> (first | (simp at hc; done) | (simp only [Option.some.injEq, Plan.to] at hc; split at hc <;> cases hc)))
theorem AWP_exit {id : Nat} (h : Q (.exit id) tm σ) : AWP P n (.exit id) Q tm σ := by
  intro own code hc B w0 g w a hS hT
  cases code <;> simp only [resolveCode, reduceCtorEq, Option.some.injEq] at hc
  case exit id' => cases hc; exact wp_exit ⟨.exit id, tm, σ, g, rfl, h, .refl g, hS, hT⟩
  all_goals ((repeat' split at hc) <;> (first | (simp at hc; done) | (simp only [Option.some.injEq, Plan.to] at hc; split at hc <;> cases hc)))
theorem AWP_ret (h : Q .ret tm σ) : AWP P n .ret Q tm σ := by
  intro own code hc B w0 g w a hS hT
  cases code <;> simp only [resolveCode, reduceCtorEq, Option.some.injEq] at hc
  case ret => exact wp_ret ⟨.ret, tm, σ, g, rfl, h, .refl g, hS, hT⟩
  all_goals ((repeat' split at hc) <;> (first | (simp at hc; done) | (simp only [Option.some.injEq, Plan.to] at hc; split at hc <;> cases hc)))

/-- Behind the first part the second. -/
def andThen (K : (Nat → AV) → Store → Prop) (Q : AEx → (Nat → AV) → Store → Prop) : AEx → (Nat → AV) → Store → Prop
  | .normal, t, s => K t s
  | e, t, s => Q e t s
theorem AWP_seq {x y : ACode} (h : AWP P n x (andThen (AWP P n y Q) Q) tm σ) : AWP P n (.seq x y) Q tm σ := by
  intro own code hc B w0 g w a hS hT
  cases code <;> simp only [resolveCode, reduceCtorEq, Option.some.injEq] at hc
  case seq c1 c2 =>
    split at hc
    · rename_i a1 b1 h1 h2
      cases hc
      refine wp_seq (wp_mono (h own c1 h1 B w0 g w a hS hT) fun e a' w' hp => ?_)
      obtain ⟨ae, tm', σ', g', rfl, k2, k3, k4, k5⟩ := hp
      cases ae with
      | normal => exact wp_mono (k2 own c2 h2 B w0 g' w' a' k4 k5) fun e a2 w2 hp2 => hp2.mono k3 fun _ _ _ h => h
      | exit id => exact ⟨.exit id, tm', σ', g', rfl, k2, k3, k4, k5⟩
      | ret => exact ⟨.ret, tm', σ', g', rfl, k2, k3, k4, k5⟩
    · cases hc
  all_goals ((repeat' split at hc) <;> (first | (simp at hc; done) | (simp only [Option.some.injEq, Plan.to] at hc; split at hc <;> cases hc)))

theorem AWP_cond {c : AX} {x y : ACode} {b : Bool} (hb : c.ev tm = .bool b) (h : AWP P n (if b then x else y) Q tm σ) : AWP P n (.cond c x y) Q tm σ := by
  intro own code hc B w0 g w a hS hT
  cases code <;> simp only [resolveCode, reduceCtorEq, Option.some.injEq] at hc
  case cond c0 c1 c2 =>
    split at hc
    · rename_i c' a1 b1 h0 h1 h2
      cases hc
      have hr := absX_rel hT h0
      rw [hb] at hr
      have hev : a.eval c0 = .bool b := by generalize a.eval c0 = v at hr; cases hr; rfl
      refine Go.wp_cond hev ?_
      cases b
      · exact h own c2 h2 B w0 g w a hS hT
      · exact h own c1 h1 B w0 g w a hS hT
    · cases hc
  all_goals ((repeat' split at hc) <;> (first | (simp at hc; done) | (simp only [Option.some.injEq, Plan.to] at hc; split at hc <;> cases hc)))
theorem AWP_cond_true {c : AX} {x y : ACode} (hb : c.ev tm = .bool true) (h : AWP P n x Q tm σ) : AWP P n (.cond c x y) Q tm σ := AWP_cond hb h
theorem AWP_cond_false {c : AX} {x y : ACode} (hb : c.ev tm = .bool false) (h : AWP P n y Q tm σ) : AWP P n (.cond c x y) Q tm σ := AWP_cond hb h

def inBlock (id : Nat) (Q : AEx → (Nat → AV) → Store → Prop) : AEx → (Nat → AV) → Store → Prop
  | .exit id', t, s => if id' = id then Q .normal t s else Q (.exit id') t s
  | e, t, s => Q e t s
theorem AWP_block {id : Nat} {c : ACode} (h : AWP P n c (inBlock id Q) tm σ) : AWP P n (.block id c) Q tm σ := by
  intro own code hc B w0 g w a hS hT
  cases code <;> simp only [resolveCode, reduceCtorEq, Option.some.injEq] at hc
  case block id' c1 =>
    split at hc
    · rename_i a1 h1
      cases hc
      refine Go.wp_block (wp_mono (h own c1 h1 B w0 g w a hS hT) fun e a' w' hp => ?_)
      obtain ⟨ae, tm', σ', g', rfl, k2, k3, k4, k5⟩ := hp
      cases ae with
      | normal => exact ⟨.normal, tm', σ', g', rfl, k2, k3, k4, k5⟩
      | exit id2 =>
        simp only [AEx.to, Exit.inBlock]
        simp only [inBlock] at k2
        split at k2
        · rename_i hid; rw [if_pos hid]; exact ⟨.normal, tm', σ', g', rfl, k2, k3, k4, k5⟩
        · rename_i hid; rw [if_neg hid]; exact ⟨.exit id2, tm', σ', g', rfl, k2, k3, k4, k5⟩
      | ret => exact ⟨.ret, tm', σ', g', rfl, k2, k3, k4, k5⟩
    · cases hc
  all_goals ((repeat' split at hc) <;> (first | (simp at hc; done) | (simp only [Option.some.injEq, Plan.to] at hc; split at hc <;> cases hc)))

theorem AWP_scope {c : ACode} (h : AWP P n c Q tm σ) : AWP P n (.scope c) Q tm σ := by
  intro own code hc B w0 g w a hS hT
  cases code <;> simp only [resolveCode, reduceCtorEq, Option.some.injEq] at hc
  case scope c1 =>
    split at hc
    · rename_i a1 h1
      cases hc
      refine wp_scope_straight (wp_mono (h own c1 h1 B w0 g w a hS hT) fun e a' w' hp => ?_)
      obtain ⟨ae, tm', σ', g', rfl, k2, k3, k4, k5⟩ := hp
      cases ae <;> exact ⟨_, tm', σ', g', rfl, k2, k3, k4, k5⟩
    · cases hc
  all_goals ((repeat' split at hc) <;> (first | (simp at hc; done) | (simp only [Option.some.injEq, Plan.to] at hc; split at hc <;> cases hc)))

theorem AWP_loop {c : ACode} (h : ALoop P n c Q tm σ) : AWP P n (.loop c) Q tm σ := by
  intro own code hc B w0 g w a hS hT
  cases code <;> simp only [resolveCode, reduceCtorEq, Option.some.injEq] at hc
  case loop c1 =>
    split at hc
    · rename_i a1 h1
      cases hc
      obtain ⟨k, hk⟩ := h own c1 h1 B w0 g w a hS hT
      exact wp_loop_rounds k hk
    · cases hc
  all_goals ((repeat' split at hc) <;> (first | (simp at hc; done) | (simp only [Option.some.injEq, Plan.to] at hc; split at hc <;> cases hc)))

theorem rounds_mono {code : Code} {R R' : Exit → Act → World → Prop} (hr : ∀ e a w, R e a w → R' e a w) : ∀ (k : Nat) (a : Act) (w : World), Code.rounds P code R k a w → Code.rounds P code R' k a w := by
  intro k
  induction k with
  | zero => intro a w h; exact h
  | succ k ih =>
    intro a w h
    refine wp_mono h fun e a' w' hp => ?_
    cases e <;> first | exact ih _ _ hp | exact hr _ _ _ hp
theorem rounds_le {code : Code} {R : Exit → Act → World → Prop} : ∀ (k m : Nat) (a : Act) (w : World), k ≤ m → Code.rounds P code R k a w → Code.rounds P code R m a w := by
  intro k
  induction k with
  | zero => intro m a w _ h; exact h.elim
  | succ k ih =>
    intro m a w hm h
    obtain ⟨m, rfl⟩ : ∃ q, m = q + 1 := ⟨m - 1, by omega⟩
    refine wp_mono h fun e a' w' hp => ?_
    cases e <;> first | exact ih m _ _ (by omega) hp | exact hp

/-- One round, then the rounds that are left: with a number that falls. -/
theorem ALoop_measure {c : ACode} (I : Nat → (Nat → AV) → Store → Prop) (hround : ∀ m tm σ, I m tm σ → AWP P n c (andThen (fun t s => ∃ m', m' < m ∧ I m' t s) Q) tm σ) {m : Nat} (h : I m tm σ) : ALoop P n c Q tm σ := by
  have key : ∀ (m : Nat) (tm : Nat → AV) (σ : Store), I m tm σ → ∀ (own : List Nat) (code : Code), resolveCode P own n code = some c → ∀ (B : Nat) (w0 : World) (g : Ghost) (w : World) (a : Act), SR B w0 σ g w → RelT g n tm a →
      Code.rounds P code (postOf B w0 n g Q) (m + 1) a w := by
    intro m
    induction m using Nat.strongRecOn with
    | _ m ih =>
      intro tm σ hI own code hc B w0 g w a hS hT
      refine wp_mono (hround m tm σ hI own code hc B w0 g w a hS hT) fun e a' w' hp => ?_
      obtain ⟨ae, tm', σ', g', rfl, k2, k3, k4, k5⟩ := hp
      cases ae with
      | normal =>
        obtain ⟨m', hlt, hI'⟩ := k2
        refine rounds_le (m' + 1) m a' w' (by omega) (rounds_mono (fun e a w hp => hp.mono k3 fun _ _ _ h => h) _ _ _ (ih m' hlt tm' σ' hI' own code hc B w0 g' w' a' k4 k5))
      | exit id => exact ⟨.exit id, tm', σ', g', rfl, k2, k3, k4, k5⟩
      | ret => exact ⟨.ret, tm', σ', g', rfl, k2, k3, k4, k5⟩
  exact fun own code hc B w0 g w a hS hT => ⟨m + 1, key m tm σ h own code hc B w0 g w a hS hT⟩

theorem resolveOps_get {own : List Nat} {ops : Array Oper} : ∀ {l : List Oper} {al : List AOper}, resolveOps P own ops n l = some al → al.length = l.length ∧ ∀ (i : Nat) (o : Oper), l[i]? = some o → ∃ ao, al[i]? = some ao ∧ resolveOper P own ops n o = some ao := by
  intro l
  induction l with
  | nil => intro al h; simp [resolveOps] at h; subst h; simp
  | cons o r ih =>
    intro al h
    simp only [resolveOps] at h
    split at h
    · rename_i a1 l1 h1 h2
      cases h
      obtain ⟨i1, i2⟩ := ih h2
      refine ⟨by simp [i1], fun i o' hi => ?_⟩
      match i, hi with
      | 0, hi => simp at hi; subst hi; exact ⟨a1, rfl, h1⟩
      | i + 1, hi => exact i2 i o' (by simpa using hi)
    · cases h

theorem RelT.weaken {g : Ghost} {tm tm' : Nat → AV} {a : Act} (h : RelT g n tm a) (hw : ∀ i, tm' i = .junk ∨ tm' i = tm i) : RelT g n tm' a :=
  ⟨h.1, h.2.1, fun i => by rcases hw i with e | e <;> rw [e] <;> first | exact .junk _ | exact h.2.2 i⟩

theorem opsN_flat {it : Nat → List AOper} {R : Nat → List Nat} (hR : ∀ i, R i = []) : ∀ {l : List Nat} {tm : Nat → AV} {σ : Store} {K : (Nat → AV) → Store → Prop}, opsWp P (l.flatMap it) tm σ K → opsN P (l.map fun i => (it i, (R i).flatMap it)) tm σ K
  | [], _, _, _, h => h
  | i :: l, tm, σ, K, h => by
    rw [List.flatMap_cons, opsWp_app] at h
    exact opsWp_mono (fun t s h => ⟨by simp [hR], opsN_flat hR h⟩) h
theorem region_sound {own : List Nat} {id : Nat} {ops : Array Oper} {al : List AOper} (hal : resolveOps P own ops n ops.toList = some al) (hm : P.follows .mixedOrders = true) {p : Plan} (hp : planOf ops al = some p)
    (h : opsN P (p.code al) (junks (p.fu.map (·.2.2)) tm) σ (fun t s => Q .normal t s)) {B : Nat} {w0 : World} {g : Ghost} {w : World} {a : Act} (hS : SR B w0 σ g w) (hT : RelT g n tm a) : (Code.region id ops true).wp P (postOf B w0 n g Q) a w := by
  obtain ⟨l1, l2⟩ := resolveOps_get hal
  refine wp_region_any hm ?_
  have hun : ∀ i, (Array.replicate ops.size false).getD i false = false := fun i => by
    rcases Nat.lt_or_ge i ops.size with h' | h' <;> simp [h']
  have hok := planOf_ok hp
  have hall : p.ord.filter (fun i => !(Array.replicate ops.size false).getD i true) = p.ord := by
    rw [List.filter_eq_self]
    intro i hi
    simp only [planOK, Bool.and_eq_true] at hok
    have := List.all_eq_true.1 hok.1.1.1.1.2 i hi
    simp only [Bool.and_eq_true, decide_eq_true_eq] at this
    simp [this.2]
  have h1 := DR_of_opsN (it := itemsOf al p.fu) (R := fun i => p.rs.getD i []) p.ord [] (junks (p.fu.map (·.2.2)) tm) σ h
  refine plan_sound (P := P) (n := n) (own := own) (al := al) (K := fun t s => Q .normal t s) (g0 := g) (fun i o ho => l2 i o (by simpa using ho)) (by simpa using l1) hok (fun tm' σ' g' a' w' hq e s t => ⟨.normal, tm', σ', g', rfl, hq, e, s, t⟩)
    ops.size _ p.ord (junks (p.fu.map (·.2.2)) tm) σ g a _ (by simp) hall.symm ?_ (fun m o e hm _ _ _ => by rw [hun] at hm; cases hm) h1 (fun f hf _ => junks_mem _ _ _ (.inl (List.mem_map.2 ⟨f, hf, rfl⟩)))
    ⟨fun _ => 0, fun f hf h _ => (by rw [hun] at h; cases h), fun f f' _ _ h _ _ _ _ => (by rw [hun] at h; cases h)⟩ (.refl g) (SR.drew hS) (hT.weaken (junks_cases _ _))
  exact Nat.le_trans (List.length_filter_le _ _) (by simp)
theorem AWP_reg {al : List AOper} (h : opsWp P al tm σ (fun t s => Q .normal t s)) : AWP P n (.reg al) Q tm σ := by
  intro own code hc B w0 g w a hS hT
  cases code <;> simp only [resolveCode, reduceCtorEq, Option.some.injEq] at hc
  case region id ops draw =>
    split at hc
    · rename_i al' hal
      split at hc
      · rename_i hd
        subst hd
        split at hc
        · rename_i hm
          split at hc
          · rename_i p hp
            simp only [Option.some.injEq, Plan.to] at hc
            split at hc
            · rename_i hpl
              simp only [ACode.reg.injEq] at hc
              subst hc
              simp only [Plan.plain, Bool.and_eq_true, List.isEmpty_iff] at hpl
              refine region_sound hal hm hp ?_ hS hT
              have hj : junks (p.fu.map (·.2.2)) tm = tm := by rw [hpl.1]; rfl
              rw [hj]
              refine opsN_flat (it := itemsOf al' p.fu) (R := fun i => p.rs.getD i []) (fun i => ?_) h
              rw [List.getD_eq_getElem?_getD]
              cases e : p.rs[i]? with
              | none => rfl
              | some l => simpa using List.all_eq_true.1 hpl.2 l (List.mem_of_getElem? e)
            · cases hc
          · cases hc
        · cases hc
      · rename_i hd
        cases hc
        have hd : draw = false := by simpa using hd
        subst hd
        refine wp_region ?_
        have := ops_sound (P := P) (ops := ops) (Q := postOf B w0 n g Q) ops.toList 0 al σ g w tm a (by simp) hal hT hS _ h fun tm' σ' g' a' w' k1 k2 k3 k4 => ⟨.normal, tm', σ', g', rfl, k1, k2, k3, k4⟩
        rw [List.range_eq_range']
        simpa using this
    · cases hc
  all_goals ((repeat' split at hc) <;> simp [Plan.to] at hc)
theorem AWP_draw {js : List Nat} {al : List (List AOper × List AOper)} (h : opsN P al (junks js tm) σ (fun t s => Q .normal t s)) : AWP P n (.draw js al) Q tm σ := by
  intro own code hc B w0 g w a hS hT
  cases code <;> simp only [resolveCode, reduceCtorEq, Option.some.injEq] at hc
  case region id ops draw =>
    split at hc
    · rename_i al' hal
      split at hc
      · rename_i hd
        subst hd
        split at hc
        · rename_i hm
          split at hc
          · rename_i p hp
            simp only [Option.some.injEq, Plan.to] at hc
            split at hc
            · cases hc
            · simp only [ACode.draw.injEq] at hc
              obtain ⟨rfl, rfl⟩ := hc
              exact region_sound hal hm hp h hS hT
          · cases hc
        · cases hc
      · cases hc
    · cases hc
  all_goals ((repeat' split at hc) <;> (first | (simp at hc; done) | (simp only [Option.some.injEq, Plan.to] at hc; split at hc <;> cases hc)))

/-! ### The temporaries as a list -/
def env : List (Nat × AV) → Nat → AV
  | [], _ => .junk
  | (j, v) :: r, i => if i = j then v else env r i
theorem put_env (l : List (Nat × AV)) (d : Nat) (v : AV) : put (env l) (some d) v = env ((d, v) :: l) := rfl

theorem AWP_weaken {c : ACode} {tm' : Nat → AV} (hw : ∀ i, tm' i = .junk ∨ tm' i = tm i) (h : AWP P n c Q tm' σ) : AWP P n c Q tm σ :=
  fun own code hc B w0 g w a hS hT => h own code hc B w0 g w a hS (hT.weaken hw)
theorem env_pick (tm : Nat → AV) : ∀ (ks : List Nat) (i : Nat), env (ks.map fun k => (k, tm k)) i = .junk ∨ env (ks.map fun k => (k, tm k)) i = tm i := by
  intro ks
  induction ks with
  | nil => intro i; exact .inl rfl
  | cons k r ih =>
    intro i
    simp only [List.map_cons, env]
    split
    · rename_i h; subst h; exact .inr rfl
    · exact ih i
/-- Only some slots are remembered. -/
theorem AWP_keep (ks : List Nat) {c : ACode} (h : AWP P n c Q (env (ks.map fun k => (k, tm k))) σ) : AWP P n c Q tm σ := AWP_weaken (env_pick tm ks) h

/-! ### Functions -/
def argList : Nat → List AV → List (Nat × AV)
  | _, [] => []
  | k, a :: r => (k, a) :: argList (k + 1) r
/-- A result: a slot, or a variable that a slot leads to. -/
inductive RV where
  | slot (t : Nat)
  | cell (t : Nat) (agg : Option Nat)
def resSlots (P : Program) : List ResultVar → Option (List RV)
  | [] => some []
  | .tmp t :: r => match resSlots P r with | some l => some (.slot t :: l) | none => none
  | .cell a t :: r => match aggOf P t, resSlots P r with | some (agg, _, _), some l => some (.cell a agg :: l) | _, _ => none
/-- The value of a result. -/
def RV.val (tm : Nat → AV) (σ : Store) : RV → Option AV
  | .slot t => some (tm t)
  | .cell t agg => match (AOp.load agg (.t t)).eff tm σ with | some (r, _) => some r | none => none
def resVals (tm : Nat → AV) (σ : Store) : List RV → Option (List AV)
  | [] => some []
  | x :: r => match x.val tm σ, resVals tm σ r with | some a, some l => some (a :: l) | _, _ => none
/-- The value that comes back. -/
def resOne : List AV → AV
  | [a] => a
  | l => .tuple l
/-- What comes back is as asked. -/
def Res (rs : List RV) (K : AV → Store → Prop) (tm : Nat → AV) (σ : Store) : Prop :=
  match resVals tm σ rs with
  | some l => K (resOne l) σ
  | none => False

theorem env_argList : ∀ (args : List AV) (k i : Nat), env (argList k args) i = if k ≤ i then args.getD (i - k) .junk else .junk := by
  intro args
  induction args with
  | nil => intro k i; simp [argList, env]
  | cons a r ih =>
    intro k i
    simp only [argList, env]
    split
    · rename_i h; subst h; simp
    · rename_i h
      rw [ih]
      by_cases h1 : k + 1 ≤ i
      · rw [if_pos h1, if_pos (by omega)]
        rw [show i - k = (i - (k + 1)) + 1 from by omega]
        simp
      · rw [if_neg h1, if_neg (by omega)]

def resStep (tmps : Array Value) : ResultVar → Sem Value
  | .tmp t => pure (tmps.getD t undef)
  | .cell a t => do loadVar t (← asAddr (tmps.getD a undef))
theorem results_eq (fn : Func) (tmps : Array Value) : results fn tmps = (do let vs ← fn.results.mapM (resStep tmps); pure (if h : vs.size = 1 then vs[0] else .tuple vs)) := rfl
theorem results_run {B : Nat} {w0 : World} {g : Ghost} {fn : Func} {rs : List RV} (hr : resSlots P fn.results.toList = some rs) {a : Act} {w : World} (hS : SR B w0 σ g w) (hT : RelT g n tm a) {l : List AV} (hl : resVals tm σ rs = some l) :
    ∃ v, (results fn a.tmps).run P w = .ok v w ∧ RelV g (resOne l) v := by
  have key : ∀ (xs : List ResultVar) (rs : List RV) (l : List AV), resSlots P xs = some rs → resVals tm σ rs = some l →
      ∃ vs : List Value, (xs.mapM (resStep a.tmps)).run P w = .ok vs w ∧ vs.length = l.length ∧ ∀ j c, l[j]? = some c → RelV g c (vs.getD j undef) := by
    intro xs
    induction xs with
    | nil => intro rs l h h2; simp [resSlots] at h; subst h; simp [resVals] at h2; subst h2; exact ⟨[], rfl, rfl, by simp⟩
    | cons x r ih =>
      intro rs l h h2
      have fin : ∀ (rv : RV) (rs' : List RV) (v : Value) (c : AV) (l' : List AV), resSlots P r = some rs' → resVals tm σ rs' = some l' → (resStep a.tmps x).run P w = .ok v w → RelV g c v →
          ∃ vs : List Value, ((x :: r).mapM (resStep a.tmps)).run P w = .ok vs w ∧ vs.length = (c :: l').length ∧ ∀ j c', (c :: l')[j]? = some c' → RelV g c' (vs.getD j undef) := by
        intro rv rs' v c l' e1 e2 e3 e4
        obtain ⟨vs, i1, i2, i3⟩ := ih rs' l' e1 e2
        refine ⟨v :: vs, ?_, by simp [i2], fun j c' hj => ?_⟩
        · rw [List.mapM_cons, Sem.run_bind, e3, Result.andThen_ok, Sem.run_bind, i1]
          rfl
        · match j, hj with
          | 0, hj => simp at hj; subst hj; simpa using e4
          | j + 1, hj => have := i3 j c' (by simpa using hj); simpa using this
      cases x with
      | tmp t =>
        simp only [resSlots] at h
        split at h
        · rename_i rs' hrs
          cases h
          simp only [resVals, RV.val] at h2
          split at h2
          · rename_i c l' h3 h4
            cases h2
            cases h3
            exact fin (.slot t) rs' _ _ l' hrs h4 (by simp [resStep]) (hT.2.2 t)
          · cases h2
        · cases h
      | cell t ty =>
        simp only [resSlots] at h
        split at h
        · rename_i agg d i rs' hag hrs
          cases h
          obtain ⟨a1, a2, a3⟩ := aggOf_some hag
          simp only [resVals] at h2
          split at h2
          · rename_i c l' h3 h4
            cases h2
            simp only [RV.val] at h3
            split at h3
            · rename_i rr st hld
              cases h3
              have hst : st = σ := by
                have := AOp.eff_quiet (op := .load agg (.t t)) rfl hld
                exact this
              subst hst
              have hrel := hT.2.2 t
              have hld2 : ∃ v, (Instr.loadAt ty (a.tmps.getD t undef)).run P w = .ok v w ∧ RelV g c v := by
                have hok : OpOK P B w0 g w (do Pure.pure (.value (← Instr.loadAt ty (a.tmps.getD t undef)))) c st := by
                  simp only [AOp.eff, AX.ev] at hld
                  split at hld
                  · rename_i id ver k off hp
                    rw [hp] at hrel
                    split at hld
                    · rename_i ty' v sz es hob
                      split at hld
                      · rename_i hv
                        subst hv
                        split at hld
                        · rename_i e hek
                          split at hld
                          · rename_i rr hrr
                            cases hld
                            exact op_load_own hS a1 a2 a3 hrel hob hek hrr
                          · cases hld
                        · cases hld
                      · cases hld
                    · cases hld
                  · rename_i cs off hp
                    rw [hp] at hrel
                    split at hld
                    · rename_i rr hrr
                      cases hld
                      exact op_load_frozen hS a1 a2 a3 hrel hrr
                    · cases hld
                  · cases hld
                simp only [AOp.eff, AX.ev] at hld
                split at hld
                · rename_i id ver k off hp
                  rw [hp] at hrel
                  split at hld
                  · rename_i ty' v sz es hob
                    split at hld
                    · rename_i hv
                      subst hv
                      split at hld
                      · rename_i e hek
                        split at hld
                        · rename_i rr hrr
                          cases hld
                          obtain ⟨p, hp2, b1, b2, b3, b4, cells, b5, b6, b7, b8⟩ := hS.objs id _ hob
                          cases hrel with
                          | ptr hid hvv hv1 =>
                            have hvv := (hvv p hp2).2 b1
                            rw [hvv]
                            have hk : k < es.length := by
                              rcases Nat.lt_or_ge k es.length with h' | h'
                              · exact h'
                              · simp [List.getElem?_eq_none h'] at hek
                            have hel : e.length = sz := b7 e (List.mem_of_getElem? hek)
                            subst b2
                            exact load_cells (g := g) (o := k * p.sz) a1 a2 a3 b5 (by rw [b6, hel, ← Nat.succ_mul]; exact Nat.mul_le_mul_right _ (by omega)) (fun j c hj => b8 k j e c hek hj) hrr
                        · cases hld
                      · cases hld
                    · cases hld
                  · cases hld
                · rename_i cs off hp
                  rw [hp] at hrel
                  split at hld
                  · rename_i rr hrr
                    cases hld
                    generalize a.tmps.getD t undef = vv at hrel
                    cases hrel with
                    | rptr hΦ hb hc h1 =>
                      obtain ⟨ty2, fr, hh, _⟩ := hS.phi _ _ hΦ.1
                      exact load_cells (g := g) a1 a2 a3 hh hb (fun j c hj => ⟨hc j c hj, h1 j c hj⟩) hrr
                  · cases hld
                · cases hld
              obtain ⟨v, v1, v2⟩ := hld2
              have hadr : ∃ ad, a.tmps.getD t undef = .pointer (some ad) := by
                generalize a.tmps.getD t undef = vv at v1
                cases vv <;> simp [Instr.loadAt, Instr.sureAddr] at v1
                rename_i o
                cases o with
                | none => simp at v1
                | some ad => exact ⟨ad, rfl⟩
              obtain ⟨ad, had⟩ := hadr
              refine fin (.cell t agg) rs' v c l' hrs h4 ?_ v2
              rw [had] at v1
              simp only [resStep, had, asAddr, Sem.run_bind, Sem.run_pure, Result.andThen_ok]
              simpa [Instr.loadAt, Instr.sureAddr] using v1
            · cases h3
          · cases h2
        · cases h
  obtain ⟨vs, h1, h2, h3⟩ := key fn.results.toList rs l hr hl
  refine ⟨if h : vs.length = 1 then vs[0] else .tuple vs.toArray, ?_, ?_⟩
  · rw [results_eq, Sem.run_bind, Array.mapM_eq_mapM_toList, Sem.run_map, h1]
    simp only [Result.andThen_ok, Sem.run_pure, List.size_toArray, List.getElem_toArray]
  · by_cases hone : l.length = 1
    · match l, hone, h2, h3 with
      | [c], _, h2, h3 =>
        match vs, h2, h3 with
        | [v], _, h3 => simpa [resOne] using h3 0 c rfl
    · have hne : ¬ vs.length = 1 := by omega
      rw [dif_neg hne]
      have hv : resOne l = .tuple l := by
        match l, hone with
        | [], _ => rfl
        | [t], h1 => simp at h1
        | a :: b :: r, _ => rfl
      rw [hv]
      exact .tuple (by simp [h2]) fun j c hj => by have := h3 j c hj; simpa [List.getD_eq_getElem?_getD] using this

/-- A function with a body: by its code. -/
theorem ACalls_intro {f : FuncId} {fn : Func} {code : Code} {c : ACode} {own : List Nat} {rs : List RV} {args : List AV} {K : AV → Store → Prop} (hf : P.funcs[f]? = some fn) (hname : (fn.name == "runtime.NumGoroutine") = false) (hb : fn.body = some code)
    (hc : resolveCode P own fn.ntmps code = some c) (hr : resSlots P fn.results.toList = some rs) (hargs : args.length ≤ fn.ntmps)
    (h : AWP P fn.ntmps c (fun e t s => match e with | .exit _ => False | _ => Res rs K t s) (env (argList 0 args)) σ) : ACalls P f args σ K := by
  intro B w0 g w vs hS hl hrel
  refine .inl ⟨w, ?_, ?_⟩
  · have hname' : ¬ fn.name = "runtime.NumGoroutine" := by simpa using hname
    simp [callFunc, hf, hname', hb]
  · refine calls_of_wp hf hb ?_
    have hT : RelT g fn.ntmps (env (argList 0 args)) { tmps := vs ++ Array.replicate (fn.ntmps - vs.size) undef, defers := [] } := by
      refine ⟨by simp; omega, rfl, fun i => ?_⟩
      rw [env_argList]
      simp only [Nat.zero_le, if_true, Nat.sub_zero]
      by_cases hi : i < args.length
      · have hg : args[i]? = some args[i] := List.getElem?_eq_getElem hi
        have := hrel i _ hg
        rw [List.getD_eq_getElem?_getD, hg, Option.getD_some]
        have e : (vs ++ Array.replicate (fn.ntmps - vs.size) undef).getD i undef = vs.getD i undef := by
          simp only [Array.getD_eq_getD_getElem?]
          rw [Array.getElem?_append_left (by omega)]
        rw [e]
        exact this
      · rw [List.getD_eq_getElem?_getD, List.getElem?_eq_none (by omega)]
        exact .junk _
    refine wp_mono (h own code hc B w0 g w _ hS hT) fun e a' w' hp => ?_
    obtain ⟨ae, tm', σ', g', rfl, k2, k3, k4, k5⟩ := hp
    have fin : Res rs K tm' σ' → a'.defers = [] ∧ ∃ v, (results fn a'.tmps).run P w' = .ok v w' ∧ (∃ v_1, Ending.returned v = Ending.returned v_1 ∧ ∃ r σ' g', K r σ' ∧ Ext g g' ∧ SR B w0 σ' g' w' ∧ RelV g' r v_1) := by
      intro hk
      unfold Res at hk
      split at hk
      · rename_i l hl
        obtain ⟨v, v1, v2⟩ := results_run hr k4 k5 hl
        exact ⟨k5.2.1, v, v1, v, rfl, _, σ', g', hk, k3, k4, v2⟩
      · exact hk.elim
    cases ae with
    | normal => exact fin k2
    | ret => exact fin k2
    | exit id => exact k2.elim

/-! ### Freezing, forgetting -/
/-- An owned slice becomes a value; whatever else led to its object leads nowhere. -/
theorem AWP_freeze {c : ACode} {d id ver sz off len ty s : Nat} {es : List (List AV)} (hd : tm d = .own id ver sz off len) (ho : σ.get id = some (.cells ty ver s es)) (hsz : sz = s) (hle : off + len ≤ es.length)
    (h : AWP P n c Q (put tm (some d) (.list ((es.drop off).take len))) (σ.drop id)) : AWP P n c Q tm σ := by
  intro own code hc B w0 g w a hS hT
  subst hsz
  obtain ⟨g', hS', hE, hrel⟩ := hS.frozen ho
  refine wp_mono (h own code hc B w0 g' w a hS' ⟨hT.1, hT.2.1, fun i => ?_⟩) fun e a' w' hp => hp.mono hE fun _ _ _ h => h
  simp only [put]
  split
  · rename_i hi
    subst hi
    have := hT.2.2 i
    rw [hd] at this
    exact hrel off len _ hle this
  · exact (hT.2.2 i).ext hE
theorem AWP_drop {c : ACode} (id : Nat) (h : AWP P n c Q tm (σ.drop id)) : AWP P n c Q tm σ :=
  fun own code hc B w0 g w a hS hT => wp_mono (h own code hc B w0 _ w a (hS.forget id) (hT.ext (.forget g id))) fun e a' w' hp => hp.mono (.forget g id) fun _ _ _ h => h
end
end Go.AL
