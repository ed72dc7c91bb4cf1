/- The abstract layer, part 9: calls, rows of operations in the text's order. -/
import Derived.Test.YtjjbjibbjbbeaaaAL8
set_option linter.unusedVariables false
set_option linter.unusedSimpArgs false
namespace Go.AL
open Go.RowKit

/-- A call comes back with a value and a world. -/
def CallRuns (P : Program) (f : FuncId) (vs : Array Value) (w : World) (R : Value → World → Prop) : Prop :=
  (∃ w', (callFunc f vs).run P w = .ok (.enter f vs) w' ∧ Calls P f vs w' fun e w'' => ∃ v, e = .returned v ∧ R v w'') ∨
  (∃ v w', (callFunc f vs).run P w = .ok (.value v) w' ∧ R v w')

/-- A call's contract, over the abstract layer. -/
def ACalls (P : Program) (f : FuncId) (args : List AV) (σ : Store) (K : AV → Store → Prop) : Prop :=
  ∀ (B : Nat) (w0 : World) (g : Ghost) (w : World) (vs : Array Value), SR B w0 σ g w → vs.size = args.length → (∀ j c, args[j]? = some c → RelV g c (vs.getD j undef)) →
    CallRuns P f vs w fun v w' => ∃ r σ' g', K r σ' ∧ Ext g g' ∧ SR B w0 σ' g' w' ∧ RelV g' r v

theorem CallRuns.mono {P : Program} {f : FuncId} {vs : Array Value} {w : World} {R R' : Value → World → Prop} (h : CallRuns P f vs w R) (hr : ∀ v w', R v w' → R' v w') : CallRuns P f vs w R' := by
  rcases h with ⟨w', h1, h2⟩ | ⟨v, w', h1, h2⟩
  · exact .inl ⟨w', h1, h2.mono fun e w'' ⟨v, he, hv⟩ => ⟨v, he, hr _ _ hv⟩⟩
  · exact .inr ⟨v, w', h1, hr _ _ h2⟩
theorem ACalls.mono {P : Program} {f : FuncId} {args : List AV} {σ : Store} {K K' : AV → Store → Prop} (h : ACalls P f args σ K) (hk : ∀ r σ', K r σ' → K' r σ') : ACalls P f args σ K' :=
  fun B w0 g w vs hS hl hr => (h B w0 g w vs hS hl hr).mono fun v w' ⟨r, σ', g', a, b, c, d⟩ => ⟨r, σ', g', hk _ _ a, b, c, d⟩

/-- A resolved operation in its place. -/
structure AOper where
  dst : Option Nat
  op : AOp
  guard : Option (Nat × Bool)

def put (tm : Nat → AV) : Option Nat → AV → Nat → AV
  | some d, v => fun i => if i = d then v else tm i
  | none, _ => tm

/-- What an operation comes to, a call by its contract. -/
def AOp.wp (P : Program) (op : AOp) (tm : Nat → AV) (σ : Store) (K : AV → Store → Prop) : Prop :=
  match op with
  | .call f args => ACalls P f (args.map (·.ev tm)) σ K
  | .callv f args => match f.ev tm with | .fn (.func f) first captured => ACalls P f (first ++ args.map (·.ev tm) ++ captured) σ K | _ => False
  | op => match op.eff tm σ with | some (r, σ') => K r σ' | none => False

def AOper.wp (P : Program) (o : AOper) (tm : Nat → AV) (σ : Store) (K : (Nat → AV) → Store → Prop) : Prop :=
  match o.guard with
  | none => o.op.wp P tm σ fun r σ' => K (put tm o.dst r) σ'
  | some (s, want) =>
    match tm s with
    | .bool b => if b = want then o.op.wp P tm σ fun r σ' => K (put tm o.dst r) σ' else K (put tm o.dst (.tuple [])) σ
    | .tuple [] => K (put tm o.dst (.tuple [])) σ
    | _ => False

def opsWp (P : Program) : List AOper → (Nat → AV) → Store → ((Nat → AV) → Store → Prop) → Prop
  | [], tm, σ, K => K tm σ
  | o :: rest, tm, σ, K => o.wp P tm σ fun tm' σ' => opsWp P rest tm' σ' K

def dstOK (n : Nat) : Option Nat → Bool
  | some d => decide (d < n)
  | none => true

def resolveOper (P : Program) (own : List Nat) (ops : Array Oper) (n : Nat) (o : Oper) : Option AOper :=
  match resolveOp P own o.dst o.op with
  | some ao =>
    if dstOK n o.dst = true then
      match o.guard with
      | none => some ⟨o.dst, ao, none⟩
      | some (j, want) => match (ops[j]?).bind (·.dst) with | some s => if s < n then some ⟨o.dst, ao, some (s, want)⟩ else none | none => none
    else none
  | none => none
def resolveOps (P : Program) (own : List Nat) (ops : Array Oper) (n : Nat) : List Oper → Option (List AOper)
  | [] => some []
  | o :: r => match resolveOper P own ops n o, resolveOps P own ops n r with | some a, some l => some (a :: l) | _, _ => none

section
variable {P : Program} {B : Nat} {w0 : World} {σ : Store} {g : Ghost} {w : World} {n : Nat} {tm : Nat → AV} {a : Act} {ops : Array Oper} {Q : Exit → Act → World → Prop}

theorem RelT.put (hT : RelT g n tm a) {dst : Option Nat} (hd : dstOK n dst = true) {r : AV} {v : Value} (hr : RelV g r v) : RelT g n (put tm dst r) (a.put dst v) := by
  cases dst with
  | none => exact hT
  | some d =>
    simp only [dstOK, decide_eq_true_eq] at hd
    refine ⟨by simp [Act.put, hT.1], hT.2.1, fun i => ?_⟩
    simp only [AL.put, Act.put]
    by_cases hi : i = d
    · subst hi
      have : i < a.tmps.size := by rw [hT.1]; exact hd
      simp [this, hr]
    · have := hT.2.2 i
      simp only [hi, if_false]
      simpa [Array.getElem?_setIfInBounds_ne (Ne.symm hi)] using this

theorem run_call_value {fx : Operand} {args : Array Operand} {ats : Array TypeId} {ty : TypeId} {pos : String} {after : Array Edge} {gd : Option (Nat × Bool)} {dst : Option Tmp} {f : FuncId} {first captured : Array Value} (hf : a.eval fx = .func (.func f) first captured) :
    execOp a.eval ⟨dst, .call { callee := .value fx, args := args, argTypes := ats }, ty, pos, after, gd⟩ = callFunc f (first ++ args.map a.eval ++ captured) := by
  simp [execOp, resolve, hf, Deferred.ofValue, invoke]

theorem call_sound {o : Oper} {K : AV → Store → Prop} {next : Act → World → Prop} {f : FuncId} {vs : Array Value} (hrun : execOp a.eval o = callFunc f vs)
    (hK : CallRuns P f vs w fun v w' => ∃ r σ' g', K r σ' ∧ Ext g g' ∧ SR B w0 σ' g' w' ∧ RelV g' r v)
    (hn : ∀ r σ' g' v w', K r σ' → Ext g g' → SR B w0 σ' g' w' → RelV g' r v → next (a.put o.dst v) w') : o.wp P a w next Q := by
  unfold Oper.wp
  rw [hrun]
  rcases hK with ⟨w', h1, h2⟩ | ⟨v, w', h1, r, σ', g', k1, k2, k3, k4⟩
  · rw [h1]
    simp only [Oper.upon]
    refine h2.mono ?_
    rintro e w'' ⟨v, rfl, r, σ', g', k1, k2, k3, k4⟩
    exact hn r σ' g' v w'' k1 k2 k3 k4
  · rw [h1]
    exact hn r σ' g' v w' k1 k2 k3 k4

theorem op_sound {own : List Nat} {o : Oper} {ao : AOp} (hop : resolveOp P own o.dst o.op = some ao) (hT : RelT g n tm a) (h : SR B w0 σ g w) {K : AV → Store → Prop} (hw : ao.wp P tm σ K) {next : Act → World → Prop}
    (hn : ∀ r σ' g' v w', K r σ' → Ext g g' → SR B w0 σ' g' w' → RelV g' r v → next (a.put o.dst v) w') : o.wp P a w next Q := by
  have det : ∀ r σ', ao.eff tm σ = some (r, σ') → K r σ' → o.wp P a w next Q := by
    intro r σ' he hk
    obtain ⟨nx, w', g', h1, h2, h3, h4⟩ := eff_sound hop rfl hT h he
    unfold Oper.wp
    rw [h1]
    rcases h4 with ⟨v, rfl, hr⟩ | ⟨rfl, rfl⟩
    · exact hn r σ' g' v w' hk h2 h3 hr
    · exact hn _ σ' g' undef w' hk h2 h3 (.junk _)
  have hcalls : (∃ f args, ao = .call f args) ∨ (∃ f args, ao = .callv f args) ∨ (match ao.eff tm σ with | some (r, σ') => K r σ' | none => False) := by
    unfold AOp.wp at hw
    split at hw
    · exact .inl ⟨_, _, rfl⟩
    · exact .inr (.inl ⟨_, _, rfl⟩)
    · exact .inr (.inr hw)
  rcases hcalls with ⟨f, args, rfl⟩ | ⟨f, args, rfl⟩ | hw'
  · -- a call of a function
    obtain ⟨od, oo, oty, opos, oafter, oguard⟩ := o
    have : ∃ ax ats, oo = .call { callee := .value (.func f), args := ax, argTypes := ats } ∧ absXs ax.toList = some args := by
      unfold resolveOp at hop
      simp only at hop
      split at hop <;> (repeat' split at hop) <;> simp only [Option.some.injEq, reduceCtorEq, AOp.call.injEq] at hop
      rename_i f' ax ats xs hxs
      obtain ⟨rfl, rfl⟩ := hop
      exact ⟨_, _, rfl, hxs⟩
    obtain ⟨ax, ats, rfl, hxs⟩ := this
    obtain ⟨l1, l2⟩ := absXs_rel hT hxs
    refine call_sound (K := K) (run_call_value (f := f) (first := #[]) (captured := #[]) rfl) (hw B w0 g w _ h (by simpa using l1) (fun j c hj => ?_)) hn
    rw [List.getElem?_map] at hj
    cases hx : args[j]? with
    | none => simp [hx] at hj
    | some x => simp [hx] at hj; subst hj; have := l2 j x hx; simpa [List.getD_eq_getElem?_getD] using this
  · -- a call of a value
    obtain ⟨od, oo, oty, opos, oafter, oguard⟩ := o
    have : ∃ fx ax ats, oo = .call { callee := .value fx, args := ax, argTypes := ats } ∧ absX fx = some f ∧ absXs ax.toList = some args := by
      unfold resolveOp at hop
      simp only at hop
      split at hop <;> (repeat' split at hop) <;> simp only [Option.some.injEq, reduceCtorEq, AOp.callv.injEq] at hop
      obtain ⟨rfl, rfl⟩ := hop
      exact ⟨_, _, _, rfl, by assumption, by assumption⟩
    obtain ⟨fx, ax, ats, rfl, hfx, hxs⟩ := this
    obtain ⟨l1, l2⟩ := absXs_rel hT hxs
    have hrf := absX_rel hT hfx
    simp only [AOp.wp] at hw
    split at hw
    · rename_i f' first captured hv
      rw [hv] at hrf
      generalize hev : a.eval fx = vf at hrf
      cases hrf with
      | fn hf hc hfr hcr =>
        rename_i fa ca
        refine call_sound (K := K) (run_call_value hev) (hw B w0 g w _ h (by simp only [Array.size_append, Array.size_map, List.length_append, List.length_map, hf, hc]; simp at l1; omega) (fun j c hj => ?_)) hn
        simp only [List.append_assoc] at hj
        by_cases h1 : j < first.length
        · rw [List.getElem?_append_left h1] at hj
          have := hfr j c hj
          simp only [Array.getD_eq_getD_getElem?] at this ⊢
          rw [Array.append_assoc, Array.getElem?_append_left (by omega)]
          exact this
        · rw [List.getElem?_append_right (by omega)] at hj
          by_cases h2 : j - first.length < args.length
          · rw [List.getElem?_append_left (by simpa using h2), List.getElem?_map] at hj
            cases hx : args[j - first.length]? with
            | none => simp [hx] at hj
            | some x =>
              simp [hx] at hj
              subst hj
              have := l2 _ x hx
              simp only [Array.getD_eq_getD_getElem?]
              simp at l1
              rw [Array.append_assoc, Array.getElem?_append_right (by omega), hf, Array.getElem?_append_left (by simp; omega)]
              simpa [List.getD_eq_getElem?_getD] using this
          · rw [List.getElem?_append_right (by simpa using h2)] at hj
            simp only [List.length_map] at hj
            have := hcr _ c hj
            simp only [Array.getD_eq_getD_getElem?] at this ⊢
            simp at l1
            rw [Array.append_assoc, Array.getElem?_append_right (by omega), hf, Array.getElem?_append_right (by simp; omega)]
            simpa [l1] using this
    · exact hw.elim
  · split at hw'
    · rename_i r σ' he; exact det r σ' he hw'
    · exact hw'.elim

theorem oper_sound {own : List Nat} {i : Nat} {o : Oper} {ao : AOper} (hi : ops[i]? = some o) (hres : resolveOper P own ops n o = some ao) (hT : RelT g n tm a) (h : SR B w0 σ g w) {K : (Nat → AV) → Store → Prop} (hw : ao.wp P tm σ K)
    {K' : Act → World → Prop} (hK : ∀ tm' σ' g' a' w', K tm' σ' → Ext g g' → SR B w0 σ' g' w' → RelT g' n tm' a' → K' a' w') : wpOp P ops Q i K' a w := by
  unfold resolveOper at hres
  split at hres
  · rename_i aop hop
    split at hres
    · rename_i hd
      unfold wpOp
      simp only [hi]
      have fin : ∀ (K2 : AV → Store → Prop), (∀ r σ', K2 r σ' → K (put tm o.dst r) σ') → aop.wp P tm σ K2 → o.wp P a w K' Q := fun K2 hk2 hwp =>
        op_sound hop hT h hwp fun r σ' g' v w' k1 k2 k3 k4 => hK _ σ' g' _ w' (hk2 r σ' k1) k2 k3 ((hT.ext k2).put hd k4)
      split at hres
      · rename_i hg
        cases hres
        have hwant : Region.wanted o (yielded ops a.tmps) = true := by simp [Region.wanted, hg]
        simp only [hwant, if_true]
        exact .inl (fin _ (fun r σ' hk => hk) hw)
      · rename_i j want hg
        split at hres
        · rename_i s hs
          split at hres
          · rename_i hsn
            cases hres
            simp only [AOper.wp] at hw
            split at hw
            · rename_i b hb
              have hrs := hT.2.2 s
              rw [hb] at hrs
              have hy : yielded ops a.tmps j = some b := by
                simp only [yielded, hs, Option.bind_some]
                have hlt : s < a.tmps.size := by rw [hT.1]; exact hsn
                rw [Array.getElem?_eq_getElem hlt]
                have hgd : a.tmps.getD s undef = a.tmps[s] := by simp [hlt]
                rw [hgd] at hrs
                generalize a.tmps[s] = v at hrs
                cases hrs
                rfl
              have hwant : Region.wanted o (yielded ops a.tmps) = (b == want) := by
                simp only [Region.wanted, hg, hy]
                cases b <;> cases want <;> rfl
              rw [hwant]
              by_cases hbw : b = want
              · rw [if_pos hbw] at hw
                simp only [hbw, beq_self_eq_true, if_true]
                exact .inl (fin _ (fun r σ' hk => hk) hw)
              · rw [if_neg hbw] at hw
                have : (b == want) = false := by simpa using hbw
                simp only [this, Bool.false_eq_true, if_false]
                exact hK _ σ g _ w hw (.refl g) h (hT.put hd (RelV.tuple (cs := []) (arr := #[]) rfl (by simp)))
            · rename_i hb
              have hrs := hT.2.2 s
              rw [hb] at hrs
              have hy : yielded ops a.tmps j = none := by
                simp only [yielded, hs, Option.bind_some]
                have hlt : s < a.tmps.size := by rw [hT.1]; exact hsn
                rw [Array.getElem?_eq_getElem hlt]
                have hgd : a.tmps.getD s undef = a.tmps[s] := by simp [hlt]
                rw [hgd] at hrs
                generalize a.tmps[s] = v at hrs
                cases hrs
                rfl
              have hwant : Region.wanted o (yielded ops a.tmps) = false := by simp [Region.wanted, hg, hy]
              simp only [hwant, Bool.false_eq_true, if_false]
              exact hK _ σ g _ w hw (.refl g) h (hT.put hd (RelV.tuple (cs := []) (arr := #[]) rfl (by simp)))
            · exact hw.elim
          · cases hres
        · cases hres
    · cases hres
  · cases hres

theorem ops_sound {own : List Nat} : ∀ (l : List Oper) (k : Nat) (al : List AOper) (σ : Store) (g : Ghost) (w : World) (tm : Nat → AV) (a : Act), ops.toList.drop k = l → resolveOps P own ops n l = some al →
    RelT g n tm a → SR B w0 σ g w → ∀ K : (Nat → AV) → Store → Prop, opsWp P al tm σ K →
    (∀ tm' σ' g' a' w', K tm' σ' → Ext g g' → SR B w0 σ' g' w' → RelT g' n tm' a' → Q .normal a' w') → wpOps P ops Q (List.range' k l.length) a w := by
  intro l
  induction l with
  | nil =>
    intro k al σ g w tm a hd hr hT h K hw hK
    simp [resolveOps] at hr
    subst hr
    exact hK tm σ g a w hw (.refl g) h hT
  | cons o rest ih =>
    intro k al σ g w tm a hd hr hT h K hw hK
    simp only [resolveOps] at hr
    split at hr
    · rename_i ao al' h1 h2
      cases hr
      have hk : ops[k]? = some o := by
        have := congrArg (·[0]?) hd
        simpa using this
      have hd' : ops.toList.drop (k + 1) = rest := by
        rw [← List.drop_drop]
        rw [hd]
        rfl
      rw [List.length_cons, List.range'_succ, wpOps_cons]
      simp only [opsWp] at hw
      refine oper_sound hk h1 hT h hw fun tm' σ' g' a' w' k1 k2 k3 k4 => ?_
      exact ih (k + 1) al' σ' g' w' tm' a' hd' h2 k4 k3 K k1 fun tm2 σ2 g2 a2 w2 j1 j2 j3 j4 => hK tm2 σ2 g2 a2 w2 j1 (k2.trans j2) j3 j4
    · cases hr
end
end Go.AL
