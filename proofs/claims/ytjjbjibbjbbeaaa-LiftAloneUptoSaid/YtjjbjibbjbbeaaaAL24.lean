/- The abstract layer, part 24: what is run on values is so. -/
import Derived.Test.YtjjbjibbjbbeaaaAL23
set_option linter.unusedVariables false
set_option linter.unusedSimpArgs false
namespace Go.AL
open Go.RowKit

theorem evF_eq (t : Tr AV) (x : AX) : evF t x = x.ev (tmF t) := by cases x <;> rfl
theorem evsF_eq (t : Tr AV) : ∀ l : List AX, evsF t l = l.map (·.ev (tmF t))
  | [] => rfl
  | x :: l => by rw [evsF, evF_eq, evsF_eq t l]; rfl
theorem evO_eq (t : Tr AV) (x : Option AX) : evO t x = x.map (·.ev (tmF t)) := by cases x with
  | none => rfl
  | some x => simp [evO, evF_eq]
theorem wp_of_eff {P : Program} {op : AOp} {tm : Nat → AV} {σ σ' : Store} {v : AV} {K : AV → Store → Prop} (h : op.eff tm σ = some (v, σ')) (hk : K v σ') : op.wp P tm σ K := by
  cases op
  case call f args => cases h
  case callv f args => cases h
  case move x => cases h; exact hk
  case mkfn f a b => cases h; exact hk
  case mkmap => cases h; exact hk
  all_goals (show (match AOp.eff _ tm σ with | some (r, σ') => K r σ' | none => False); rw [h]; exact hk)
def RecOK (P : Program) (rec : Rec) : Prop := ∀ c s r s', rec c s = some (r, s') → ∀ (m : Nat) (Q : AEx → (Nat → AV) → Store → Prop), Q r (tmF s'.tm) (stF s'.n s'.hp) → AWP P m c Q (tmF s.tm) (stF s.n s.hp)
section
variable {P : Program} {tab : FTab} {rec : Rec} {K : AV → Store → Prop}
theorem callF_ok (ht : tab.OK P) (hr : RecOK P rec) {f : FuncId} {args : List AV} {n n' : Nat} {hp hp' : Tr AObj} {v : AV} (h : callF tab rec f args n hp = some (v, n', hp')) (hk : K v (stF n' hp')) : ACalls P f args (stF n hp) K := by
  unfold callF at h
  split at h
  · cases h
  · rename_i e he
    split at h
    · rename_i t hle hat
      have htm : env (argList 0 args) = tmF t := funext fun i => by
        rw [env_argList, argT_get args 0 .nil t hat i]
        simp only [Nat.zero_le, if_true, true_and, Nat.sub_zero, Nat.zero_add]
        split
        · rfl
        · rename_i hi
          rw [List.getD_eq_getElem?_getD, List.getElem?_eq_none (by omega)]
          rfl
      refine ht f e he args (stF n hp) K (Nat.le_of_ble_eq_true hle) ?_
      rw [htm]
      split at h
      · cases h
      · rename_i x s hx hrun
        split at h
        · rename_i l hl
          simp only [Option.some.injEq, Prod.mk.injEq] at h
          obtain ⟨rfl, rfl, rfl⟩ := h
          refine hr _ _ _ _ hrun e.n _ ?_
          cases x with
          | exit id => exact absurd rfl (hx id)
          | normal => show Res e.rs K _ _; unfold Res; rw [hl]; exact hk
          | ret => show Res e.rs K _ _; unfold Res; rw [hl]; exact hk
        · cases h
      · cases h
    · cases h
theorem quiet_ok {op : AOp} (hq : op.quiet = true) {tm : Nat → AV} {x : Option (AV × Store)} {n n' : Nat} {hp hp' : Tr AObj} {v : AV} (hx : x = op.eff tm (stF n hp)) (h : quietF x n hp = some (v, n', hp')) : op.eff tm (stF n hp) = some (v, stF n' hp') := by
  subst hx
  unfold quietF at h
  split at h
  · rename_i r σ' he
    simp only [Option.some.injEq, Prod.mk.injEq] at h
    obtain ⟨rfl, rfl, rfl⟩ := h
    have := AOp.eff_quiet hq he
    rw [he, this]
  · cases h
theorem opF_ok (ht : tab.OK P) (hr : RecOK P rec) {op : AOp} {t : Tr AV} {n n' : Nat} {hp hp' : Tr AObj} {v : AV} (h : opF tab rec op t n hp = some (v, n', hp')) (hk : K v (stF n' hp')) : op.wp P (tmF t) (stF n hp) K := by
  cases op
  case call f args =>
    simp only [opF, evsF_eq] at h
    exact callF_ok ht hr h hk
  case callv f args =>
    simp only [opF, evsF_eq, evF_eq, callvF] at h
    show (match f.ev (tmF t) with | .fn (.func f) first captured => ACalls P f (first ++ args.map (·.ev (tmF t)) ++ captured) (stF n hp) K | _ => False)
    split at h
    · rename_i g a b hfe
      rw [hfe]
      exact callF_ok ht hr h hk
    · cases h
  case move x =>
    simp only [opF, evF_eq, Option.some.injEq, Prod.mk.injEq] at h
    obtain ⟨rfl, rfl, rfl⟩ := h
    exact wp_of_eff rfl hk
  case mkfn f a b =>
    simp only [opF, evsF_eq, Option.some.injEq, Prod.mk.injEq] at h
    obtain ⟨rfl, rfl, rfl⟩ := h
    exact wp_of_eff rfl hk
  case lit own ty sz xs =>
    simp only [opF, evsF_eq] at h
    exact wp_of_eff (commit_ok (op := .lit own ty sz xs) rfl (.inl rfl) h) hk
  case new ty x =>
    simp only [opF, evF_eq] at h
    exact wp_of_eff (commit_ok (op := .new ty x) rfl (.inl rfl) h) hk
  case mkmap =>
    simp only [opF] at h
    exact wp_of_eff (commit_ok (op := .mkmap) rfl (.inl rfl) h) hk
  case mkslice ty sz bytes zc l c =>
    simp only [opF, evF_eq] at h
    exact wp_of_eff (commit_ok (op := .mkslice ty sz bytes zc l c) rfl (.inl rfl) h) hk
  case store sz a x =>
    simp only [opF, evF_eq] at h
    refine wp_of_eff (commit_ok (op := .store sz a x) rfl ?_ h) hk
    simp only [AOp.touch]
    split <;> simp_all [idOf]
  case mapset kd m k x =>
    simp only [opF, evF_eq] at h
    refine wp_of_eff (commit_ok (op := .mapset kd m k x) rfl ?_ h) hk
    simp only [AOp.touch]
    split <;> simp_all [idOf]
  case mapdel kd m k =>
    simp only [opF, evF_eq] at h
    refine wp_of_eff (commit_ok (op := .mapdel kd m k) rfl ?_ h) hk
    simp only [AOp.touch]
    split <;> simp_all [idOf]
  case append ty sz bytes s x =>
    simp only [opF, evF_eq] at h
    refine wp_of_eff (commit_ok (op := .append ty sz bytes s x) rfl ?_ h) hk
    simp only [AOp.touch]
    split <;> simp_all [idOf]
  case cut k sz x lo hi =>
    simp only [opF, evF_eq, evO_eq] at h
    exact wp_of_eff (quiet_ok (op := .cut k sz x lo hi) rfl (by rfl) h) hk
  case build z ps =>
    simp only [opF, evF_eq] at h
    exact wp_of_eff (quiet_ok (op := .build z ps) rfl (by rfl) h) hk
  case bin kd op x y =>
    simp only [opF, evF_eq, binF] at h
    split at h
    · rename_i r hr
      rw [forceV_eq] at h
      simp only [Option.some.injEq, Prod.mk.injEq] at h
      obtain ⟨rfl, rfl, rfl⟩ := h
      exact wp_of_eff (by simp only [AOp.eff, hr]) hk
    · cases h
  case len k x =>
    simp only [opF, evF_eq] at h
    exact wp_of_eff (quiet_ok (op := .len k x) (by cases k <;> rfl) (by rfl) h) hk
  all_goals (simp only [opF, evF_eq] at h; refine wp_of_eff (quiet_ok ?_ ?_ h) hk <;> rfl)
theorem putF_ok {t t' : Tr AV} {d : Option Nat} {v : AV} (h : putF t d v = some t') : tmF t' = put (tmF t) d v := by
  cases d with
  | none => simp only [putF, Option.some.injEq] at h; subst h; rfl
  | some d =>
    simp only [putF] at h
    funext i
    have := Tr.get_set _ _ _ _ _ h i
    simp only [tmF, this, put]
    by_cases hi : i = d
    · rw [if_pos hi, if_pos hi]
    · rw [if_neg hi, if_neg hi]
theorem operF_ok (ht : tab.OK P) (hr : RecOK P rec) {o : AOper} {s s' : St} (h : operF tab rec o s = some s') {K : (Nat → AV) → Store → Prop} (hk : K (tmF s'.tm) (stF s'.n s'.hp)) : o.wp P (tmF s.tm) (stF s.n s.hp) K := by
  have go : ∀ s', (match opF tab rec o.op s.tm s.n s.hp with | some (v, n, hp) => (match putF s.tm o.dst v with | some t => some (⟨t, n, hp⟩ : St) | none => none) | none => none) = some s' → K (tmF s'.tm) (stF s'.n s'.hp) →
      o.op.wp P (tmF s.tm) (stF s.n s.hp) fun r σ' => K (put (tmF s.tm) o.dst r) σ' := by
    intro s' h hk
    split at h
    · rename_i v n hp hop
      split at h
      · rename_i t hput
        cases h
        refine opF_ok ht hr hop ?_
        rw [← putF_ok hput]
        exact hk
      · cases h
    · cases h
  have jk : ∀ s', (match putF s.tm o.dst (.tuple []) with | some t => some (⟨t, s.n, s.hp⟩ : St) | none => none) = some s' → K (tmF s'.tm) (stF s'.n s'.hp) → K (put (tmF s.tm) o.dst (.tuple [])) (stF s.n s.hp) := by
    intro s' h hk
    split at h
    · rename_i t hput
      cases h
      rw [← putF_ok hput]
      exact hk
    · cases h
  unfold AOper.wp
  cases hg : o.guard with
  | none =>
    simp only [operF, hg] at h
    exact go s' h hk
  | some p =>
    obtain ⟨g, want⟩ := p
    simp only [operF, hg] at h
    simp only
    cases hb : tmF s.tm g with
    | bool b =>
      simp only [hb] at h ⊢
      cases b <;> cases want
      · exact go s' h hk
      · exact jk s' h hk
      · exact jk s' h hk
      · exact go s' h hk
    | tuple vs =>
      cases vs with
      | nil => simp only [hb] at h ⊢; exact jk s' h hk
      | cons x l => simp only [hb, reduceCtorEq] at h
    | _ => simp only [hb, reduceCtorEq] at h
theorem opsF_ok (ht : tab.OK P) (hr : RecOK P rec) : ∀ (l : List AOper) (s s' : St), opsF tab rec l s = some s' → ∀ K : (Nat → AV) → Store → Prop, K (tmF s'.tm) (stF s'.n s'.hp) → opsWp P l (tmF s.tm) (stF s.n s.hp) K
  | [], s, s', h, K, hk => by simp only [opsF, Option.some.injEq] at h; subst h; exact hk
  | o :: l, s, s', h, K, hk => by
    simp only [opsF] at h
    split at h
    · rename_i s1 h1
      exact operF_ok ht hr h1 (opsF_ok ht hr l s1 s' h K hk)
    · cases h
end
theorem emptyTab_ok (P : Program) : FTab.OK P (fun _ => none) := fun f e h => by cases h
theorem emptyRec_ok (P : Program) : RecOK P (fun _ _ => none) := fun c s r s' h => by cases h
theorem stillF_ok {P : Program} {o : AOper} {s : St} (h : stillF o s = true) : Still P o (tmF s.tm) (stF s.n s.hp) := by
  unfold stillF at h
  cases hd : o.dst with
  | none => simp only [hd, Bool.false_eq_true] at h
  | some d =>
    simp only [hd] at h
    refine ⟨d, hd, ?_⟩
    have go : (o.op.quiet && (match opF (fun _ => none) (fun _ _ => none) o.op s.tm s.n s.hp with | some (v, _) => eqA2 v (tmF s.tm d) | none => false)) = true → o.op.wp P (tmF s.tm) (stF s.n s.hp) fun r σ' => r = tmF s.tm d ∧ σ' = stF s.n s.hp := by
      intro h
      simp only [Bool.and_eq_true] at h
      obtain ⟨hq, h⟩ := h
      split at h
      · rename_i v q hop
        obtain ⟨n', hp'⟩ := q
        have h1 : o.op.wp P (tmF s.tm) (stF s.n s.hp) fun r σ' => r = v := opF_ok (emptyTab_ok P) (emptyRec_ok P) hop rfl
        obtain ⟨r, h2, h3⟩ := (AOp.wp_quiet hq).1 h1
        refine (AOp.wp_quiet hq).2 ⟨r, h2, ?_, rfl⟩
        rw [h3]
        exact eqA2_ok h
      · cases h
    unfold AOper.out
    cases hg : o.guard with
    | none =>
      simp only [hg] at h
      exact go h
    | some p =>
      obtain ⟨g, want⟩ := p
      simp only [hg] at h
      simp only
      cases hb : tmF s.tm g with
      | bool b =>
        simp only [hb] at h ⊢
        cases b <;> cases want
        · exact go h
        · exact ⟨eqA2_ok h, trivial⟩
        · exact ⟨eqA2_ok h, trivial⟩
        · exact go h
      | tuple vs =>
        cases vs with
        | nil => simp only [hb] at h ⊢; exact ⟨eqA2_ok h, trivial⟩
        | cons x l => simp only [hb, Bool.false_eq_true] at h
      | _ => simp only [hb, Bool.false_eq_true] at h
theorem stillsF_ok {P : Program} {s : St} : ∀ {l : List AOper}, stillsF l s = true → ∀ c, c ∈ l → Still P c (tmF s.tm) (stF s.n s.hp)
  | [], _, c, hc => by cases hc
  | o :: l, h, c, hc => by
    simp only [stillsF, Bool.and_eq_true] at h
    rcases List.mem_cons.1 hc with rfl | hc
    · exact stillF_ok h.1
    · exact stillsF_ok h.2 c hc
section
variable {P : Program} {tab : FTab} {rec : Rec}
theorem drawF_ok (ht : tab.OK P) (hr : RecOK P rec) : ∀ (l : List (List AOper × List AOper)) (s s' : St), drawF tab rec l s = some s' → ∀ K : (Nat → AV) → Store → Prop, K (tmF s'.tm) (stF s'.n s'.hp) → opsN P l (tmF s.tm) (stF s.n s.hp) K
  | [], s, s', h, K, hk => by simp only [drawF, Option.some.injEq] at h; subst h; exact hk
  | (os, cs) :: l, s, s', h, K, hk => by
    simp only [drawF] at h
    split at h
    · rename_i s1 h1
      split at h
      · rename_i hst
        exact opsF_ok ht hr os s s1 h1 _ ⟨stillsF_ok hst, drawF_ok ht hr l s1 s' h K hk⟩
      · cases h
    · cases h
theorem junkF_ok : ∀ (l : List Nat) (t t' : Tr AV), junkF l t = some t' → tmF t' = junks l (tmF t)
  | [], t, t', h => by simp only [junkF, Option.some.injEq] at h; subst h; rfl
  | j :: l, t, t', h => by
    simp only [junkF] at h
    split at h
    · rename_i t1 h1
      rw [junkF_ok l t1 t' h, junks_cons]
      congr 1
      funext i
      have := Tr.get_set _ _ _ _ _ h1 i
      simp only [tmF, this, put]
      by_cases hi : i = j
      · rw [if_pos hi, if_pos hi]
      · rw [if_neg hi, if_neg hi]
    · cases h
theorem iterF_ok (hr : RecOK P rec) (c : ACode) (m : Nat) (Q : AEx → (Nat → AV) → Store → Prop) {k : Nat} {s s' : St} {r : AEx} (h : iterF (rec c) k s = some (r, s')) (hq : Q r (tmF s'.tm) (stF s'.n s'.hp)) : ALoop P m c Q (tmF s.tm) (stF s.n s.hp) := by
  refine ALoop_measure (fun k t σ => ∃ s, iterF (rec c) k s = some (r, s') ∧ t = tmF s.tm ∧ σ = stF s.n s.hp) ?_ ⟨s, h, rfl, rfl⟩
  rintro k t σ ⟨s, hs, rfl, rfl⟩
  cases k with
  | zero => cases hs
  | succ k =>
    simp only [iterF] at hs
    cases hb : rec c s with
    | none => rw [hb] at hs; cases hs
    | some p =>
      obtain ⟨x, s1⟩ := p
      rw [hb] at hs
      cases x with
      | normal => exact hr c s _ s1 hb m _ ⟨k, Nat.lt_succ_self k, s1, hs, rfl, rfl⟩
      | exit id => cases hs; exact hr c s _ _ hb m _ hq
      | ret => cases hs; exact hr c s _ _ hb m _ hq
theorem stepF_ok (ht : tab.OK P) (hr : RecOK P rec) : RecOK P (stepF tab rec) := by
  intro c s r s' h m Q hq
  cases c with
  | skip => cases h; exact AWP_skip hq
  | reg ops =>
    simp only [stepF] at h
    split at h
    · rename_i s1 h1
      cases h
      exact AWP_reg (opsF_ok ht hr ops s _ h1 _ hq)
    · cases h
  | draw js ops =>
    simp only [stepF] at h
    split at h
    · rename_i t hj
      split at h
      · rename_i s1 h1
        cases h
        refine AWP_draw ?_
        rw [← junkF_ok js s.tm t hj]
        exact drawF_ok ht hr ops _ _ h1 _ hq
      · cases h
    · cases h
  | seq a b =>
    simp only [stepF] at h
    refine AWP_seq ?_
    cases ha : rec a s with
    | none => rw [ha] at h; cases h
    | some p =>
      obtain ⟨x, s1⟩ := p
      rw [ha] at h
      refine hr a s x s1 ha m _ ?_
      cases x with
      | normal => exact hr b s1 r s' h m Q hq
      | exit id => cases h; exact hq
      | ret => cases h; exact hq
  | cond c a b =>
    simp only [stepF] at h
    split at h
    · rename_i hb; exact AWP_cond_true hb (hr a s r s' h m Q hq)
    · rename_i hb; exact AWP_cond_false hb (hr b s r s' h m Q hq)
    · cases h
  | block id c =>
    simp only [stepF] at h
    refine AWP_block ?_
    cases hc : rec c s with
    | none => rw [hc] at h; cases h
    | some p =>
      obtain ⟨x, s1⟩ := p
      rw [hc] at h
      refine hr c s x s1 hc m _ ?_
      cases x with
      | normal => cases h; exact hq
      | ret => cases h; exact hq
      | exit id' =>
        simp only at h
        split at h
        · rename_i hb
          cases h
          show (if id' = id then _ else _)
          rw [if_pos (Nat.eq_of_beq_eq_true hb)]
          exact hq
        · rename_i hb
          cases h
          show (if id' = id then _ else _)
          rw [if_neg (Nat.ne_of_beq_eq_false hb)]
          exact hq
  | loop c =>
    simp only [stepF] at h
    exact AWP_loop (iterF_ok hr c m Q h hq)
  | exit id => cases h; exact AWP_exit hq
  | ret => cases h; exact AWP_ret hq
  | scope c => exact AWP_scope (hr c s r s' h m Q hq)
theorem runF_ok (ht : tab.OK P) : ∀ f, RecOK P (runF tab f)
  | 0 => emptyRec_ok P
  | f + 1 => stepF_ok ht (runF_ok ht f)
/-- A call that is run. -/
theorem callF_calls (ht : tab.OK P) {fuel : Nat} {f : FuncId} {args : List AV} {n n' : Nat} {hp hp' : Tr AObj} {v : AV} (h : callF tab (runF tab fuel) f args n hp = some (v, n', hp')) : ACalls P f args (stF n hp) fun r σ' => r = v ∧ σ' = stF n' hp' :=
  callF_ok ht (runF_ok ht fuel) h ⟨rfl, rfl⟩
theorem stF_empty : stF 0 .nil = Store.empty := Store.ext' rfl (funext fun j => (stF 0 Tr.nil).wf j (Nat.zero_le _))
/-- Is it this bool? -/
noncomputable def saysF (b : Bool) (x : Option (AV × Nat × Tr AObj)) : Bool := match x with | some (.bool c, _, _) => c == b | _ => false
/-- A call that says some bool. -/
theorem ACalls_says (ht : tab.OK P) {fuel : Nat} {f : FuncId} {args : List AV} {b : Bool} (h : saysF b (callF tab (runF tab fuel) f args 0 .nil) = true) : ACalls P f args Store.empty fun r σ' => r = .bool b := by
  unfold saysF at h
  split at h
  · rename_i c n hp he
    have := callF_calls ht he
    rw [stF_empty] at this
    exact this.mono fun r s hr => by rw [hr.1, eq_of_beq h]
  · cases h
end
/-! ### Tables -/
def EntOK (P : Program) (f : FuncId) (e : FEnt) : Prop := ∀ (args : List AV) (σ : Store) (K : AV → Store → Prop), args.length ≤ e.n →
  AWP P e.n e.c (fun x t s => match x with | .exit _ => False | _ => Res e.rs K t s) (env (argList 0 args)) σ → ACalls P f args σ K
noncomputable def tabOf : List (Nat × FEnt) → FTab
  | [], _ => none
  | (g, e) :: l, f => match Nat.beq f g with | true => some e | false => tabOf l f
inductive EntsOK (P : Program) : List (Nat × FEnt) → Prop
  | nil : EntsOK P []
  | cons {f : FuncId} {e : FEnt} {l : List (Nat × FEnt)} (h : EntOK P f e) (t : EntsOK P l) : EntsOK P ((f, e) :: l)
theorem tabOf_ok {P : Program} {l : List (Nat × FEnt)} (h : EntsOK P l) : (tabOf l).OK P := by
  induction h with
  | nil => intro f e h; cases h
  | cons h t ih =>
    intro f e hf
    simp only [tabOf] at hf
    split at hf
    · rename_i hb
      cases hf
      have := Nat.eq_of_beq_eq_true hb
      subst this
      exact h
    · exact ih f e hf
end Go.AL
