/- The abstract layer, part 10: rows of operations whose order is drawn. -/
import Derived.Test.YtjjbjibbjbbeaaaAL10a
set_option linter.unusedVariables false
set_option linter.unusedSimpArgs false
namespace Go.AL
open Go.RowKit

/-! ### Which operations are ahead of others -/
inductive Ahead (ops : Array Oper) : Nat → Nat → Prop
  | step {i j : Nat} {o : Oper} {e : Edge} : ops[j]? = some o → e ∈ o.after → Region.binds .any e = true → e.on = i → Ahead ops i j
  | trans {i k j : Nat} {o : Oper} {e : Edge} : ops[j]? = some o → e ∈ o.after → Region.binds .any e = true → e.on = k → Ahead ops i k → Ahead ops i j

/-- For each operation, which are ahead of it: as bits. -/
def aheads : List Oper → Array Nat → Array Nat
  | [], acc => acc
  | o :: rest, acc => aheads rest (acc.push (o.after.toList.foldl (fun s e => if Region.binds .any e then s ||| 2 ^ e.on ||| acc.getD e.on 0 else s) 0))

theorem aheads_fold {ops : Array Oper} {acc : Array Nat} {j : Nat} {o : Oper} (ho : ops[j]? = some o) (hacc : ∀ k i, (acc.getD k 0).testBit i = true → Ahead ops i k) :
    ∀ (l : List Edge) (s : Nat), (∀ e, e ∈ l → e ∈ o.after) → (∀ i, s.testBit i = true → Ahead ops i j) →
      ∀ i, (l.foldl (fun s e => if Region.binds .any e then s ||| 2 ^ e.on ||| acc.getD e.on 0 else s) s).testBit i = true → Ahead ops i j := by
  intro l
  induction l with
  | nil => intro s _ hs i hi; exact hs i hi
  | cons e l ih =>
    intro s hm hs i hi
    simp only [List.foldl_cons] at hi
    refine ih _ (fun e he => hm e (by simp [he])) (fun i' hi' => ?_) i hi
    split at hi'
    · rename_i hb
      rw [Nat.testBit_or, Nat.testBit_or, Bool.or_eq_true, Bool.or_eq_true] at hi'
      rcases hi' with (h1 | h1) | h1
      · exact hs i' h1
      · rw [Nat.testBit_two_pow] at h1
        exact .step ho (hm e (by simp)) hb (by simpa using h1)
      · exact .trans ho (hm e (by simp)) hb rfl (hacc _ _ h1)
    · exact hs i' hi'

theorem aheads_spec {ops : Array Oper} : ∀ (l : List Oper) (acc : Array Nat), ops.toList.drop acc.size = l → (∀ k i, (acc.getD k 0).testBit i = true → Ahead ops i k) →
    ∀ k i, ((aheads l acc).getD k 0).testBit i = true → Ahead ops i k := by
  intro l
  induction l with
  | nil => intro acc _ hacc; exact hacc
  | cons o rest ih =>
    intro acc hd hacc
    have ho : ops[acc.size]? = some o := by
      have := congrArg (·[0]?) hd
      simpa using this
    simp only [aheads]
    refine ih _ (by rw [Array.size_push, ← List.drop_drop, hd]; rfl) (fun k i hk => ?_)
    by_cases h1 : k < acc.size
    · have e : (acc.push (o.after.toList.foldl (fun s e => if Region.binds .any e then s ||| 2 ^ e.on ||| acc.getD e.on 0 else s) 0)).getD k 0 = acc.getD k 0 := by
        simp [Array.getD_eq_getD_getElem?, Array.getElem?_push, Nat.ne_of_lt h1]
      rw [e] at hk
      exact hacc k i hk
    · by_cases h2 : k = acc.size
      · subst h2
        simp only [Array.getD_eq_getD_getElem?, Array.getElem?_push_size, Option.getD_some] at hk
        exact aheads_fold ho hacc o.after.toList 0 (fun e he => by simpa using he) (by simp) i (by simpa only [Array.getD_eq_getD_getElem?] using hk)
      · have e : (acc.push (o.after.toList.foldl (fun s e => if Region.binds .any e then s ||| 2 ^ e.on ||| acc.getD e.on 0 else s) 0)).getD k 0 = 0 := by
          simp [Array.getD_eq_getD_getElem?, Array.getElem?_push, h2]
          rw [Array.getElem?_eq_none (by omega)]
          rfl
        rw [e] at hk
        simp at hk

theorem Ahead.listed {ops : Array Oper} {listed : Array Bool} (hdown : ∀ (m : Nat) (o : Oper) (e : Edge), listed.getD m false = true → ops[m]? = some o → e ∈ o.after → Region.binds .any e = true → listed.getD e.on false = true)
    {i j : Nat} (h : Ahead ops i j) (hj : ∀ (o : Oper) (e : Edge), ops[j]? = some o → e ∈ o.after → Region.binds .any e = true → listed.getD e.on false = true) : listed.getD i false = true := by
  induction h with
  | step ho he hb hon => subst hon; exact hj _ _ ho he hb
  | trans ho he hb hon _ ih => subst hon; exact ih fun o e h1 h2 h3 => hdown _ o e (hj _ _ ho he hb) h1 h2 h3


section
variable {P : Program} {B : Nat} {w0 : World} {σ : Store} {g : Ghost} {w : World} {n : Nat} {tm : Nat → AV} {a : Act} {ops : Array Oper} {Q : Exit → Act → World → Prop}
theorem oper_sound2 {own : List Nat} {i : Nat} {o : Oper} {ao : AOper} (hi : ops[i]? = some o) (hres : resolveOper P own ops n o = some ao) (hT : RelT g n tm a) (h : SR B w0 σ g w) {K : (Nat → AV) → Store → Prop} (hw : ao.wp P tm σ K)
    {K' : Act → World → Prop} (hK : ∀ tm' σ' g' a' w', K tm' σ' → Ext g g' → SR B w0 σ' g' w' → RelT g' n tm' a' → (∃ v, a' = a.put ao.dst v) → K' a' w') : wpOp P ops Q i K' a w := by
  have hdst : ao.dst = o.dst := by
    unfold resolveOper at hres
    (repeat' split at hres) <;> simp at hres <;> subst hres <;> rfl
  unfold resolveOper at hres
  split at hres
  · rename_i aop hop
    split at hres
    · rename_i hd
      unfold wpOp
      simp only [hi]
      have fin : ∀ (K2 : AV → Store → Prop), (∀ r σ', K2 r σ' → K (put tm o.dst r) σ') → aop.wp P tm σ K2 → o.wp P a w K' Q := fun K2 hk2 hwp =>
        op_sound hop hT h hwp fun r σ' g' v w' k1 k2 k3 k4 => hK _ σ' g' _ w' (hk2 r σ' k1) k2 k3 ((hT.ext k2).put hd k4) ⟨v, by rw [hdst]⟩
      split at hres
      · rename_i hg
        cases hres
        have hwant : Region.wanted o (yielded ops a.tmps) = true := by simp [Region.wanted, hg]
        simp only [hwant, if_true]
        exact .inl (fin _ (fun r σ' hk => hk) hw)
      · rename_i j want hg
        split at hres
        · rename_i s hs
          split at hres
          · rename_i hsn
            cases hres
            simp only [AOper.wp] at hw
            split at hw
            · rename_i b hb
              have hrs := hT.2.2 s
              rw [hb] at hrs
              have hy : yielded ops a.tmps j = some b := by
                simp only [yielded, hs, Option.bind_some]
                have hlt : s < a.tmps.size := by rw [hT.1]; exact hsn
                rw [Array.getElem?_eq_getElem hlt]
                have hgd : a.tmps.getD s undef = a.tmps[s] := by simp [hlt]
                rw [hgd] at hrs
                generalize a.tmps[s] = v at hrs
                cases hrs
                rfl
              have hwant : Region.wanted o (yielded ops a.tmps) = (b == want) := by
                simp only [Region.wanted, hg, hy]
                cases b <;> cases want <;> rfl
              rw [hwant]
              by_cases hbw : b = want
              · rw [if_pos hbw] at hw
                simp only [hbw, beq_self_eq_true, if_true]
                exact .inl (fin _ (fun r σ' hk => hk) hw)
              · rw [if_neg hbw] at hw
                have : (b == want) = false := by simpa using hbw
                simp only [this, Bool.false_eq_true, if_false]
                exact hK _ σ g _ w hw (.refl g) h (hT.put hd (RelV.tuple (cs := []) (arr := #[]) rfl (by simp))) ⟨_, rfl⟩
            · rename_i hb
              have hrs := hT.2.2 s
              rw [hb] at hrs
              have hy : yielded ops a.tmps j = none := by
                simp only [yielded, hs, Option.bind_some]
                have hlt : s < a.tmps.size := by rw [hT.1]; exact hsn
                rw [Array.getElem?_eq_getElem hlt]
                have hgd : a.tmps.getD s undef = a.tmps[s] := by simp [hlt]
                rw [hgd] at hrs
                generalize a.tmps[s] = v at hrs
                cases hrs
                rfl
              have hwant : Region.wanted o (yielded ops a.tmps) = false := by simp [Region.wanted, hg, hy]
              simp only [hwant, Bool.false_eq_true, if_false]
              exact hK _ σ g _ w hw (.refl g) h (hT.put hd (RelV.tuple (cs := []) (arr := #[]) rfl (by simp))) ⟨_, rfl⟩
            · exact hw.elim
          · cases hres
        · cases hres
    · cases hres
  · cases hres

end

/-! ### A plan: operations in an order that stands for all -/
def dsts (l : List AOper) : List Nat := l.filterMap (·.dst)
def usesL (l : List AOper) : List Nat := l.flatMap AOper.uses
def quietI : List AOper → Bool
  | [o] => o.op.quiet && o.dst.isSome
  | _ => false
/-- A variable made and written. -/
def growI : List AOper → Bool
  | [⟨some t, .new _ _, none⟩, ⟨none, .store _ (.t t') _, none⟩] => t == t'
  | _ => false
/-- May the first one, which is ahead in the plan, be run behind the second one? -/
def pairOK (it : Nat → List AOper) (R : Nat → List Nat) (a b : Nat) : Bool :=
  match it a with
  | [oa] =>
    match oa.dst with
    | some da => oa.op.quiet && !(oa.uses.contains da) && !(usesL (it b)).contains da && !(dsts (it b)).contains da && !((dsts (it b)).any fun d => oa.uses.contains d) && (R a).isEmpty && (oa.op.pure || quietI (it b) || growI (it b) || (R b).contains a)
    | none => false
  | _ => false
/-- The second one writes nothing that the first one asks or tells. -/
def safe (it : Nat → List AOper) (k a : Nat) : Bool :=
  match it k with
  | [ok] => match ok.dst with | some dk => !((dsts (it a)).any fun d => ok.uses.contains d || d == dk) | none => false
  | _ => false
section
variable {P : Program}
/-- What it told it tells still. -/
def Still (P : Program) (o : AOper) (tm : Nat → AV) (σ : Store) : Prop := ∃ d, o.dst = some d ∧ o.out P tm σ fun r σ' => r = tm d ∧ σ' = σ
def DR (P : Program) (it : Nat → List AOper) (R : Nat → List Nat) (K : (Nat → AV) → Store → Prop) : List Nat → List Nat → (Nat → AV) → Store → Prop
  | _, [], tm, σ => K tm σ
  | acc, i :: rest, tm, σ => opsWp P (it i) tm σ fun tm' σ' => (∀ k, k ∈ acc → k ∈ R i → ∀ o, it k = [o] → Still P o tm' σ') ∧ DR P it R K (i :: acc) rest tm' σ'
variable {it : Nat → List AOper} {R : Nat → List Nat} {K : (Nat → AV) → Store → Prop}
theorem DR_acc : ∀ {L acc acc' : List Nat} {tm : Nat → AV} {σ : Store}, (∀ k, k ∈ acc' → k ∈ acc) → DR P it R K acc L tm σ → DR P it R K acc' L tm σ
  | [], _, _, _, _, _, h => h
  | i :: L, acc, acc', tm, σ, hs, h => opsWp_mono (fun t s ⟨h1, h2⟩ => ⟨fun k hk => h1 k (hs k hk), DR_acc (fun k hk => by
      rcases List.mem_cons.1 hk with rfl | hk
      · simp
      · simp [hs k hk]) h2⟩) h

theorem item_put {da : Nat} {ra : AV} : ∀ {l : List AOper} {tm : Nat → AV} {σ : Store} {K : (Nat → AV) → Store → Prop}, (∀ o, o ∈ l → da ∉ o.uses) → (∀ o, o ∈ l → o.dst ≠ some da) →
    opsWp P l (put tm (some da) ra) σ K → opsWp P l tm σ fun t s => K (put t (some da) ra) s
  | [], _, _, _, _, _, h => h
  | o :: l, tm, σ, K, h1, h2, h => by
    have hu : ∀ i, i ∈ o.uses → put tm (some da) ra i = tm i := fun i hi => by
      have : i ≠ da := fun e => h1 o (by simp) (e ▸ hi)
      simp [put, this]
    have h' : o.out P (put tm (some da) ra) σ fun r s => opsWp P l (put (put tm (some da) ra) o.dst r) s K := h
    have h'' := AOper.out_congr hu h'
    refine AOper.out_mono (fun r s hk => ?_) h''
    rw [put_swap tm ra r (h2 o (by simp))] at hk
    exact item_put (fun o ho => h1 o (by simp [ho])) (fun o ho => h2 o (by simp [ho])) hk
theorem item_keeps : ∀ {l : List AOper} {tm : Nat → AV} {σ : Store} {K : (Nat → AV) → Store → Prop}, opsWp P l tm σ K → opsWp P l tm σ fun t s => K t s ∧ ∀ i, i ∉ dsts l → t i = tm i
  | [], _, _, _, h => ⟨h, fun _ _ => rfl⟩
  | o :: l, tm, σ, K, h => by
    have h' : o.out P tm σ fun r s => opsWp P l (put tm o.dst r) s K := h
    refine AOper.out_mono (fun r s hk => ?_) h'
    refine opsWp_mono (fun t s ⟨k1, k2⟩ => ⟨k1, fun i hi => ?_⟩) (item_keeps hk)
    rw [k2 i (fun hd => hi (by simp only [dsts, List.mem_filterMap] at hd ⊢; obtain ⟨x, hx, hx2⟩ := hd; exact ⟨x, by simp [hx], hx2⟩))]
    cases hd : o.dst with
    | none => rfl
    | some d =>
      have : i ≠ d := fun e => hi (by simp [dsts, hd, e])
      simp [put, this]
theorem item_quiet {l : List AOper} (hq : quietI l = true) {tm : Nat → AV} {σ : Store} {K : (Nat → AV) → Store → Prop} (h : opsWp P l tm σ K) : opsWp P l tm σ fun t s => K t s ∧ s = σ := by
  unfold quietI at hq
  split at hq
  · rename_i o
    simp only [Bool.and_eq_true] at hq
    have h' : o.out P tm σ fun r s => K (put tm o.dst r) s := h
    obtain ⟨r, h1, h2⟩ := AOper.out_quiet hq.1 h'
    exact h2 _ ⟨h1, rfl⟩
  · cases hq
theorem item_grow {l : List AOper} (hq : growI l = true) {tm : Nat → AV} {σ : Store} {K : (Nat → AV) → Store → Prop} (h : opsWp P l tm σ K) : opsWp P l tm σ fun t s => K t s ∧ Grown σ s := by
  unfold growI at hq
  split at hq
  · rename_i t ty z sz t' x
    have ht : t = t' := by simpa using hq
    subst ht
    have h1 : (AOp.new ty z).wp P tm σ fun r s => (AOp.store sz (.t t) x).wp P (put tm (some t) r) s fun r' s' => K (put (put tm (some t) r) none r') s' := h
    show (AOp.new ty z).wp P tm σ fun r s => (AOp.store sz (.t t) x).wp P (put tm (some t) r) s fun r' s' => K (put (put tm (some t) r) none r') s' ∧ Grown σ s'
    simp only [AOp.wp] at h1 ⊢
    cases he : (AOp.new ty z).eff tm σ with
    | none => rw [he] at h1; exact h1.elim
    | some p =>
      obtain ⟨r, s⟩ := p
      rw [he] at h1
      simp only at h1 ⊢
      simp only [AOp.eff] at he
      split at he
      · rename_i cs hcs
        simp only [Option.some.injEq, Prod.mk.injEq] at he
        obtain ⟨rfl, rfl⟩ := he
        cases he2 : (AOp.store sz (.t t) x).eff (put tm (some t) (.ptr σ.next 0 0 0)) (σ.push (.cells ty 0 cs.length [cs])) with
        | none => rw [he2] at h1; exact h1.elim
        | some p =>
          obtain ⟨r', s'⟩ := p
          rw [he2] at h1
          simp only at h1 ⊢
          refine ⟨h1, ?_⟩
          have hs' : ∃ o, s' = (σ.push (.cells ty 0 cs.length [cs])).upd σ.next o := by
            have e : (AX.t t).ev (put tm (some t) (.ptr σ.next 0 0 0)) = .ptr σ.next 0 0 0 := by simp [AX.ev, put]
            simp only [AOp.eff, e, Store.get_push_self] at he2
            (repeat' split at he2) <;> simp only [Option.some.injEq, Prod.mk.injEq, reduceCtorEq] at he2
            exact ⟨_, he2.2.symm⟩
          obtain ⟨o, rfl⟩ := hs'
          intro id hid
          rw [Store.get_upd_ne _ _ (by omega), Store.get_push_lt _ _ hid]
      · cases he
  · cases hq

theorem DR_front {b : Nat} {L2 : List Nat} : ∀ (L1 acc : List Nat) (tm : Nat → AV) (σ : Store), (∀ a, a ∈ L1 → pairOK it R a b = true) → (acc.reverse ++ L1).Pairwise (fun k a => k ∈ R b → safe it k a = true) →
    DR P it R K acc (L1 ++ b :: L2) tm σ → opsWp P (it b) tm σ fun tm' σ' => (∀ k, k ∈ acc → k ∈ R b → ∀ o, it k = [o] → Still P o tm' σ') ∧ DR P it R K acc (L1 ++ L2) tm' σ' := by
  intro L1
  induction L1 with
  | nil => intro acc tm σ _ _ h; exact opsWp_mono (fun t s ⟨h1, h2⟩ => ⟨h1, DR_acc (fun k hk => by simp [hk]) h2⟩) h
  | cons a L1 ih =>
    intro acc tm σ hp hs h
    have hpa := hp a (by simp)
    unfold pairOK at hpa
    split at hpa
    · rename_i oa hia
      split at hpa
      · rename_i da hda
        simp only [Bool.and_eq_true, Bool.not_eq_true', List.isEmpty_iff] at hpa
        obtain ⟨⟨⟨⟨⟨⟨q1, q0⟩, q2⟩, q3⟩, q4⟩, q5⟩, q6⟩ := hpa
        have h' : oa.out P tm σ fun r s => (∀ k, k ∈ acc → k ∈ R a → ∀ o, it k = [o] → Still P o (put tm oa.dst r) s) ∧ DR P it R K (a :: acc) (L1 ++ b :: L2) (put tm oa.dst r) s := by
          have : opsWp P (it a) tm σ fun tm' σ' => (∀ k, k ∈ acc → k ∈ R a → ∀ o, it k = [o] → Still P o tm' σ') ∧ DR P it R K (a :: acc) (L1 ++ b :: L2) tm' σ' := h
          rw [hia] at this
          exact this
        obtain ⟨ra, ⟨_, h1⟩, h2⟩ := AOper.out_quiet q1 h'
        rw [hda] at h1
        have i1 := ih (a :: acc) _ _ (fun x hx => hp x (by simp [hx])) (by simpa using hs) h1
        have n1 : ∀ o, o ∈ it b → da ∉ o.uses := fun o ho hd => by
          have : (usesL (it b)).contains da = true := by simp only [usesL, List.contains_iff_mem, List.mem_flatMap]; exact ⟨o, ho, hd⟩
          rw [this] at q2; cases q2
        have n2 : ∀ o, o ∈ it b → o.dst ≠ some da := fun o ho hd => by
          have : (dsts (it b)).contains da = true := by simp only [dsts, List.contains_iff_mem, List.mem_filterMap]; exact ⟨o, ho, hd⟩
          rw [this] at q3; cases q3
        have n3 : ∀ i, i ∈ oa.uses → i ∉ dsts (it b) := fun i hi hd => by
          have : ((dsts (it b)).any fun d => oa.uses.contains d) = true := List.any_eq_true.2 ⟨i, hd, by simpa using hi⟩
          rw [this] at q4; cases q4
        have i2 := item_keeps (item_put n1 n2 i1)
        -- the goal, from what holds behind b
        have fin : ∀ t s, (((∀ k, k ∈ a :: acc → k ∈ R b → ∀ o, it k = [o] → Still P o (put t (some da) ra) s) ∧ DR P it R K (a :: acc) (L1 ++ L2) (put t (some da) ra) s) ∧ ∀ i, i ∉ dsts (it b) → t i = tm i) →
            (∀ K' : AV → Store → Prop, K' ra s → oa.out P t s K') →
            (∀ k, k ∈ acc → k ∈ R b → ∀ o, it k = [o] → Still P o t s) ∧ DR P it R K acc (a :: L1 ++ L2) t s := by
          intro t s ⟨⟨k1, k2⟩, k3⟩ ha
          refine ⟨fun k hk hkb o ho => ?_, ?_⟩
          · obtain ⟨d, hd, hst⟩ := k1 k (by simp [hk]) hkb o ho
            have hsf : safe it k a = true := by
              have := (List.pairwise_append.1 hs).2.2 k (by simpa using hk) a (by simp)
              exact this hkb
            unfold safe at hsf
            rw [ho] at hsf
            simp only [hd, hia, dsts, List.filterMap_cons, hda, List.filterMap_nil, List.any_cons, List.any_nil, Bool.or_false, Bool.not_eq_true', Bool.or_eq_false_iff, beq_eq_false_iff_ne, ne_eq] at hsf
            obtain ⟨s1, s2⟩ := hsf
            have s1' : da ∉ o.uses := fun hm => by
              have : o.uses.contains da = true := by simpa using hm
              rw [this] at s1; cases s1
            refine ⟨d, hd, ?_⟩
            have hst' := AOper.out_congr (tm' := t) (fun i hi => by
              have : i ≠ da := fun e => s1' (e ▸ hi)
              simp [put, this]) hst
            refine AOper.out_mono (fun r τ ⟨e1, e2⟩ => ⟨?_, e2⟩) hst'
            have : d ≠ da := fun e => s2 e.symm
            rw [e1]; simp [put, this]
          · show opsWp P (it a) t s _
            rw [hia]
            refine ha _ ⟨fun k _ hk => by rw [q5] at hk; simp at hk, ?_⟩
            rw [hda]; exact k2
        have huse : ∀ t : Nat → AV, (∀ i, i ∉ dsts (it b) → t i = tm i) → ∀ i, i ∈ oa.uses → tm i = t i := fun t ht i hi => (ht i (n3 i hi)).symm
        simp only [Bool.or_eq_true] at q6
        rcases q6 with ((q6 | q6) | q6) | q6
        · obtain ⟨ra', h3, h4⟩ := AOper.out_pure q6 (h2 (fun r s => r = ra ∧ s = σ) ⟨rfl, rfl⟩)
          obtain ⟨rfl, _⟩ := h3
          exact opsWp_mono (fun t s hk => fin t s hk fun K' hk' => AOper.out_congr (huse t hk.2) (h4 s K' hk')) i2
        · exact opsWp_mono (fun t s hk => fin t s hk.1 fun K' hk' => AOper.out_congr (huse t hk.1.2) (by have := hk.2; subst this; exact h2 K' hk')) (item_quiet q6 i2)
        · refine opsWp_mono (fun t s hk => fin t s hk.1 fun K' hk' => AOper.out_congr (huse t hk.1.2) ?_) (item_grow q6 i2)
          have hgr := hk.2
          have := h2 (fun r s => r = ra ∧ s = σ) ⟨rfl, rfl⟩
          unfold AOper.out at this ⊢
          split at this
          · obtain ⟨r, e1, e2⟩ := (AOp.wp_quiet q1).1 this
            obtain ⟨rfl, _⟩ := e2
            exact (AOp.wp_quiet q1).2 ⟨_, AOp.eff_grown q1 hgr e1, hk'⟩
          · split at this
            · rename_i bb hbb
              try simp only [hbb]
              split at this
              · rename_i hw
                rw [if_pos hw]
                obtain ⟨r, e1, e2⟩ := (AOp.wp_quiet q1).1 this
                obtain ⟨rfl, _⟩ := e2
                exact (AOp.wp_quiet q1).2 ⟨_, AOp.eff_grown q1 hgr e1, hk'⟩
              · rename_i hw
                rw [if_neg hw]
                obtain ⟨e, _⟩ := this
                rw [e]; exact hk'
            · obtain ⟨e, _⟩ := this
              rw [e]; exact hk'
            · exact this.elim
        · refine opsWp_mono (fun t s hk => fin t s hk fun K' hk' => ?_) i2
          obtain ⟨d, hd, hst⟩ := hk.1.1 a (by simp) (by simpa using q6) oa hia
          rw [hda] at hd; cases hd
          have hdu : da ∉ oa.uses := fun hm => by
            have : oa.uses.contains da = true := by simpa using hm
            rw [this] at q0; cases q0
          have hst' := AOper.out_congr (tm' := t) (fun i hi => by
              have : i ≠ da := fun e => hdu (e ▸ hi)
              simp [put, this]) hst
          obtain ⟨r, ⟨e1, e2⟩, h5⟩ := AOper.out_quiet q1 hst'
          simp only [put, if_true] at e1
          subst e1
          exact h5 K' hk'
      · cases hpa
    · cases hpa
end
end Go.AL
