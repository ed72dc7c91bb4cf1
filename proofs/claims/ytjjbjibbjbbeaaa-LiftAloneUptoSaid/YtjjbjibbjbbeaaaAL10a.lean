/- The abstract layer, part 10: rows of operations whose order is drawn. -/
import Derived.Test.YtjjbjibbjbbeaaaAL9c
set_option linter.unusedVariables false
set_option linter.unusedSimpArgs false
namespace Go.AL
open Go.RowKit

def AX.slot : AX → List Nat
  | .t i => [i]
  | .c _ => []
theorem AX.ev_congr {x : AX} {tm tm' : Nat → AV} (h : ∀ i, i ∈ x.slot → tm i = tm' i) : x.ev tm = x.ev tm' := by
  cases x with
  | t i => exact h i (by simp [AX.slot])
  | c v => rfl

def AOp.xs : AOp → List AX
  | .move x | .new _ x | .load _ x | .nilck x | .not x | .neg x | .conv _ x | .same x | .faddr _ x | .field _ _ x | .extract x _ | .len _ x | .bstr x => [x]
  | .pick a b c => [a, b, c]
  | .build _ ps => ps.map (·.2.2)
  | .lit _ _ _ xs => xs
  | .store _ a x | .bin _ _ a x | .nileq _ _ a x | .mkslice _ _ _ _ a x | .iaddr _ a x | .index a x | .lookup _ _ _ a x | .append _ _ _ a x | .min2 a x | .max2 a x | .mapdel _ a x => [a, x]
  | .mkfn _ a b => a ++ b
  | .mkmap => []
  | .cut _ _ x lo hi => [x] ++ lo.toList ++ hi.toList
  | .mapset _ m k x => [m, k, x]
  | .call _ args => args
  | .callv f args => f :: args

theorem map_ev_congr {xs : List AX} {tm tm' : Nat → AV} (h : ∀ x, x ∈ xs → x.ev tm = x.ev tm') : xs.map (·.ev tm) = xs.map (·.ev tm') := List.map_congr_left h

theorem AOp.eff_congr {op : AOp} {tm tm' : Nat → AV} (h : ∀ x, x ∈ op.xs → x.ev tm = x.ev tm') (σ : Store) : op.eff tm σ = op.eff tm' σ := by
  cases op <;> simp only [AOp.xs] at h <;> simp only [AOp.eff]
  case build z ps =>
    have : (ps.map fun p => (p.1, p.2.1, p.2.2.ev tm)) = (ps.map fun p => (p.1, p.2.1, p.2.2.ev tm')) := List.map_congr_left fun p hp => by
      rw [h p.2.2 (List.mem_map_of_mem hp)]
    rw [this]
  case lit own ty sz xs => rw [map_ev_congr h]
  case mkfn f a b => rw [map_ev_congr fun x hx => h x (by simp [hx]), map_ev_congr fun x hx => h x (by simp [hx])]
  case cut k sz x lo hi =>
    have h1 := h x (by simp)
    have h2 : lo.map (·.ev tm) = lo.map (·.ev tm') := by cases lo with | none => rfl | some y => simp [h y (by simp)]
    have h3 : hi.map (·.ev tm) = hi.map (·.ev tm') := by cases hi with | none => rfl | some y => simp [h y (by simp)]
    rw [h1, h2, h3]
  all_goals first | rfl | (simp only [List.mem_cons, List.mem_nil_iff, or_false, forall_eq_or_imp, forall_eq] at h; simp only [h])

/-- Its value hangs on its operands alone. -/
def AOp.pure : AOp → Bool
  | .move _ | .pick .. | .build .. | .nilck _ | .bin .. | .nileq .. | .not _ | .neg _ | .conv .. | .same _ | .mkfn .. | .field .. | .index .. | .extract .. | .min2 .. | .max2 .. => true
  | .lit own _ _ _ => !own
  | .len k _ => k != .map
  | _ => false
/-- It changes nothing. -/
def AOp.quiet : AOp → Bool
  | .load .. | .cut .. | .faddr .. | .iaddr .. | .lookup .. | .len .. | .bstr .. => true
  | op => op.pure

theorem AOp.eff_pure {op : AOp} (hp : op.pure = true) {tm : Nat → AV} {σ σ' : Store} {r : AV} (h : op.eff tm σ = some (r, σ')) : σ' = σ ∧ ∀ τ, op.eff tm τ = some (r, τ) := by
  cases op <;> simp only [AOp.pure, Bool.false_eq_true, Bool.not_eq_true'] at hp <;> simp only [AOp.eff] at h ⊢
  case lit own ty sz xs =>
    subst hp
    simp only [Bool.false_eq_true, if_false] at h ⊢
    split at h
    · rename_i es hes; cases h; exact ⟨rfl, fun τ => by simp [hes]⟩
    · cases h
  case len k x =>
    split at h <;> (try simp only [Option.some.injEq, Prod.mk.injEq, reduceCtorEq] at h) <;> first | (obtain ⟨rfl, rfl⟩ := h; rename_i hx; exact ⟨rfl, fun τ => by simp [hx]⟩) | skip
    all_goals simp at hp
  all_goals
    (repeat' split at h) <;> simp only [Option.some.injEq, Prod.mk.injEq, reduceCtorEq] at h <;> (first | (obtain ⟨rfl, rfl⟩ := h; exact ⟨rfl, fun τ => by simp [*]⟩))

theorem AOp.eff_quiet {op : AOp} (hp : op.quiet = true) {tm : Nat → AV} {σ σ' : Store} {r : AV} (h : op.eff tm σ = some (r, σ')) : σ' = σ := by
  by_cases hpp : op.pure = true
  · exact (AOp.eff_pure hpp h).1
  · cases op <;> simp only [AOp.quiet, AOp.pure, Bool.false_eq_true] at hp hpp <;> simp only [AOp.eff] at h
    all_goals first | (exact absurd rfl hpp) | skip
    all_goals (try (exact absurd hp hpp))
    all_goals ((repeat' split at h) <;> simp only [Option.some.injEq, Prod.mk.injEq, reduceCtorEq] at h <;> (first | (exact h.2.symm)))

theorem put_other {tm : Nat → AV} {dst : Option Nat} {v : AV} {l : List Nat} (h : ∀ d, dst = some d → d ∉ l) : ∀ i, i ∈ l → put tm dst v i = tm i := by
  intro i hi
  cases dst with
  | none => rfl
  | some d =>
    have : i ≠ d := fun e => h d rfl (e ▸ hi)
    simp [put, this]
theorem put_comm (tm : Nat → AV) {x y : Option Nat} (u v : AV) (h : ∀ d, x = some d → y ≠ some d) : put (put tm x u) y v = put (put tm y v) x u := by
  cases x with
  | none => rfl
  | some d =>
    cases y with
    | none => rfl
    | some e =>
      have hne : e ≠ d := fun he => h d rfl (by rw [he])
      funext i
      simp only [put]
      by_cases h1 : i = e
      · subst h1; simp [hne]
      · simp [h1]


def AOper.uses (o : AOper) : List Nat := o.op.xs.flatMap AX.slot ++ (match o.guard with | some (s, _) => [s] | none => [])
theorem put_swap (tm : Nat → AV) {d : Nat} {y : Option Nat} (u v : AV) (h : y ≠ some d) : put (put tm (some d) u) y v = put (put tm y v) (some d) u := put_comm tm u v fun e he => by cases he; exact h

section
variable {P : Program}
theorem AOp.wp_mono {op : AOp} {tm : Nat → AV} {σ : Store} {K K' : AV → Store → Prop} (hk : ∀ r τ, K r τ → K' r τ) (h : op.wp P tm σ K) : op.wp P tm σ K' := by
  cases op
  case call f args => exact ACalls.mono h hk
  case callv f args =>
    simp only [AOp.wp] at h ⊢
    split at h
    · exact ACalls.mono h hk
    · exact h.elim
  all_goals
    simp only [AOp.wp] at h ⊢
    split at h
    · exact hk _ _ h
    · exact h.elim
theorem AOp.wp_congr {op : AOp} {tm tm' : Nat → AV} (h : ∀ i, i ∈ op.xs.flatMap AX.slot → tm i = tm' i) {σ : Store} {K : AV → Store → Prop} (hw : op.wp P tm σ K) : op.wp P tm' σ K := by
  have hx : ∀ x, x ∈ op.xs → x.ev tm = x.ev tm' := fun x hx => AX.ev_congr fun i hi => h i (List.mem_flatMap.2 ⟨x, hx, hi⟩)
  cases op
  case call f args =>
    have e : args.map (·.ev tm) = args.map (·.ev tm') := map_ev_congr hx
    simp only [AOp.wp] at hw ⊢
    rw [← e]; exact hw
  case callv f args =>
    have e1 : f.ev tm = f.ev tm' := hx f (by simp [AOp.xs])
    have e2 : args.map (·.ev tm) = args.map (·.ev tm') := map_ev_congr fun x hm => hx x (by simp [AOp.xs, hm])
    simp only [AOp.wp] at hw ⊢
    rw [← e1, ← e2]; exact hw
  all_goals (simp only [AOp.wp] at hw ⊢; rw [← AOp.eff_congr hx]; exact hw)

/-- What an operation in its place comes to: its value, the store. -/
def AOper.out (P : Program) (o : AOper) (tm : Nat → AV) (σ : Store) (K : AV → Store → Prop) : Prop :=
  match o.guard with
  | none => o.op.wp P tm σ K
  | some (s, want) =>
    match tm s with
    | .bool b => if b = want then o.op.wp P tm σ K else K (.tuple []) σ
    | .tuple [] => K (.tuple []) σ
    | _ => False
theorem AOper.wp_out (o : AOper) (tm : Nat → AV) (σ : Store) (K : (Nat → AV) → Store → Prop) : o.wp P tm σ K = o.out P tm σ fun r σ' => K (put tm o.dst r) σ' := rfl
theorem AOper.out_mono {o : AOper} {tm : Nat → AV} {σ : Store} {K K' : AV → Store → Prop} (hk : ∀ r τ, K r τ → K' r τ) (h : o.out P tm σ K) : o.out P tm σ K' := by
  unfold AOper.out at h ⊢
  split
  · rename_i hg; rw [hg] at h; exact AOp.wp_mono hk h
  · rename_i s want hg
    rw [hg] at h
    simp only at h
    split at h
    · rename_i b hb
      split at h
      · rename_i hbw; simp only [hb, hbw, if_true]; exact AOp.wp_mono hk h
      · rename_i hbw; simp only [hb, hbw, if_false]; exact hk _ _ h
    · rename_i hb
      first | exact hk _ _ h | (simp only [hb]; exact hk _ _ h)
    · exact h.elim
theorem AOper.out_congr {o : AOper} {tm tm' : Nat → AV} (hu : ∀ i, i ∈ o.uses → tm i = tm' i) {σ : Store} {K : AV → Store → Prop} (h : o.out P tm σ K) : o.out P tm' σ K := by
  obtain ⟨dst, op, guard⟩ := o
  cases guard with
  | none => exact AOp.wp_congr (op := op) (fun i hi => hu i (by simp [AOper.uses, hi])) h
  | some sw =>
    obtain ⟨s, want⟩ := sw
    simp only [AOper.out] at h ⊢
    have hs : tm s = tm' s := hu s (by simp [AOper.uses])
    rw [← hs]
    split at h
    · rename_i b hb
      try simp only [hb]
      split at h
      · rename_i hbw; rw [if_pos hbw]; exact AOp.wp_congr (fun i hi => hu i (by simp [AOper.uses, hi])) h
      · rename_i hbw; rw [if_neg hbw]; exact h
    · rename_i hb; try simp only [hb]
      exact h
    · exact h.elim
theorem AOper.wp_mono {o : AOper} {tm : Nat → AV} {σ : Store} {K K' : (Nat → AV) → Store → Prop} (hk : ∀ t τ, K t τ → K' t τ) (h : o.wp P tm σ K) : o.wp P tm σ K' := AOper.out_mono (fun r τ h => hk _ _ h) h
theorem opsWp_mono : ∀ {l : List AOper} {tm : Nat → AV} {σ : Store} {K K' : (Nat → AV) → Store → Prop}, (∀ t τ, K t τ → K' t τ) → opsWp P l tm σ K → opsWp P l tm σ K'
  | [], _, _, _, _, hk, h => hk _ _ h
  | o :: l, tm, σ, K, K', hk, h => AOper.wp_mono (fun t τ h => opsWp_mono hk h) h
theorem opsWp_app : ∀ {l m : List AOper} {tm : Nat → AV} {σ : Store} {K : (Nat → AV) → Store → Prop}, opsWp P (l ++ m) tm σ K = opsWp P l tm σ fun t s => opsWp P m t s K
  | [], _, _, _, _ => rfl
  | o :: l, m, tm, σ, K => by
    show o.wp P tm σ _ = o.wp P tm σ _
    congr 1; funext t s; exact opsWp_app

theorem AOp.wp_quiet {op : AOp} (hq : op.quiet = true) {tm : Nat → AV} {σ : Store} {K : AV → Store → Prop} : op.wp P tm σ K ↔ ∃ r, op.eff tm σ = some (r, σ) ∧ K r σ := by
  have key : (∀ K, op.wp P tm σ K = match op.eff tm σ with | some (r, σ') => K r σ' | none => False) → (op.wp P tm σ K ↔ ∃ r, op.eff tm σ = some (r, σ) ∧ K r σ) := by
    intro e
    rw [e]
    cases he : op.eff tm σ with
    | none => simp
    | some p =>
      obtain ⟨r, σ'⟩ := p
      have := AOp.eff_quiet hq he
      subst this
      simp
  cases op <;> first | exact key (fun _ => rfl) | (simp [AOp.quiet, AOp.pure] at hq)

/-- An operation that changes nothing: it has one value. -/
theorem AOper.out_quiet {o : AOper} (hq : o.op.quiet = true) {tm : Nat → AV} {σ : Store} {K : AV → Store → Prop} (h : o.out P tm σ K) : ∃ r, K r σ ∧ ∀ K' : AV → Store → Prop, K' r σ → o.out P tm σ K' := by
  unfold AOper.out at h ⊢
  split at h
  · rename_i hg
    obtain ⟨r, h1, h2⟩ := (AOp.wp_quiet hq).1 h
    exact ⟨r, h2, fun K' hk => (AOp.wp_quiet hq).2 ⟨r, h1, hk⟩⟩
  · rename_i s want hg
    split at h
    · rename_i b hb
      try simp only [hb]
      split at h
      · rename_i hbw
        obtain ⟨r, h1, h2⟩ := (AOp.wp_quiet hq).1 h
        exact ⟨r, h2, fun K' hk => by rw [if_pos hbw]; exact (AOp.wp_quiet hq).2 ⟨r, h1, hk⟩⟩
      · rename_i hbw
        exact ⟨.tuple [], h, fun K' hk => by rw [if_neg hbw]; exact hk⟩
    · rename_i hb
      exact ⟨.tuple [], h, fun K' hk => by first | exact hk | (simp only [hb]; exact hk)⟩
    · exact h.elim
theorem AOp.quiet_of_pure {op : AOp} (hp : op.pure = true) : op.quiet = true := by cases op <;> simp_all [AOp.pure, AOp.quiet]
theorem AOper.out_pure {o : AOper} (hq : o.op.pure = true) {tm : Nat → AV} {σ : Store} {K : AV → Store → Prop} (h : o.out P tm σ K) : ∃ r, K r σ ∧ ∀ τ, ∀ K' : AV → Store → Prop, K' r τ → o.out P tm τ K' := by
  have hqq := AOp.quiet_of_pure hq
  unfold AOper.out at h ⊢
  split at h
  · rename_i hg
    obtain ⟨r, h1, h2⟩ := (AOp.wp_quiet hqq).1 h
    exact ⟨r, h2, fun τ K' hk => (AOp.wp_quiet hqq).2 ⟨r, (AOp.eff_pure hq h1).2 τ, hk⟩⟩
  · rename_i s want hg
    split at h
    · rename_i b hb
      try simp only [hb]
      split at h
      · rename_i hbw
        obtain ⟨r, h1, h2⟩ := (AOp.wp_quiet hqq).1 h
        exact ⟨r, h2, fun τ K' hk => by rw [if_pos hbw]; exact (AOp.wp_quiet hqq).2 ⟨r, (AOp.eff_pure hq h1).2 τ, hk⟩⟩
      · rename_i hbw
        exact ⟨.tuple [], h, fun τ K' hk => by rw [if_neg hbw]; exact hk⟩
    · rename_i hb
      exact ⟨.tuple [], h, fun τ K' hk => by first | exact hk | (simp only [hb]; exact hk)⟩
    · exact h.elim

/-- The store has grown. -/
def Grown (σ σ' : Store) : Prop := ∀ id, id < σ.next → σ'.get id = σ.get id
theorem Grown.some {σ σ' : Store} (h : Grown σ σ') {id : Nat} {o : AObj} (e : σ.get id = some o) : σ'.get id = some o := by rw [h id (σ.lt e)]; exact e
theorem elemsOf_grown {σ σ' : Store} (hg : Grown σ σ') {sz : Nat} {v : AV} {es : List (List AV)} (h : elemsOf σ sz v = some es) : elemsOf σ' sz v = some es := by
  unfold elemsOf at h ⊢
  split at h
  · exact h
  · exact h
  · split at h
    · rename_i ho
      rw [hg.some ho]
      exact h
    · cases h
  · cases h
theorem AOp.eff_grown {op : AOp} (hq : op.quiet = true) {tm : Nat → AV} {σ σ' : Store} (hg : Grown σ σ') {r : AV} (h : op.eff tm σ = some (r, σ)) : op.eff tm σ' = some (r, σ') := by
  by_cases hp : op.pure = true
  · exact (AOp.eff_pure hp h).2 σ'
  · cases op <;> simp only [AOp.quiet, AOp.pure, Bool.false_eq_true] at hq hp <;> simp only [AOp.eff] at h ⊢
    all_goals first | (exact absurd rfl hp) | skip
    all_goals (try (exact absurd hq hp))
    case bstr x =>
      split at h
      · rename_i es hes
        rw [elemsOf_grown hg hes]
        simp only
        split at h
        · rename_i h1
          rw [if_pos h1]
          split at h
          · rename_i ns hns
            simp only [hns, Option.some.injEq, Prod.mk.injEq, and_true] at h ⊢
            exact h
          · cases h
        · cases h
      · cases h
    all_goals (
      (repeat' split at h) <;> simp only [Option.some.injEq, Prod.mk.injEq, reduceCtorEq, and_true] at h <;> (try subst h) <;>
      (first
        | (have e := hg.some (by assumption); simp only [*, if_true, and_self]; done)
        | (have e := hg.some (by assumption); simp [*]; done)
        | (simp [*]; done)
        | (rename_i hc; simp [*]; exact hc.2.2.2)))
end
end Go.AL
