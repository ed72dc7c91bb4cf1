/- The abstract layer, part 19: stores that grow, slices that are built by append in a loop, numbers of rounds. -/
import Derived.Test.YtjjbjibbjbbeaaaAL18
set_option linter.unusedVariables false
set_option linter.unusedSimpArgs false
namespace Go.AL
open Go.RowKit

/-- What was there is as it was. -/
structure Kp (σ s : Store) : Prop where
  next : σ.next ≤ s.next
  keep : ∀ j, j < σ.next → s.get j = σ.get j
theorem Kp.refl (σ : Store) : Kp σ σ := ⟨Nat.le_refl _, fun _ _ => rfl⟩
theorem Kp.trans {a b c : Store} (h : Kp a b) (k : Kp b c) : Kp a c := ⟨Nat.le_trans h.next k.next, fun j hj => by rw [k.keep j (Nat.lt_of_lt_of_le hj h.next), h.keep j hj]⟩
theorem Kp.push {σ s : Store} (h : Kp σ s) (o : AObj) : Kp σ (s.push o) := ⟨by have := h.next; simp only [Store.push_next]; omega, fun j hj => by have := h.next; rw [Store.push_get, if_neg (by omega), h.keep j hj]⟩
theorem Kp.upd {σ s : Store} (h : Kp σ s) {id : Nat} (hid : σ.next ≤ id) (o : AObj) : Kp σ (s.upd id o) := ⟨h.next, fun j hj => by rw [Store.get_upd_ne _ _ (by omega), h.keep j hj]⟩
theorem Kp.pushed (σ : Store) (o : AObj) : Kp σ (σ.push o) := (Kp.refl σ).push o
theorem Kp.get {σ s : Store} (h : Kp σ s) {id : Nat} {o : AObj} (e : σ.get id = some o) : s.get id = some o := by rw [h.keep id (σ.lt e)]; exact e
theorem Kp.out {σ s : Store} (h : Kp σ s) {r : AV} {p : Prop} (hk : p) (hc : Cln σ.next r) : p ∧ Cln σ.next r ∧ σ.next ≤ s.next ∧ ∀ id, id < σ.next → s.get id = σ.get id := ⟨hk, hc, h.next, h.keep⟩
theorem Kp.box {σ s : Store} {o : AObj} (h : Kp (σ.push o) s) : s.get σ.next = some o ∧ σ.next < s.next ∧ Kp σ s :=
  ⟨h.get (by simp [Store.push_get]), by have := h.next; simp only [Store.push_next] at this; omega, ⟨by have := h.next; simp only [Store.push_next] at this; omega, fun j hj => by rw [h.keep j (by simp only [Store.push_next]; omega), Store.push_get, if_neg (by omega)]⟩⟩
theorem Kp.bump {σ s : Store} (h : Kp σ s) {n : Nat} (hn : n < σ.next) : (n = s.next) = False := by have := h.next; simp; omega

/-- A slice that has been built since: its object is new. -/
structure Grow (σ s : Store) (v : AV) (ty sz : Nat) (es : List (List AV)) : Prop where
  kp : Kp σ s
  sl : SliceAt s v ty sz es
  fresh : ∀ j, j ∈ slIds v → σ.next ≤ j
theorem Grow.start (σ : Store) (ty sz : Nat) : Grow σ σ .nils ty sz [] := ⟨.refl σ, .nil _ _ _, by simp [slIds]⟩
theorem Grow.of {σ s : Store} (h : Kp σ s) (ty sz : Nat) : Grow σ s .nils ty sz [] := ⟨h, .nil _ _ _, by simp [slIds]⟩
theorem Grow.keep {σ s s' : Store} {v : AV} {ty sz : Nat} {es : List (List AV)} (h : Grow σ s v ty sz es) (k : Kp s s') : Grow σ s' v ty sz es :=
  ⟨h.kp.trans k, h.sl.keep fun i hi => k.keep i (h.sl.lt hi), h.fresh⟩
theorem Grow.push {σ s : Store} {v : AV} {ty sz : Nat} {es : List (List AV)} (h : Grow σ s v ty sz es) (o : AObj) : Grow σ (s.push o) v ty sz es := h.keep (.pushed s o)
theorem Grow.base {σ0 σ s : Store} {v : AV} {ty sz : Nat} {es : List (List AV)} (h : Grow σ s v ty sz es) (k : Kp σ0 σ) : Grow σ0 s v ty sz es := ⟨k.trans h.kp, h.sl, fun j hj => Nat.le_trans k.next (h.fresh j hj)⟩
/-- The step of an append to such a slice. -/
theorem ok_grow {σ s : Store} {v : AV} {ty sz bytes : Nat} {es es2 : List (List AV)} {K : AV → Store → Prop} (h : Grow σ s v ty sz es) (h2 : ∀ q, q ∈ es2 → q.length = sz) (hb : (es.length + es2.length) * bytes ≤ 140737488355328) (hm : es.length + es2.length ≤ maxLen)
    (hk : ∀ v' s', Grow σ s' v' ty sz (es ++ es2) → (∀ j, j < s.next → j ∉ slIds v → s'.get j = s.get j) → s.next ≤ s'.next → K v' s') : ok (eApp ty sz bytes v (some es2) s) K := by
  refine ok_app h.sl h2 hb hm fun v' s' h1 h2 => hk v' s' ⟨⟨Nat.le_trans h.kp.next h2.next, fun j hj => ?_⟩, h1, fun j hj => ?_⟩ h2.keep h2.next
  · have := h.kp.next
    rw [h2.keep j (by omega) (fun hm => by have := h.fresh j hm; omega), h.kp.keep j hj]
  · rcases h2.fresh j hj with e | e
    · exact h.fresh j e
    · exact Nat.le_trans h.kp.next e
section
variable {P : Program} {n : Nat} {Q : AEx → (Nat → AV) → Store → Prop} {tm : Nat → AV} {s : Store}
/-- Such a slice becomes a value. -/
theorem AWP_grown {c : ACode} (d : Nat) {σ : Store} {v : AV} {ty sz : Nat} {es : List (List AV)} (hv : tm d = v) (h : Grow σ s v ty sz es) (hk : ∀ s2 : Store, Kp σ s2 → s2.next = s.next → AWP P n c Q (put tm (some d) (.list es)) s2) : AWP P n c Q tm s :=
  AWP_frozen d hv h.sl fun s2 hn hg => hk s2 ⟨by rw [hn]; exact h.kp.next, fun j hj => by rw [hg j (fun hm => by have := h.fresh j hm; omega), h.kp.keep j hj]⟩ hn
end
theorem wrap_succ {i : Nat} (h : i < 9223372036854775807) : IntKind.i64.wrap ((i : Int) + 1) = ((i + 1 : Nat) : Int) := by rw [wrap_of (by omega) (by omega)]; rfl
theorem self_ne1 (n : Nat) : (n = n + 1) = False := by simp
theorem self_ne2 (n : Nat) : (n = n + 1 + 1) = False := by simp; omega
theorem self_ne3 (n : Nat) : (n = n + 1 + 1 + 1) = False := by simp; omega
theorem self_ne4 (n : Nat) : (n = n + 1 + 1 + 1 + 1) = False := by simp; omega
theorem ne_self2 (n : Nat) : (n + 1 + 1 = n) = False := by simp; omega
theorem ne_self3 (n : Nat) : (n + 1 + 1 + 1 = n) = False := by simp; omega
theorem ne_self4 (n : Nat) : (n + 1 + 1 + 1 + 1 = n) = False := by simp; omega
theorem Store.upd_push_eq (σ : Store) (o o' : AObj) (id : Nat) (h : id = σ.next) : (σ.push o).upd id o' = σ.push o' := by subst h; exact Store.upd_push_self σ o o'
theorem Store.upd_push_ne (σ : Store) (o o' : AObj) (id : Nat) (h : (id = σ.next) = False) : (σ.push o).upd id o' = (σ.upd id o').push o :=
  Store.ext' rfl (funext fun j => by
    have h : id ≠ σ.next := by simpa using h
    simp only [Store.upd, Store.push]
    by_cases h1 : j = id
    · subst h1
      simp only [h, if_false, true_and]
      by_cases h2 : j < σ.next
      · rw [if_pos (by omega), if_pos h2]
      · rw [if_neg (by omega), if_neg h2]
    · simp [h1])
theorem res_cell_slot_slot (t u v : Nat) (agg : Option Nat) (K : AV → Store → Prop) (tm : Nat → AV) (σ : Store) : Res [.cell t agg, .slot u, .slot v] K tm σ = ok (eLoad agg (tm t) σ) fun r _ => K (.tuple [r, tm u, tm v]) σ := by
  show (match resVals tm σ [.cell t agg, .slot u, .slot v] with | some l => K (resOne l) σ | none => False) = _
  have e : (AOp.load agg (.t t)).eff tm σ = eLoad agg (tm t) σ := rfl
  simp only [resVals, RV.val, e]
  cases h : eLoad agg (tm t) σ with
  | none => rfl
  | some p => rfl
theorem res_cell_cell (t u : Nat) (agg agg' : Option Nat) (K : AV → Store → Prop) (tm : Nat → AV) (σ : Store) : Res [.cell t agg, .cell u agg'] K tm σ = ok (eLoad agg (tm t) σ) fun r _ => ok (eLoad agg' (tm u) σ) fun r' _ => K (.tuple [r, r']) σ := by
  show (match resVals tm σ [.cell t agg, .cell u agg'] with | some l => K (resOne l) σ | none => False) = _
  have e : ∀ agg t, (AOp.load agg (.t t)).eff tm σ = eLoad agg (tm t) σ := fun _ _ => rfl
  simp only [resVals, RV.val, e]
  cases h : eLoad agg (tm t) σ with
  | none => rfl
  | some p => cases h' : eLoad agg' (tm u) σ <;> rfl
theorem S9 : type_of% (And.intro @self_ne1 (And.intro @self_ne2 (And.intro @self_ne3 (And.intro @self_ne4 (And.intro @ne_self2 (And.intro @ne_self3 (And.intro @ne_self4 (And.intro @Store.upd_push_eq (And.intro @Store.upd_push_ne (And.intro @res_slot_cell (And.intro @res_cell_slot_slot @res_cell_cell))))))))))) :=
  And.intro @self_ne1 (And.intro @self_ne2 (And.intro @self_ne3 (And.intro @self_ne4 (And.intro @ne_self2 (And.intro @ne_self3 (And.intro @ne_self4 (And.intro @Store.upd_push_eq (And.intro @Store.upd_push_ne (And.intro @res_slot_cell (And.intro @res_cell_slot_slot @res_cell_cell))))))))))
/-- All the rules, and those on what is written to new variables. -/
theorem SS : type_of% (And.intro S9 S) := And.intro S9 S

/-! ### Slices inside of results -/
mutual
/-- One value in the place of another one, wherever it stands. -/
inductive Sub (v w : AV) : AV → AV → Prop
  | refl (a : AV) : Sub v w a a
  | here : Sub v w v w
  | agg {a b : List AV} (h : SubL v w a b) : Sub v w (.agg a) (.agg b)
  | tuple {a b : List AV} (h : SubL v w a b) : Sub v w (.tuple a) (.tuple b)
inductive SubL (v w : AV) : List AV → List AV → Prop
  | nil : SubL v w [] []
  | cons {x y : AV} {a b : List AV} (h : Sub v w x y) (t : SubL v w a b) : SubL v w (x :: a) (y :: b)
end
theorem SubL.get {v w : AV} : ∀ {a b : List AV}, SubL v w a b → a.length = b.length ∧ ∀ (j : Nat) (y : AV), b[j]? = some y → ∃ x, a[j]? = some x ∧ Sub v w x y
  | _, _, .nil => by simp
  | _, _, .cons h t => by
    obtain ⟨h1, h2⟩ := t.get
    refine ⟨by simp [h1], fun j y hj => ?_⟩
    match j, hj with
    | 0, hj => simp at hj; subst hj; exact ⟨_, rfl, h⟩
    | j + 1, hj => simpa using h2 j y (by simpa using hj)
theorem RelV.sub {g g' : Ghost} (he : Ext g g') {v w : AV} (hvw : ∀ x, RelV g v x → RelV g' w x) : ∀ {a b : AV}, Sub v w a b → ∀ {x : Value}, RelV g a x → RelV g' b x
  | _, _, .refl a, x, h => h.ext he
  | _, _, .here, x, h => hvw x h
  | .agg a, .agg b, .agg hs, x, h => by
    cases h with
    | agg hsz hc h1 =>
      obtain ⟨k1, k2⟩ := hs.get
      refine .agg (by omega) (fun j c hj => ?_) (fun j c hj => ?_)
      · obtain ⟨y, hy, hsub⟩ := k2 j c hj
        have := List.mem_of_getElem? hj
        exact RelV.sub he hvw hsub (hc j y hy)
      · obtain ⟨y, hy, hsub⟩ := k2 j c hj
        exact h1 j y hy
  | .tuple a, .tuple b, .tuple hs, x, h => by
    cases h with
    | tuple hsz hc =>
      obtain ⟨k1, k2⟩ := hs.get
      refine .tuple (by omega) (fun j c hj => ?_)
      obtain ⟨y, hy, hsub⟩ := k2 j c hj
      have := List.mem_of_getElem? hj
      exact RelV.sub he hvw hsub (hc j y hy)
termination_by a b => SizeOf.sizeOf b
decreasing_by all_goals (have := List.sizeOf_lt_of_mem this; simp; omega)
/-- A slice in a result becomes a value. -/
theorem ACalls_froze {P : Program} {f : FuncId} {args : List AV} {σ : Store} {K : AV → Store → Prop} (h : ACalls P f args σ fun r σ' => ∃ v ty sz es r', SliceAt σ' v ty sz es ∧ Sub v (.list es) r r' ∧
    ∀ σ2 : Store, σ2.next = σ'.next → (∀ i, i ∉ slIds v → σ2.get i = σ'.get i) → K r' σ2) : ACalls P f args σ K :=
  fun B w0 g w vs hS hl hrel => (h B w0 g w vs hS hl hrel).mono fun x w' ⟨r, σ', g', ⟨v, ty, sz, es, r', hsl, hsub, hk⟩, hE, hS', hr⟩ => by
    rcases hsl with ⟨rfl, rfl⟩ | ⟨id, ver, es', rfl, hg⟩
    · exact ⟨r', σ', g', hk σ' rfl fun _ _ => rfl, hE, hS', RelV.sub (.refl g') (fun x hx => RelV.le Le.nil hx) hsub hr⟩
    · obtain ⟨g2, hS2, hE2, hrel2⟩ := hS'.frozen hg
      refine ⟨r', σ'.drop id, g2, hk _ rfl fun i hi => by simp [slIds] at hi; simp [Store.drop_get, hi], hE.trans hE2, hS2, RelV.sub hE2 (fun x hx => ?_) hsub hr⟩
      have := hrel2 0 es.length x (by simp) hx
      simpa using this

/-! ### Slices that are read -/
/-- A pointer into an element. -/
def EP (σ : Store) (p : AV) (c : List AV) (off : Nat) : Prop := (∃ id ver k ty sz es, p = .ptr id ver k off ∧ σ.get id = some (.cells ty ver sz es) ∧ es[k]? = some c) ∨ p = .rptr c off
theorem EP.load {σ : Store} {p : AV} {c : List AV} {off : Nat} (h : EP σ p c off) (agg : Option Nat) : eLoad agg p σ = eVal (aLoad agg c off) σ := by
  rcases h with ⟨id, ver, k, ty, sz, es, rfl, h1, h2⟩ | rfl
  · rw [eLoad_ptr, h1, eLoad2_some, if_pos rfl, h2, eLoad3_some]
  · rfl
theorem EP.fad {σ : Store} {p : AV} {c : List AV} {off : Nat} (h : EP σ p c off) (o : Nat) : ∃ q, eFad o p σ = some (q, σ) ∧ EP σ q c (off + o) := by
  rcases h with ⟨id, ver, k, ty, sz, es, rfl, h1, h2⟩ | rfl
  · exact ⟨.ptr id ver k (off + o), by rw [eFad_ptr, h1, eFad2_some, if_pos rfl], .inl ⟨id, ver, k, ty, sz, es, rfl, h1, h2⟩⟩
  · exact ⟨_, rfl, .inr rfl⟩
structure Rds (σ : Store) (v : AV) (sz : Nat) (es : List (List AV)) : Prop where
  len : eLen .slice v σ = some (.int .i64 es.length, σ)
  iad : ∀ (i : Nat) c, es[i]? = some c → ∃ p, eIad sz v (.int .i64 i) σ = some (p, σ) ∧ EP σ p c 0
theorem Rds.list (σ : Store) {sz : Nat} {es : List (List AV)} (h : ∀ q, q ∈ es → q.length = sz) : Rds σ (.list es) sz es :=
  ⟨rfl, fun i c hc => ⟨.rptr c 0, by rw [eIad_list, if_pos (by omega), Int.toNat_natCast, hc, eIad2_some, if_pos (h c (List.mem_of_getElem? hc))], .inr rfl⟩⟩
theorem SliceAt.rds {σ : Store} {v : AV} {ty sz : Nat} {es : List (List AV)} (h : SliceAt σ v ty sz es) : Rds σ v sz es := by
  refine ⟨h.len σ, fun i c hc => ?_⟩
  rcases h with ⟨rfl, rfl⟩ | ⟨id, ver, es', rfl, h⟩
  · simp at hc
  · have hi := (List.getElem?_eq_some_iff.mp hc).1
    refine ⟨.ptr id ver i 0, by rw [eIad_own, h, eIad3_some, if_pos ⟨rfl, rfl, by omega, by omega⟩, Int.toNat_natCast, Nat.zero_add], .inl ⟨id, ver, i, ty, sz, es ++ es', rfl, h, by rw [List.getElem?_append_left hi]; exact hc⟩⟩
end Go.AL
