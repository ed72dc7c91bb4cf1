/- The abstract layer, part 20: slices inside of variables become values; maps keyed by texts; lists that may be nil. -/
import Derived.Test.YtjjbjibbjbbeaaaAL19
set_option linter.unusedVariables false
set_option linter.unusedSimpArgs false
namespace Go.AL
open Go.RowKit

/-- One value in the place of another one, in an object of cells. -/
inductive SubE (v w : AV) : List (List AV) → List (List AV) → Prop
  | nil : SubE v w [] []
  | cons {x y : List AV} {a b : List (List AV)} (h : SubL v w x y) (t : SubE v w a b) : SubE v w (x :: a) (y :: b)
theorem SubE.get {v w : AV} {a b : List (List AV)} (h : SubE v w a b) : a.length = b.length ∧ ∀ (j : Nat) (y : List AV), b[j]? = some y → ∃ x, a[j]? = some x ∧ SubL v w x y := by
  induction h with
  | nil => simp
  | cons h t ih =>
    refine ⟨by simp [ih.1], fun j y hj => ?_⟩
    match j, hj with
    | 0, hj => simp at hj; subst hj; exact ⟨_, rfl, h⟩
    | j + 1, hj => simpa using ih.2 j y (by simpa using hj)
theorem SR.recell {B : Nat} {w0 : World} {σ : Store} {g g' : Ghost} {w : World} (h : SR B w0 σ g w) (hg : g' = g) {oid ty ver sz : Nat} {es es' : List (List AV)} (ho : σ.get oid = some (.cells ty ver sz es))
    (hl : es'.length = es.length) (hs : ∀ e, e ∈ es' → e.length = sz)
    (hr : ∀ (j i : Nat) (e : List AV) (c : AV), es'[j]? = some e → e[i]? = some c → ∃ e0 c0, es[j]? = some e0 ∧ e0[i]? = some c0 ∧ ∀ x, RelV g c0 x → RelV g c x) : SR B w0 (σ.upd oid (.cells ty ver sz es')) g w := by
  subst hg
  obtain ⟨p, hp, h1, h2, h3, h4, cells, h5, h6, h7, h8⟩ := h.objs oid _ ho
  have hlt := σ.lt ho
  refine ⟨h.below, h.size, h.phi, h.next, fun j y e => ?_, h.inj, h.apart, h.fresh⟩
  rw [Store.get_upd _ _ hlt] at e
  split at e
  · rename_i hj
    cases e
    refine ⟨p, by rw [hj]; exact hp, h1, h2, by omega, h4, cells, h5, h6, hs, fun i k e c hi hk => ?_⟩
    obtain ⟨e0, c0, a, b, f⟩ := hr i k e c hi hk
    have := h8 i k e0 c0 a b
    exact ⟨f _ this.1, this.2⟩
  · exact h.objs j y e
/-- A slice that stands in a variable, too, becomes a value there. -/
theorem SR.frozeO {B : Nat} {w0 : World} {σ : Store} {g : Ghost} {w : World} (h : SR B w0 σ g w) {v : AV} {ty sz : Nat} {es : List (List AV)} (hv : SliceAt σ v ty sz es) {oid ty' ver' sz' : Nat} {os os' : List (List AV)} (ho : σ.get oid = some (.cells ty' ver' sz' os))
    (hn : oid ∉ slIds v) (hs : SubE v (.list es) os os') : ∃ σ2 g', SR B w0 σ2 g' w ∧ Ext g g' ∧ σ2.next = σ.next ∧ σ2.get oid = some (.cells ty' ver' sz' os') ∧ ∀ i, i ∉ slIds v → i ≠ oid → σ2.get i = σ.get i := by
  obtain ⟨hl, hgt⟩ := hs.get
  have hsz : ∀ (σ' : Store) (g' : Ghost), SR B w0 σ' g' w → σ'.get oid = some (.cells ty' ver' sz' os) → ∀ e, e ∈ os' → e.length = sz' := by
    intro σ' g' h' ho' e he
    obtain ⟨p, hp, h1, h2, h3, h4, cells, h5, h6, h7, h8⟩ := h'.objs oid _ ho'
    obtain ⟨j, hj⟩ := List.mem_iff_getElem?.mp he
    obtain ⟨x, hx, hsub⟩ := hgt j e hj
    rw [← hsub.get.1]
    exact h7 x (List.mem_of_getElem? hx)
  rcases hv with ⟨rfl, rfl⟩ | ⟨id, ver, es', rfl, hg⟩
  · refine ⟨_, g, h.recell rfl ho hl.symm (hsz σ g h ho) (fun j i e c hj hi => ?_), .refl g, rfl, Store.get_upd_self _ _ (σ.lt ho), fun i _ hi => Store.get_upd_ne _ _ hi⟩
    obtain ⟨x, hx, hsub⟩ := hgt j e hj
    obtain ⟨c0, hc0, hs0⟩ := hsub.get.2 i c hi
    exact ⟨x, c0, hx, hc0, fun y hy => RelV.sub (.refl g) (fun z hz => RelV.le Le.nil hz) hs0 hy⟩
  · obtain ⟨g2, hS2, hE2, hrel2⟩ := h.frozen hg
    have hne : oid ≠ id := fun e => hn (by simp [slIds, e])
    have ho2 : (σ.drop id).get oid = some (.cells ty' ver' sz' os) := by simp [Store.drop_get, hne, ho]
    obtain ⟨p, hp, h1, h2, h3, h4, cells, h5, h6, h7, h8⟩ := h.objs oid _ ho
    -- the object's cells, as they stood
    obtain ⟨q, hq, k1, k2, k3, k4, cells2, k5, k6, k7, k8⟩ := hS2.objs oid _ ho2
    refine ⟨(σ.drop id).upd oid (.cells ty' ver' sz' os'), g2, ?_, hE2, rfl, Store.get_upd_self _ _ (Store.lt _ ho2), fun i hi hi2 => by rw [Store.get_upd_ne _ _ hi2]; simp [slIds] at hi; simp [Store.drop_get, hi]⟩
    have hlt := Store.lt _ ho2
    have hpq : q.blk = p.blk ∧ q = p := by
      obtain ⟨p2, hp2, e⟩ := hE2.pl oid q (by rw [h.next]; exact σ.lt ho) hq
      rw [hp] at hp2; cases hp2
      rcases e with rfl | e
      · exact ⟨rfl, rfl⟩
      · omega
    obtain ⟨-, rfl⟩ := hpq
    rw [h5] at k5
    cases k5
    refine ⟨hS2.below, hS2.size, hS2.phi, hS2.next, fun j y e => ?_, hS2.inj, hS2.apart, hS2.fresh⟩
    rw [Store.get_upd _ _ hlt] at e
    split at e
    · rename_i hj
      cases e
      refine ⟨q, by rw [hj]; exact hq, k1, k2, by omega, k4, cells, h5, h6, hsz σ g h ho, fun i k e c hi hk => ?_⟩
      obtain ⟨x, hx, hsub⟩ := hgt i e hi
      obtain ⟨c0, hc0, hs0⟩ := hsub.get.2 k c hk
      have := h8 i k x c0 hx hc0
      exact ⟨RelV.sub hE2 (fun z hz => by have := hrel2 0 es.length z (by simp) hz; simpa using this) hs0 this.1, this.2⟩
    · exact hS2.objs j y e
section
variable {P : Program} {n : Nat} {Q : AEx → (Nat → AV) → Store → Prop} {tm : Nat → AV} {σ : Store}
theorem AWP_frozeO {c : ACode} {v : AV} {ty sz : Nat} {es : List (List AV)} (hv : SliceAt σ v ty sz es) {oid ty' ver' sz' : Nat} {os os' : List (List AV)} (ho : σ.get oid = some (.cells ty' ver' sz' os))
    (hn : oid ∉ slIds v) (hs : SubE v (.list es) os os') (hk : ∀ σ2 : Store, σ2.next = σ.next → σ2.get oid = some (.cells ty' ver' sz' os') → (∀ i, i ∉ slIds v → i ≠ oid → σ2.get i = σ.get i) → AWP P n c Q tm σ2) : AWP P n c Q tm σ := by
  intro own code hc B w0 g w a hS hT
  obtain ⟨σ2, g', h1, h2, h3, h4, h5⟩ := hS.frozeO hv ho hn hs
  exact wp_mono (hk σ2 h3 h4 h5 own code hc B w0 g' w a h1 (hT.ext h2)) fun e a' w' hp => hp.mono h2 fun _ _ _ h => h
end

/-- A list, or nil. -/
def InL (v : AV) (es : List (List AV)) : Prop := v = .list es ∨ (v = .nils ∧ es = [])
theorem InL.len {v : AV} {es : List (List AV)} (k : InL v es) (s : Store) : eLen .slice v s = some (.int .i64 es.length, s) := by rcases k with rfl | ⟨rfl, rfl⟩ <;> rfl
theorem InL.co {v : AV} {es : List (List AV)} (k : InL v es) : v.cellsOf = some [v] := by rcases k with rfl | ⟨rfl, e⟩ <;> rfl
theorem InL.le {v : AV} {es : List (List AV)} (k : InL v es) : Le v (.list es) := by
  rcases k with rfl | ⟨rfl, rfl⟩
  · exact .refl _
  · exact .nil
theorem InL.rds {v : AV} {es : List (List AV)} (k : InL v es) (s : Store) {sz : Nat} (h : ∀ q, q ∈ es → q.length = sz) : Rds s v sz es := by
  rcases k with rfl | ⟨rfl, rfl⟩
  · exact .list s h
  · exact ⟨rfl, fun i c hc => by simp at hc⟩
theorem InL.of (es : List (List AV)) : InL (.list es) es := .inl rfl
theorem InL.nils : InL .nils [] := .inr ⟨rfl, rfl⟩

/-! ### Maps keyed by texts -/
theorem keyEq_str (a b : ByteArray) : keyEq .str (.str a) (.str b) = some (decide (a = b)) := (rfl)
/-- What stands at a key. -/
def mget {α : Type} (l : List (ByteArray × α)) (k : ByteArray) : Option α := (l.find? fun p => decide (p.1 = k)).map (·.2)
theorem mget_nil {α : Type} (k : ByteArray) : mget ([] : List (ByteArray × α)) k = none := rfl
theorem mget_cons {α : Type} (p : ByteArray × α) (l : List (ByteArray × α)) (k : ByteArray) : mget (p :: l) k = if p.1 = k then some p.2 else mget l k := by
  unfold mget
  rw [List.find?_cons]
  by_cases h : p.1 = k <;> simp [h]
theorem mget_app {α : Type} (l m : List (ByteArray × α)) (k : ByteArray) : mget (l ++ m) k = (mget l k).or (mget m k) := by
  induction l with
  | nil => simp [mget_nil]
  | cons p l ih => rw [List.cons_append, mget_cons, mget_cons, ih]; split <;> simp
theorem mget_mem {α : Type} {l : List (ByteArray × α)} {k : ByteArray} {x : α} (h : mget l k = some x) : (k, x) ∈ l := by
  induction l with
  | nil => simp [mget_nil] at h
  | cons p l ih =>
    rw [mget_cons] at h
    split at h
    · rename_i e; cases h; subst e; simp
    · simp [ih h]
/-- The search for a key. -/
theorem aFind_str {α : Type} (k : ByteArray) (f : α → AV → Prop) : ∀ (l : List (ByteArray × α)) (es : List (AV × AV)) (i : Nat), es.length = l.length → (∀ (j : Nat) p e, l[j]? = some p → es[j]? = some e → e.1 = .str p.1 ∧ f p.2 e.2) →
    (mget l k = none ∧ aFind .str (.str k) es i = some none) ∨ ∃ x v j, mget l k = some x ∧ f x v ∧ aFind .str (.str k) es i = some (some (j, v))
  | [], [], i, _, _ => .inl ⟨rfl, rfl⟩
  | p :: l, (ek, ev) :: es, i, hl, h => by
    obtain ⟨h1, h2⟩ := h 0 p (ek, ev) rfl rfl
    simp only at h1 h2
    subst h1
    rw [mget_cons]
    simp only [aFind, keyEq_str]
    by_cases e : p.1 = k
    · right
      have e' : k = p.1 := e.symm
      refine ⟨p.2, ev, i, by rw [if_pos e], h2, ?_⟩
      rw [decide_eq_true e']
    · have e' : ¬ k = p.1 := fun x => e x.symm
      rw [if_neg e, decide_eq_false e']
      exact aFind_str k f l es (i + 1) (by simpa using hl) fun j p e a b => h (j + 1) p e (by simpa using a) (by simpa using b)
  | [], e :: es, i, hl, _ => by simp at hl
  | p :: l, [], i, hl, _ => by simp at hl
/-- The step of an append to a slice that is built, with what becomes of its object. -/
theorem ok_grow2 {σ s : Store} {v : AV} {ty sz bytes : Nat} {es es2 : List (List AV)} {K : AV → Store → Prop} (h : Grow σ s v ty sz es) (h2 : ∀ q, q ∈ es2 → q.length = sz) (hb : (es.length + es2.length) * bytes ≤ 140737488355328) (hm : es.length + es2.length ≤ maxLen)
    (hk : ∀ v' s', Grow σ s' v' ty sz (es ++ es2) → (∀ j, j < s.next → j ∉ slIds v → s'.get j = s.get j) → s.next ≤ s'.next → (∀ j, j ∈ slIds v' → j ∈ slIds v ∨ s.next ≤ j) → K v' s') : ok (eApp ty sz bytes v (some es2) s) K := by
  refine ok_app h.sl h2 hb hm fun v' s' h1 h2 => hk v' s' ⟨⟨Nat.le_trans h.kp.next h2.next, fun j hj => ?_⟩, h1, fun j hj => ?_⟩ h2.keep h2.next h2.fresh
  · have := h.kp.next
    rw [h2.keep j (by omega) (fun hm => by have := h.fresh j hm; omega), h.kp.keep j hj]
  · rcases h2.fresh j hj with e | e
    · exact h.fresh j e
    · exact Nat.le_trans h.kp.next e
/-- What a call leaves: what was there as it was; in its result a slice, that becomes a value. -/
def FP (σ : Store) (p : AV → Prop) (r : AV) (s : Store) : Prop := ∃ v ty sz es r', SliceAt s v ty sz es ∧ Sub v (.list es) r r' ∧ p r' ∧ Cln σ.next r' ∧ Kp σ s ∧ ∀ j, j ∈ slIds v → σ.next ≤ j
@[congr] theorem FP_congr {w : Prop} (hw : Visit = w) {σ : Store} {p : AV → Prop} {r r' : AV} {s s' : Store} (h : r = r') (h' : s = s') : FP σ p r s = FP σ p r' s' := by rw [h, h']
theorem FP.mk {σ s : Store} {p : AV → Prop} {r : AV} {v : AV} {ty sz : Nat} {es : List (List AV)} (r' : AV) (h : SliceAt s v ty sz es) (hs : Sub v (.list es) r r') (hp : p r') (hc : Cln σ.next r') (k : Kp σ s) (hf : ∀ j, j ∈ slIds v → σ.next ≤ j) : FP σ p r s := ⟨v, ty, sz, es, r', h, hs, hp, hc, k, hf⟩
theorem FP.same {σ s : Store} {p : AV → Prop} {r : AV} (k : Kp σ s) (hp : p r) (hc : Cln σ.next r) : FP σ p r s := ⟨.nils, 0, 0, [], r, .nil _ _ _, .refl _, hp, hc, k, by simp [slIds]⟩
theorem ACalls_fp {P : Program} {f : FuncId} {args : List AV} {σ : Store} {p : AV → Prop} (h : ACalls P f args σ (FP σ p)) : ACalls P f args σ fun r σ' => p r ∧ σ' = σ :=
  ACalls_pure (ACalls_froze (h.mono fun r s ⟨v, ty, sz, es, r', h1, h2, h3, h4, k, hf⟩ => ⟨v, ty, sz, es, r', h1, h2, fun σ2 hn hg => ⟨h3, h4, by rw [hn]; exact k.next, fun id hid => by rw [hg id (fun hm => by have := hf id hm; omega), k.keep id hid]⟩⟩))
end Go.AL
