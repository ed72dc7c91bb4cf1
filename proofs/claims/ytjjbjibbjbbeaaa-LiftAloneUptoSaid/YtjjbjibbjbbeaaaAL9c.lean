/- The abstract layer, part 9c: values that lead to no new object; blocks that stand still and become objects. -/
import Derived.Test.YtjjbjibbjbbeaaaAL9
set_option linter.unusedVariables false
set_option linter.unusedSimpArgs false
namespace Go.AL
open Go.RowKit

/-- It leads to objects below n alone. -/
inductive Cln (n : Nat) : AV → Prop
  | junk : Cln n .junk
  | bool (b : Bool) : Cln n (.bool b)
  | int (k : IntKind) (i : Int) : Cln n (.int k i)
  | str (s : ByteArray) : Cln n (.str s)
  | nilp : Cln n .nilp
  | ptr {id ver i off : Nat} (h : id < n) : Cln n (.ptr id ver i off)
  | rptr {cs : List AV} {off : Nat} (h : ∀ (j : Nat) (c : AV), cs[j]? = some c → Cln n c) : Cln n (.rptr cs off)
  | nils : Cln n .nils
  | list {es : List (List AV)} (h : ∀ (i j : Nat) (e : List AV) (c : AV), es[i]? = some e → e[j]? = some c → Cln n c) : Cln n (.list es)
  | own {id ver sz off len : Nat} (h : id < n) : Cln n (.own id ver sz off len)
  | nilm : Cln n .nilm
  | map {id : Nat} (h : id < n) : Cln n (.map id)
  | nilf : Cln n .nilf
  | fn {f : Fn} {a b : List AV} (ha : ∀ (j : Nat) (c : AV), a[j]? = some c → Cln n c) (hb : ∀ (j : Nat) (c : AV), b[j]? = some c → Cln n c) : Cln n (.fn f a b)
  | agg {cs : List AV} (h : ∀ (j : Nat) (c : AV), cs[j]? = some c → Cln n c) : Cln n (.agg cs)
  | tuple {cs : List AV} (h : ∀ (j : Nat) (c : AV), cs[j]? = some c → Cln n c) : Cln n (.tuple cs)

theorem RelV.cln {g : Ghost} {a : AV} {v : Value} (h : RelV g a v) : Cln g.next a := by
  induction h with
  | junk v => exact .junk
  | bool b => exact .bool b
  | int k n => exact .int k n
  | str s h => exact .str s
  | nilp => exact .nilp
  | ptr hid h h1 => exact .ptr hid
  | rptr hΦ hb hc h1 ih => exact .rptr ih
  | nils => exact .nils
  | listNil a c => exact .list (by simp)
  | list hΦ hs hb hc h1 hn hcap ih => exact .list ih
  | own hid hlen hv h => exact .own hid
  | nilm => exact .nilm
  | map hid h h1 => exact .map hid
  | nilf => exact .nilf
  | fn hf hc h h' ih ih' => exact .fn ih ih'
  | agg hs hc h1 ih => exact .agg ih
  | tuple hs hc ih => exact .tuple ih

theorem Cln.list' {n : Nat} {es : List (List AV)} (h : ∀ e, e ∈ es → ∀ c, c ∈ e → Cln n c) : Cln n (.list es) :=
  .list fun i j e c hi hj => h e (List.mem_of_getElem? hi) c (List.mem_of_getElem? hj)
theorem Cln.agg' {n : Nat} {cs : List AV} (h : ∀ c, c ∈ cs → Cln n c) : Cln n (.agg cs) := .agg fun j c hj => h c (List.mem_of_getElem? hj)
theorem Cln.tuple' {n : Nat} {cs : List AV} (h : ∀ c, c ∈ cs → Cln n c) : Cln n (.tuple cs) := .tuple fun j c hj => h c (List.mem_of_getElem? hj)

def AObj.Okay (n : Nat) : AObj → Prop
  | .cells _ _ _ es => ∀ (i j : Nat) (e : List AV) (c : AV), es[i]? = some e → e[j]? = some c → Cln n c
  | .map es => ∀ (i : Nat) (k v : AV), es[i]? = some (k, v) → Cln n k ∧ Cln n v

theorem SR.cln {B : Nat} {w0 : World} {σ : Store} {g : Ghost} {w : World} (h : SR B w0 σ g w) {id : Nat} {o : AObj} (ho : σ.get id = some o) : o.Okay σ.next := by
  obtain ⟨p, hp, hr⟩ := h.objs id o ho
  rw [← h.next]
  cases o with
  | cells ty ver sz es =>
    obtain ⟨h1, h2, h3, h4, cells, h5, h6, h7, h8⟩ := hr
    exact fun i j e c a b => (h8 i j e c a b).1.cln
  | map es =>
    obtain ⟨h1, entries, clock, h2, h3, h4⟩ := hr
    intro i k v a
    obtain ⟨e, x, y, z⟩ := h4 i k v a
    exact ⟨y.cln, z.cln⟩

def Ghost.cut (g : Ghost) (n : Nat) : Ghost := { g with pl := fun id => if id < n then g.pl id else none, next := n }

theorem RelV.cut {g : Ghost} {n : Nat} {a : AV} {v : Value} (h : RelV g a v) (hc : Cln n a) : RelV (g.cut n) a v := by
  induction h with
  | junk v => exact .junk v
  | bool b => exact .bool b
  | int k n => exact .int k n
  | str s h => exact .str s h
  | nilp => exact .nilp
  | ptr hid h h1 =>
    cases hc with
    | ptr hn => exact .ptr hn (fun p hp => h p (by simpa [Ghost.cut, hn] using hp)) h1
  | rptr hΦ hb hcc h1 ih =>
    cases hc with
    | rptr hr => exact .rptr (g := g.cut n) hΦ hb (fun j c hj => ih j c hj (hr j c hj)) h1
  | nils => exact .nils
  | listNil a c => exact .listNil a c
  | list hΦ hs hb hcc h1 hn hcap ih =>
    cases hc with
    | list hr => exact .list (g := g.cut n) hΦ hs hb (fun i j e c hi hj => ih i j e c hi hj (hr i j e c hi hj)) h1 hn hcap
  | own hid hlen hv h =>
    cases hc with
    | own hn => exact .own hn hlen hv (fun p hp => h p (by simpa [Ghost.cut, hn] using hp))
  | nilm => exact .nilm
  | map hid h h1 =>
    cases hc with
    | map hn => exact .map hn (fun p hp => h p (by simpa [Ghost.cut, hn] using hp)) h1
  | nilf => exact .nilf
  | fn hf hcs h h' ih ih' =>
    cases hc with
    | fn ha hb => exact .fn hf hcs (fun j c hj => ih j c hj (ha j c hj)) (fun j c hj => ih' j c hj (hb j c hj))
  | agg hs hcc h1 ih =>
    cases hc with
    | agg hr => exact .agg hs (fun j c hj => ih j c hj (hr j c hj)) h1
  | tuple hs hcc ih =>
    cases hc with
    | tuple hr => exact .tuple hs (fun j c hj => ih j c hj (hr j c hj))

theorem ObjRel.cut {g : Ghost} {n : Nat} {w : World} {p : Place} {o : AObj} (h : ObjRel g w p o) (hc : o.Okay n) : ObjRel (g.cut n) w p o := by
  cases o with
  | cells ty ver sz es =>
    obtain ⟨h1, h2, h3, h4, cells, h5, h6, h7, h8⟩ := h
    exact ⟨h1, h2, h3, h4, cells, h5, h6, h7, fun i j e c a b => ⟨(h8 i j e c a b).1.cut (hc i j e c a b), (h8 i j e c a b).2⟩⟩
  | map es =>
    obtain ⟨h1, entries, clock, h2, h3, h4⟩ := h
    refine ⟨h1, entries, clock, h2, h3, fun i k v a => ?_⟩
    obtain ⟨e, x, y, z⟩ := h4 i k v a
    exact ⟨e, x, y.cut (hc i k v a).1, z.cut (hc i k v a).2⟩

/-- Objects are forgotten, from some number on all of them. -/
theorem SR.trim {B : Nat} {w0 : World} {σ τ : Store} {g : Ghost} {w : World} (h : SR B w0 σ g w) (hn : τ.next ≤ σ.next) (hτ : ∀ id o, τ.get id = some o → σ.get id = some o ∧ o.Okay τ.next) : SR B w0 τ (g.cut τ.next) w := by
  refine ⟨h.below, h.size, h.phi, rfl, fun id o e => ?_, fun i j p q hp hq hb => ?_, fun i p hp => ?_, fun i p hp => ?_⟩
  · obtain ⟨h1, h2⟩ := hτ id o e
    obtain ⟨p, hp, hr⟩ := h.objs id o h1
    exact ⟨p, by simp [Ghost.cut, τ.lt e, hp], hr.cut h2⟩
  · simp only [Ghost.cut] at hp hq
    split at hp
    · split at hq
      · exact h.inj i j p q hp hq hb
      · cases hq
    · cases hp
  · simp only [Ghost.cut] at hp
    split at hp
    · exact h.apart i p hp
    · cases hp
  · simp only [Ghost.cut] at hp
    split at hp
    · rename_i hi
      obtain ⟨a, b, c⟩ := h.fresh i p hp
      exact ⟨a, b, hi⟩
    · cases hp

theorem Ext.cut {g g' : Ghost} {n : Nat} (h : Ext g g') (hn : g.next ≤ n) : Ext g (g'.cut n) :=
  ⟨h.phi, h.see, hn, fun id p' hid hp' => by
    simp only [Ghost.cut] at hp'
    split at hp'
    · exact h.pl id p' hid hp'
    · cases hp'⟩
/-- What may become of a ghost, of which blocks that no value leads to may be given up. -/
structure ExtV (g g' : Ghost) : Prop where
  phi : ∀ b c, g.Φ b = some c → g.vis b = none → g'.Φ b = some c ∧ g'.vis b = none
  next : g.next ≤ g'.next
  pl : ∀ id p', id < g.next → g'.pl id = some p' → ∃ p, g.pl id = some p ∧ (p' = p ∨ p.ver < p'.ver)
theorem RelV.extV {g g' : Ghost} (he : ExtV g g') {a : AV} {v : Value} (h : RelV g a v) : RelV g' a v := by
  induction h with
  | junk v => exact .junk v
  | bool b => exact .bool b
  | int k n => exact .int k n
  | str s h => exact .str s h
  | nilp => exact .nilp
  | ptr hid h h1 =>
    refine .ptr (Nat.lt_of_lt_of_le hid he.next) (fun p' hp' => ?_) h1
    obtain ⟨p, hp, e⟩ := he.pl _ p' hid hp'
    have := h p hp
    rcases e with rfl | e
    · exact this
    · exact ⟨by omega, fun e' => by omega⟩
  | rptr hΦ hb hc h1 ih => exact .rptr (he.phi _ _ hΦ.1 hΦ.2) hb ih h1
  | nils => exact .nils
  | listNil a c => exact .listNil a c
  | list hΦ hs hb hc h1 hn hcap ih => exact .list (he.phi _ _ hΦ.1 hΦ.2) hs hb ih h1 hn hcap
  | own hid hlen hv h =>
    refine .own (Nat.lt_of_lt_of_le hid he.next) hlen hv (fun p' hp' => ?_)
    obtain ⟨p, hp, e⟩ := he.pl _ p' hid hp'
    have := h p hp
    rcases e with rfl | e
    · exact this
    · exact ⟨by omega, fun e' => by omega⟩
  | nilm => exact .nilm
  | map hid h h1 =>
    refine .map (Nat.lt_of_lt_of_le hid he.next) (fun p' hp' e0 => ?_) h1
    obtain ⟨p, hp, e⟩ := he.pl _ p' hid hp'
    rcases e with rfl | e
    · exact h _ hp e0
    · omega
  | nilf => exact .nilf
  | fn hf hc h h' ih ih' => exact .fn hf hc ih ih'
  | agg hs hc h1 ih => exact .agg hs ih h1
  | tuple hs hc ih => exact .tuple hs ih
theorem ObjRel.extV {g g' : Ghost} (he : ExtV g g') {w : World} {p : Place} {o : AObj} (h : ObjRel g w p o) : ObjRel g' w p o := by
  cases o with
  | cells ty ver sz es =>
    obtain ⟨h1, h2, h3, h4, cells, h5, h6, h7, h8⟩ := h
    exact ⟨h1, h2, h3, h4, cells, h5, h6, h7, fun i j e c a b => ⟨(h8 i j e c a b).1.extV he, (h8 i j e c a b).2⟩⟩
  | map es =>
    obtain ⟨h1, entries, clock, h2, h3, h4⟩ := h
    refine ⟨h1, entries, clock, h2, h3, fun i k v a => ?_⟩
    obtain ⟨e, x, y, z⟩ := h4 i k v a
    exact ⟨e, x, y.extV he, z.extV he⟩
theorem RelT.extV {g g' : Ghost} (he : ExtV g g') {n : Nat} {tm : Nat → AV} {a : Act} (h : RelT g n tm a) : RelT g' n tm a := ⟨h.1, h.2.1, fun i => (h.2.2 i).extV he⟩

/-- A block that no value leads to stands still. -/
def Ghost.prot (g : Ghost) (b : Nat) (cells : Array Value) (ty : TypeId) : Ghost := { g with Φ := fun x => if x = b then some cells else g.Φ x, vis := fun x => if x = b then some ty else g.vis x }
theorem Ext.prot {g : Ghost} {b : Nat} (cells : Array Value) (ty : TypeId) (h : g.Φ b = none) : Ext g (g.prot b cells ty) :=
  ⟨fun x c e => by
    have : x ≠ b := fun hx => by rw [hx, h] at e; cases e
    simp only [Ghost.prot, this, if_false]; exact e, fun x c e => by
    have : x ≠ b := fun hx => by rw [hx, h] at e; cases e
    simp only [Ghost.prot, this, if_false], Nat.le_refl _, fun id p' _ hp' => ⟨p', hp', .inl rfl⟩⟩
theorem SR.prot {B : Nat} {w0 : World} {σ : Store} {g : Ghost} {w : World} (h : SR B w0 σ g w) {b : Nat} {cells : Array Value} {ty : TypeId} (hb : w.heap[b]? = some (.cells cells ty (0, 0))) (hΦ : g.Φ b = none)
    (hn : ∀ id p, g.pl id = some p → p.blk ≠ b) : SR B w0 σ (g.prot b cells ty) w := by
  refine ⟨h.below, h.size, fun x c e => ?_, h.next, fun id o e => ?_, h.inj, fun id p e => ?_, h.fresh⟩
  · by_cases hx : x = b
    · subst hx
      simp only [Ghost.prot, if_true, Option.some.injEq] at e
      subst e
      exact ⟨ty, (0, 0), hb, fun t ht => by simp [Ghost.prot] at ht; exact ⟨ht, rfl⟩⟩
    · simp only [Ghost.prot, hx, if_false] at e ⊢
      exact h.phi x c e
  · obtain ⟨p, hp, ho⟩ := h.objs id o e
    exact ⟨p, hp, ho.ext (.prot cells ty hΦ)⟩
  · have := hn id p e
    simp only [Ghost.prot, this, if_false]
    exact h.apart id p e
/-- Such a block becomes an object. -/
def Ghost.adopt (g : Ghost) (b sz cap : Nat) : Ghost := { Φ := fun x => if x = b then none else g.Φ x, vis := fun x => if x = b then none else g.vis x, pl := fun x => if x = g.next then some ⟨0, b, sz, cap⟩ else g.pl x, next := g.next + 1 }
theorem ExtV.adopt {g : Ghost} {b : Nat} (sz cap : Nat) {ty : TypeId} (hv : g.vis b = some ty) : ExtV g (g.adopt b sz cap) :=
  ⟨fun x c e e' => by
    have : x ≠ b := fun hx => by rw [hx, hv] at e'; cases e'
    simp only [Ghost.adopt, this, if_false]; exact ⟨e, e'⟩, Nat.le_succ _, fun id p' hid hp' => by
    have : id ≠ g.next := by omega
    simp only [Ghost.adopt, this, if_false] at hp'
    exact ⟨p', hp', .inl rfl⟩⟩
theorem Ext.adopt {g0 g : Ghost} (h : Ext g0 g) {b : Nat} (sz cap : Nat) (h0 : g0.Φ b = none) : Ext g0 (g.adopt b sz cap) :=
  ⟨fun x c e => by
    have : x ≠ b := fun hx => by rw [hx, h0] at e; cases e
    simp only [Ghost.adopt, this, if_false]; exact h.phi x c e, fun x c e => by
    have : x ≠ b := fun hx => by rw [hx, h0] at e; cases e
    simp only [Ghost.adopt, this, if_false]; exact h.see x c e, by have := h.next; simp only [Ghost.adopt]; omega, fun id p' hid hp' => by
    have := h.next
    have : id ≠ g.next := by omega
    simp only [Ghost.adopt, this, if_false] at hp'
    exact h.pl id p' hid hp'⟩
theorem SR.adopt {B : Nat} {w0 : World} {σ : Store} {g : Ghost} {w : World} (h : SR B w0 σ g w) {b : Nat} {cells : Array Value} {ty : TypeId} {cs : List AV} {cap : Nat} (hΦ : g.Φ b = some cells) (hv : g.vis b = some ty) (hB : B ≤ b) (hs : cells.size = cap * cs.length) (h1 : 1 ≤ cap) (h2 : cap ≤ maxLen)
    (hc : ∀ j c, cs[j]? = some c → (∀ g, RelV g c (cells.getD j undef)) ∧ (cells.getD j undef).oneCell' = true) :
    SR B w0 (σ.push (.cells ty 0 cs.length [cs])) (g.adopt b cs.length cap) w ∧ RelV (g.adopt b cs.length cap) (.ptr σ.next 0 0 0) (.pointer (some ⟨b, 0, none⟩)) := by
  have he : ExtV g (g.adopt b cs.length cap) := .adopt _ _ hv
  obtain ⟨t, fr, hh, ht⟩ := h.phi b cells hΦ
  obtain ⟨rfl, rfl⟩ := ht ty hv
  have hlt : b < w.heap.size := (Array.getElem?_eq_some_iff.1 hh).1
  have hne : ∀ id p, g.pl id = some p → p.blk ≠ b := fun id p hp e => by have := h.apart id p hp; rw [e, hΦ] at this; cases this
  refine ⟨⟨h.below, h.size, fun x c e => ?_, by show g.next + 1 = σ.next + 1; rw [h.next], fun id y e => ?_, fun id id' q q' e e' hb => ?_, fun id q e => ?_, fun id q e => ?_⟩, ?_⟩
  · simp only [Ghost.adopt] at e ⊢
    split at e
    · cases e
    · rename_i hx; rw [if_neg hx]; exact h.phi x c e
  · rw [Store.get_push] at e
    by_cases hi : id = σ.next
    · subst hi
      simp only [if_true, Option.some.injEq] at e
      subst e
      refine ⟨⟨0, b, cs.length, cap⟩, by simp [Ghost.adopt, h.next], rfl, rfl, by simpa using h1, h2, cells, hh, hs, by simp, fun i j e c hi hj => ?_⟩
      match i, hi with
      | 0, hi =>
        simp at hi
        subst hi
        have := hc j c hj
        simp only [Nat.zero_mul, Nat.zero_add]
        exact ⟨this.1 _, this.2⟩
      | i + 1, hi => simp at hi
    · simp only [hi, if_false] at e
      obtain ⟨q, hq, hr⟩ := h.objs id y e
      have : id ≠ g.next := by rw [h.next]; exact hi
      exact ⟨q, by simp only [Ghost.adopt, this, if_false]; exact hq, hr.extV he⟩
  · simp only [Ghost.adopt] at e e'
    split at e
    · rename_i h1
      split at e'
      · rename_i h2; rw [h1, h2]
      · cases e; exact absurd hb.symm (hne id' q' e')
    · split at e'
      · cases e'; exact absurd hb (hne id q e)
      · exact h.inj id id' q q' e e' hb
  · simp only [Ghost.adopt] at e ⊢
    split at e
    · cases e; simp
    · rw [if_neg (hne id q e)]; exact h.apart id q e
  · simp only [Ghost.adopt] at e ⊢
    split at e
    · rename_i h1; cases e; exact ⟨hB, hlt, by omega⟩
    · obtain ⟨a, b, c⟩ := h.fresh id q e; exact ⟨a, b, by omega⟩
  · refine .ptr (by simp [Ghost.adopt, h.next]) (fun p hp => ?_) ⟨_, rfl⟩
    simp [Ghost.adopt, h.next] at hp
    subst hp
    simp

/-- The variable that has just been made is put by as a block that stands still. -/
theorem SR.hide {B : Nat} {w0 : World} {σ : Store} {g g' : Ghost} {w w' : World} (h : SR B w0 σ g w) (hE : Ext g g') {ty : TypeId} {cs : List AV} (h' : SR B w0 (σ.push (.cells ty 0 cs.length [cs])) g' w') {v : Value} (hv : RelV g' (.ptr σ.next 0 0 0) v)
    (hc : ∀ c, c ∈ cs → ∀ (g : Ghost) v, RelV g c v → ∀ g2, RelV g2 c v) :
    ∃ (b : Nat) (cells : Array Value) (cap : Nat) (g2 : Ghost), v = .pointer (some ⟨b, 0, none⟩) ∧ SR B w0 σ g2 w' ∧ Ext g g2 ∧ g2.Φ b = some cells ∧ g2.vis b = some ty ∧ B ≤ b ∧ g.Φ b = none ∧ cells.size = cap * cs.length ∧ 1 ≤ cap ∧ cap ≤ maxLen ∧
      ∀ j c, cs[j]? = some c → (∀ g, RelV g c (cells.getD j undef)) ∧ (cells.getD j undef).oneCell' = true := by
  obtain ⟨p, hp, h1, h2, h3, h4, cells, h5, h6, h7, h8⟩ := h'.objs σ.next _ (Store.get_push_self _ _)
  have hT := h'.trim (τ := σ) (by simp [Store.push]) (fun id o e => ⟨by rw [Store.get_push_lt _ _ (σ.lt e)]; exact e, h.cln e⟩)
  have hno : g'.Φ p.blk = none := h'.apart _ p hp
  have hP := hT.prot (b := p.blk) (cells := cells) (ty := ty) h5 hno (fun id q hq e => by
    simp only [Ghost.cut] at hq
    split at hq
    · rename_i hi
      have := h'.inj id σ.next q p hq hp e
      omega
    · cases hq)
  have hx : Ext g (g'.cut σ.next) := hE.cut (by rw [h.next]; exact Nat.le_refl _)
  have hgn : g.Φ p.blk = none := by
    cases e : g.Φ p.blk with
    | none => rfl
    | some c => have := hE.phi _ _ e; rw [hno] at this; cases this
  have hvv : v = .pointer (some ⟨p.blk, 0, none⟩) := by
    cases hv with
    | ptr hid hvv hv1 =>
      have := (hvv p hp).2 h1
      simpa using this
  refine ⟨p.blk, cells, p.cap, _, hvv, hP, hx.trans (.prot cells ty hno), by simp [Ghost.prot], by simp [Ghost.prot], (h'.fresh _ p hp).1, hgn, by rw [h6, ← h2], by simpa using h3, h4, fun j c hj => ?_⟩
  have := h8 0 j cs c rfl hj
  simp only [Nat.zero_mul, Nat.zero_add] at this
  exact ⟨fun g2 => hc c (List.mem_of_getElem? hj) _ _ this.1 g2, this.2⟩
/-- A constant that leads nowhere. -/
def AV.flat : AV → Bool
  | .bool _ | .int .. | .str _ | .nilp | .nils | .nilm | .nilf => true
  | _ => false
theorem RelV.flat {c : AV} (hc : c.flat = true) {g : Ghost} {v : Value} (h : RelV g c v) (g2 : Ghost) : RelV g2 c v := by
  cases h <;> simp [AV.flat] at hc <;> first | (constructor; done) | (constructor; assumption)
end Go.AL
