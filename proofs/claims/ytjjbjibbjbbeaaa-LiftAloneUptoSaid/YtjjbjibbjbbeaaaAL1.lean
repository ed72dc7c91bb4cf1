/- The abstract layer, part 1: abstract values (frozen lists by value, owned objects by number), the ghost that ties them to memory, and the relation between both. -/
import Derived.Laws.AppendOwn
import Derived.Laws.MakeOwn
import Derived.Laws.StructEq
import Derived.Orders
import Derived.Below
set_option linter.unusedVariables false
set_option linter.unusedSimpArgs false
namespace Go.AL
open Go.RowKit

/-- Abstract values. -/
inductive AV where
  | junk
  | bool (b : Bool)
  | int (k : IntKind) (n : Int)
  | str (s : ByteArray)
  | nilp
  | ptr (id ver i off : Nat)
  | rptr (cs : List AV) (off : Nat)
  | nils
  | list (es : List (List AV))
  | own (id ver sz off len : Nat)
  | nilm
  | map (id : Nat)
  | nilf
  | fn (f : Fn) (first captured : List AV)
  | agg (cs : List AV)
  | tuple (vs : List AV)
  deriving Inhabited

def AV.cells : AV → List AV
  | .agg cs => cs
  | v => [v]

/-- The place of an owned object: its version, its block, the cells of an element, how many elements have room. -/
structure Place where
  ver : Nat
  blk : Nat
  sz : Nat
  cap : Nat

/-- The ghost: which blocks are frozen, where owned objects lie, the next object's number. -/
structure Ghost where
  Φ : Nat → Option (Array Value)
  /-- Of the blocks that stand still, those that no value leads to: their types. -/
  vis : Nat → Option TypeId
  pl : Nat → Option Place
  next : Nat

inductive RelV (g : Ghost) : AV → Value → Prop
  | junk (v : Value) : RelV g .junk v
  | bool (b : Bool) : RelV g (.bool b) (.bool b)
  | int (k : IntKind) (n : Int) : RelV g (.int k n) (.int k n)
  | str (s : ByteArray) (h : s.size ≤ maxLen) : RelV g (.str s) (.string s)
  | nilp : RelV g .nilp (.pointer none)
  | ptr {id ver i off : Nat} {v : Value} (hid : id < g.next)
      (h : ∀ p, g.pl id = some p → ver ≤ p.ver ∧ (p.ver = ver → v = .pointer (some ⟨p.blk, i * p.sz + off, none⟩))) (h1 : ∃ a, v = .pointer (some a)) : RelV g (.ptr id ver i off) v
  | rptr {cs : List AV} {off blk o : Nat} {cells : Array Value} (hΦ : g.Φ blk = some cells ∧ g.vis blk = none) (hb : o + cs.length ≤ cells.size)
      (hc : ∀ j c, cs[j]? = some c → RelV g c (cells.getD (o + j) undef)) (h1 : ∀ j c, cs[j]? = some c → (cells.getD (o + j) undef).oneCell' = true) :
      RelV g (.rptr cs off) (.pointer (some ⟨blk, o + off, none⟩))
  | nils : RelV g .nils (.slice none 0 0)
  | listNil (a : Option Addr) (cap : Nat) : RelV g (.list []) (.slice a 0 cap)
  | list {es : List (List AV)} {blk off cap s : Nat} {cells : Array Value} (hΦ : g.Φ blk = some cells ∧ g.vis blk = none) (hs : ∀ e, e ∈ es → e.length = s)
      (hb : off + es.length * s ≤ cells.size)
      (hc : ∀ (i j : Nat) (e : List AV) (c : AV), es[i]? = some e → e[j]? = some c → RelV g c (cells.getD (off + i * s + j) undef))
      (h1 : ∀ (i j : Nat) (e : List AV) (c : AV), es[i]? = some e → e[j]? = some c → (cells.getD (off + i * s + j) undef).oneCell' = true)
      (hn : es.length ≤ cap) (hcap : cap ≤ maxLen) : RelV g (.list es) (.slice (some ⟨blk, off, none⟩) es.length cap)
  | own {id ver sz off len : Nat} {v : Value} (hid : id < g.next) (hlen : len ≤ maxLen) (hv : ∃ a c, v = .slice (some a) len c)
      (h : ∀ p, g.pl id = some p → ver ≤ p.ver ∧ (p.ver = ver → p.sz = sz ∧ off + len ≤ p.cap ∧
        ∃ a, v = .slice (some a) len (p.cap - off) ∧ (off = 0 ∨ off < p.cap → a = ⟨p.blk, off * sz, none⟩))) : RelV g (.own id ver sz off len) v
  | nilm : RelV g .nilm (.map none)
  | map {id : Nat} {v : Value} (hid : id < g.next) (h : ∀ p, g.pl id = some p → p.ver = 0 → v = .map (some p.blk)) (h1 : ∃ r, v = .map (some r)) : RelV g (.map id) v
  | nilf : RelV g .nilf .nilFunc
  | fn {f : Fn} {fs cs : List AV} {fa ca : Array Value} (hf : fa.size = fs.length) (hc : ca.size = cs.length)
      (h : ∀ j c, fs[j]? = some c → RelV g c (fa.getD j undef)) (h' : ∀ j c, cs[j]? = some c → RelV g c (ca.getD j undef)) : RelV g (.fn f fs cs) (.func f fa ca)
  | agg {cs : List AV} {arr : Array Value} (hs : arr.size = cs.length) (hc : ∀ j c, cs[j]? = some c → RelV g c (arr.getD j undef))
      (h1 : ∀ j c, cs[j]? = some c → (arr.getD j undef).oneCell' = true) : RelV g (.agg cs) (.agg arr)
  | tuple {cs : List AV} {arr : Array Value} (hs : arr.size = cs.length) (hc : ∀ j c, cs[j]? = some c → RelV g c (arr.getD j undef)) : RelV g (.tuple cs) (.tuple arr)

/-- What may become of a ghost. -/
structure Ext (g g' : Ghost) : Prop where
  phi : ∀ b c, g.Φ b = some c → g'.Φ b = some c
  see : ∀ b c, g.Φ b = some c → g'.vis b = g.vis b
  next : g.next ≤ g'.next
  pl : ∀ id p', id < g.next → g'.pl id = some p' → ∃ p, g.pl id = some p ∧ (p' = p ∨ p.ver < p'.ver)

theorem Ext.refl (g : Ghost) : Ext g g := ⟨fun _ _ h => h, fun _ _ _ => rfl, Nat.le_refl _, fun _ p' _ h => ⟨p', h, .inl rfl⟩⟩
theorem Ext.trans {a b c : Ghost} (h : Ext a b) (k : Ext b c) : Ext a c :=
  ⟨fun x y e => k.phi _ _ (h.phi _ _ e), fun x y e => (k.see _ _ (h.phi _ _ e)).trans (h.see _ _ e), Nat.le_trans h.next k.next, fun id p' hid hp' => by
    obtain ⟨p, hp, e⟩ := k.pl id p' (Nat.lt_of_lt_of_le hid h.next) hp'
    obtain ⟨q, hq, e'⟩ := h.pl id p hid hp
    refine ⟨q, hq, ?_⟩
    rcases e with rfl | e
    · exact e'
    · rcases e' with rfl | e'
      · exact .inr e
      · exact .inr (Nat.lt_trans e' e)⟩

theorem RelV.ext {g g' : Ghost} (he : Ext g g') {a : AV} {v : Value} (h : RelV g a v) : RelV g' a v := by
  induction h with
  | junk v => exact .junk v
  | bool b => exact .bool b
  | int k n => exact .int k n
  | str s h => exact .str s h
  | nilp => exact .nilp
  | ptr hid h h1 =>
    refine .ptr (Nat.lt_of_lt_of_le hid he.next) (fun p' hp' => ?_) h1
    obtain ⟨p, hp, e⟩ := he.pl _ p' hid hp'
    have := h p hp
    rcases e with rfl | e
    · exact this
    · exact ⟨by omega, fun e' => by omega⟩
  | rptr hΦ hb hc h1 ih => exact .rptr ⟨he.phi _ _ hΦ.1, (he.see _ _ hΦ.1).trans hΦ.2⟩ hb ih h1
  | nils => exact .nils
  | listNil a c => exact .listNil a c
  | list hΦ hs hb hc h1 hn hcap ih => exact .list ⟨he.phi _ _ hΦ.1, (he.see _ _ hΦ.1).trans hΦ.2⟩ hs hb ih h1 hn hcap
  | own hid hlen hv h =>
    refine .own (Nat.lt_of_lt_of_le hid he.next) hlen hv (fun p' hp' => ?_)
    obtain ⟨p, hp, e⟩ := he.pl _ p' hid hp'
    have := h p hp
    rcases e with rfl | e
    · exact this
    · exact ⟨by omega, fun e' => by omega⟩
  | nilm => exact .nilm
  | map hid h h1 =>
    refine .map (Nat.lt_of_lt_of_le hid he.next) (fun p' hp' e0 => ?_) h1
    obtain ⟨p, hp, e⟩ := he.pl _ p' hid hp'
    rcases e with rfl | e
    · exact h _ hp e0
    · omega
  | nilf => exact .nilf
  | fn hf hc h h' ih ih' => exact .fn hf hc ih ih'
  | agg hs hc h1 ih => exact .agg hs ih h1
  | tuple hs hc ih => exact .tuple hs ih

/-- Owned objects. -/
inductive AObj where
  | cells (ty : TypeId) (ver sz : Nat) (es : List (List AV))
  | map (es : List (AV × AV))

/-- The abstract store. -/
structure Store where
  next : Nat
  get : Nat → Option AObj
  wf : ∀ id, next ≤ id → get id = none

theorem Store.lt (σ : Store) {id : Nat} {o : AObj} (h : σ.get id = some o) : id < σ.next := by
  rcases Nat.lt_or_ge id σ.next with h' | h'
  · exact h'
  · rw [σ.wf id h'] at h; cases h

theorem Store.ext' {σ τ : Store} (h : σ.next = τ.next) (h' : σ.get = τ.get) : σ = τ := by
  cases σ; cases τ; simp_all

def Store.empty : Store := ⟨0, fun _ => none, fun _ _ => rfl⟩
def Store.push (σ : Store) (o : AObj) : Store := ⟨σ.next + 1, fun id => if id = σ.next then some o else σ.get id, fun id h => by
  have : id ≠ σ.next := by omega
  simp only [this, if_false]; exact σ.wf id (by omega)⟩
def Store.upd (σ : Store) (id : Nat) (o : AObj) : Store := ⟨σ.next, fun j => if j = id ∧ id < σ.next then some o else σ.get j, fun j h => by
  have : ¬ (j = id ∧ id < σ.next) := by omega
  simp only [this, if_false]; exact σ.wf j h⟩
/-- Forget an object. -/
def Store.drop (σ : Store) (id : Nat) : Store := ⟨σ.next, fun j => if j = id then none else σ.get j, fun j h => by
  by_cases e : j = id
  · simp only [e, if_true]
  · simp only [e, if_false]; exact σ.wf j h⟩

theorem Store.next_push (σ : Store) (o : AObj) : (σ.push o).next = σ.next + 1 := rfl
theorem Store.next_upd (σ : Store) (id : Nat) (o : AObj) : (σ.upd id o).next = σ.next := rfl
theorem Store.next_drop (σ : Store) (id : Nat) : (σ.drop id).next = σ.next := rfl
theorem Store.get_push (σ : Store) (o : AObj) (id : Nat) : (σ.push o).get id = if id = σ.next then some o else σ.get id := rfl
theorem Store.get_push_self (σ : Store) (o : AObj) : (σ.push o).get σ.next = some o := by simp [Store.push]
theorem Store.get_push_lt (σ : Store) (o : AObj) {id : Nat} (h : id < σ.next) : (σ.push o).get id = σ.get id := by
  simp [Store.push, Nat.ne_of_lt h]
theorem Store.get_upd_self (σ : Store) (o : AObj) {id : Nat} (h : id < σ.next) : (σ.upd id o).get id = some o := by simp [Store.upd, h]
theorem Store.get_upd_ne (σ : Store) (o : AObj) {id j : Nat} (h : j ≠ id) : (σ.upd id o).get j = σ.get j := by simp [Store.upd, h]
theorem Store.upd_push_self (σ : Store) (o o' : AObj) : (σ.push o).upd σ.next o' = σ.push o' :=
  Store.ext' rfl (funext fun j => by
    simp only [Store.upd, Store.push]
    by_cases h : j = σ.next <;> simp [h])
theorem Store.upd_push_lt (σ : Store) (o o' : AObj) {id : Nat} (h : id < σ.next) : (σ.push o).upd id o' = (σ.upd id o').push o :=
  Store.ext' rfl (funext fun j => by
    simp only [Store.upd, Store.push]
    by_cases h1 : j = id
    · subst h1; simp [h, Nat.ne_of_lt h, Nat.lt_succ_of_lt h]
    · simp [h1])
theorem Store.upd_upd (σ : Store) (o o' : AObj) {id : Nat} : (σ.upd id o).upd id o' = σ.upd id o' :=
  Store.ext' rfl (funext fun j => by
    simp only [Store.upd]
    by_cases h1 : j = id ∧ id < σ.next <;> simp [h1])
theorem Store.upd_self (σ : Store) {o : AObj} {id : Nat} (h : σ.get id = some o) : σ.upd id o = σ :=
  Store.ext' rfl (funext fun j => by
    simp only [Store.upd]
    by_cases h1 : j = id ∧ id < σ.next
    · simp [h1, h]
    · simp [h1])

def ObjRel (g : Ghost) (w : World) (p : Place) : AObj → Prop
  | .cells ty ver sz es => p.ver = ver ∧ p.sz = sz ∧ es.length ≤ p.cap ∧ p.cap ≤ maxLen ∧ ∃ cells, w.heap[p.blk]? = some (.cells cells ty (0, 0)) ∧
      cells.size = p.cap * sz ∧ (∀ e, e ∈ es → e.length = sz) ∧
      (∀ (i j : Nat) (e : List AV) (c : AV), es[i]? = some e → e[j]? = some c → RelV g c (cells.getD (i * sz + j) undef) ∧ (cells.getD (i * sz + j) undef).oneCell' = true)
  | .map es => p.ver = 0 ∧ ∃ entries clock, w.heap[p.blk]? = some (.map entries clock) ∧ entries.size = es.length ∧
      (∀ (i : Nat) (k v : AV), es[i]? = some (k, v) → ∃ e : MapEntry, entries[i]? = some e ∧ RelV g k e.key ∧ RelV g v e.val)

theorem ObjRel.ext {g g' : Ghost} (he : Ext g g') {w : World} {p : Place} {o : AObj} (h : ObjRel g w p o) : ObjRel g' w p o := by
  cases o with
  | cells ty ver sz es =>
    obtain ⟨h1, h2, h3, h4, cells, h5, h6, h7, h8⟩ := h
    exact ⟨h1, h2, h3, h4, cells, h5, h6, h7, fun i j e c a b => ⟨(h8 i j e c a b).1.ext he, (h8 i j e c a b).2⟩⟩
  | map es =>
    obtain ⟨h1, entries, clock, h2, h3, h4⟩ := h
    refine ⟨h1, entries, clock, h2, h3, fun i k v a => ?_⟩
    obtain ⟨e, x, y, z⟩ := h4 i k v a
    exact ⟨e, x, y.ext he, z.ext he⟩

theorem ObjRel.world {g : Ghost} {w w' : World} {p : Place} {o : AObj} (hw : w'.heap[p.blk]? = w.heap[p.blk]?) (h : ObjRel g w p o) : ObjRel g w' p o := by
  cases o with
  | cells ty ver sz es =>
    obtain ⟨h1, h2, h3, h4, cells, h5, h6, h7, h8⟩ := h
    exact ⟨h1, h2, h3, h4, cells, by rw [hw]; exact h5, h6, h7, h8⟩
  | map es =>
    obtain ⟨h1, entries, clock, h2, h3, h4⟩ := h
    exact ⟨h1, entries, clock, by rw [hw]; exact h2, h3, h4⟩

/-- The store is what memory holds. B, w0: the heap's size and the world when all began. -/
structure SR (B : Nat) (w0 : World) (σ : Store) (g : Ghost) (w : World) : Prop where
  below : Below B w0 w
  size : B ≤ w.heap.size
  phi : ∀ b cells, g.Φ b = some cells → ∃ t fr, w.heap[b]? = some (.cells cells t fr) ∧ ∀ ty, g.vis b = some ty → t = ty ∧ fr = (0, 0)
  next : g.next = σ.next
  objs : ∀ id o, σ.get id = some o → ∃ p, g.pl id = some p ∧ ObjRel g w p o
  inj : ∀ id id' p p', g.pl id = some p → g.pl id' = some p' → p.blk = p'.blk → id = id'
  apart : ∀ id p, g.pl id = some p → g.Φ p.blk = none
  fresh : ∀ id p, g.pl id = some p → B ≤ p.blk ∧ p.blk < w.heap.size ∧ id < g.next

theorem SR.drew {B : Nat} {w0 : World} {σ : Store} {g : Ghost} {w : World} (h : SR B w0 σ g w) : SR B w0 σ g w.drew :=
  ⟨h.below.drew, h.size, h.phi, h.next, fun id o e => by
    obtain ⟨p, hp, ho⟩ := h.objs id o e
    exact ⟨p, hp, ObjRel.world (w := w) (w' := w.drew) rfl ho⟩, h.inj, h.apart, h.fresh⟩

/-- A new block that nobody owns: garbage. -/
theorem SR.alloc {B : Nat} {w0 : World} {σ : Store} {g : Ghost} {w : World} (h : SR B w0 σ g w) (o : Obj) : SR B w0 σ g (w.alloc o) := by
  refine ⟨h.below.alloc h.size o, by simp; have := h.size; omega, fun b cells e => ?_, h.next, fun id x e => ?_, h.inj, h.apart, fun id p e => ?_⟩
  · obtain ⟨t, fr, hh, hpt⟩ := h.phi b cells e
    exact ⟨t, fr, by rw [heap_alloc_old w o b (Array.getElem?_eq_some_iff.1 hh).1]; exact hh, hpt⟩
  · obtain ⟨p, hp, ho⟩ := h.objs id x e
    exact ⟨p, hp, ho.world (heap_alloc_old w o _ (h.fresh id p hp).2.1)⟩
  · obtain ⟨a, b, c⟩ := h.fresh id p e
    exact ⟨a, by simp; omega, c⟩

/-- The block that has just been laid is frozen. -/
def Ghost.freeze (g : Ghost) (b : Nat) (cells : Array Value) : Ghost := { g with Φ := fun x => if x = b then some cells else g.Φ x, vis := fun x => if x = b then none else g.vis x }
theorem Ext.freeze {g : Ghost} {b : Nat} (cells : Array Value) (h : g.Φ b = none) : Ext g (g.freeze b cells) :=
  ⟨fun x c e => by
    have : x ≠ b := fun hx => by rw [hx, h] at e; cases e
    simp only [Ghost.freeze, this, if_false]; exact e, fun x c e => by
    have : x ≠ b := fun hx => by rw [hx, h] at e; cases e
    simp only [Ghost.freeze, this, if_false], Nat.le_refl _, fun id p' _ hp' => ⟨p', hp', .inl rfl⟩⟩
theorem SR.phi_none {B : Nat} {w0 : World} {σ : Store} {g : Ghost} {w : World} (h : SR B w0 σ g w) : g.Φ w.heap.size = none := by
  cases e : g.Φ w.heap.size with
  | none => rfl
  | some c =>
    obtain ⟨t, fr, hh, _⟩ := h.phi _ c e
    have := (Array.getElem?_eq_some_iff.1 hh).1
    omega
theorem SR.allocFrozen {B : Nat} {w0 : World} {σ : Store} {g : Ghost} {w : World} (h : SR B w0 σ g w) (cells : Array Value) (t : TypeId) :
    SR B w0 σ (g.freeze w.heap.size cells) (w.alloc (.cells cells t)) ∧ Ext g (g.freeze w.heap.size cells) := by
  have he : Ext g (g.freeze w.heap.size cells) := .freeze cells h.phi_none
  have h' := h.alloc (.cells cells t)
  refine ⟨⟨h'.below, h'.size, fun b c e => ?_, h'.next, fun id o e => ?_, h'.inj, fun id p e => ?_, h'.fresh⟩, he⟩
  · by_cases hb : b = w.heap.size
    · subst hb
      simp only [Ghost.freeze, if_true, Option.some.injEq] at e
      subst e
      exact ⟨t, (0, 0), heap_alloc_new w _, fun ty hty => by simp [Ghost.freeze] at hty⟩
    · simp only [Ghost.freeze, hb, if_false] at e ⊢
      exact h'.phi b c e
  · obtain ⟨p, hp, ho⟩ := h'.objs id o e
    exact ⟨p, hp, ho.ext he⟩
  · have hne : p.blk ≠ w.heap.size := Nat.ne_of_lt (h.fresh id p e).2.1
    simp only [Ghost.freeze, hne, if_false]
    exact h.apart id p e

/-- The block that has just been laid is a new owned object. -/
def Ghost.take (g : Ghost) (p : Place) : Ghost := { g with pl := fun x => if x = g.next then some p else g.pl x, next := g.next + 1 }
theorem Ext.take (g : Ghost) (p : Place) : Ext g (g.take p) :=
  ⟨fun _ _ e => e, fun _ _ _ => rfl, Nat.le_succ _, fun id p' hid hp' => by
    have : id ≠ g.next := by omega
    simp only [Ghost.take, this, if_false] at hp'
    exact ⟨p', hp', .inl rfl⟩⟩
theorem SR.allocOwned {B : Nat} {w0 : World} {σ : Store} {g : Ghost} {w : World} (h : SR B w0 σ g w) (x : Obj) (o : AObj) (p : Place) (hp : p.blk = w.heap.size)
    (ho : ObjRel g (w.alloc x) p o) : SR B w0 (σ.push o) (g.take p) (w.alloc x) := by
  have he := Ext.take g p
  have h' := h.alloc x
  refine ⟨h'.below, h'.size, h'.phi, by show g.next + 1 = σ.next + 1; rw [h.next], fun id y e => ?_, fun id id' q q' e e' hb => ?_, fun id q e => ?_, fun id q e => ?_⟩
  · rw [Store.get_push] at e
    by_cases hi : id = σ.next
    · subst hi
      simp only [if_true, Option.some.injEq] at e
      subst e
      exact ⟨p, by simp [Ghost.take, h.next], ho.ext he⟩
    · simp only [hi, if_false] at e
      obtain ⟨q, hq, hr⟩ := h'.objs id y e
      have : id ≠ g.next := by rw [h.next]; exact hi
      exact ⟨q, by simp only [Ghost.take, this, if_false]; exact hq, hr.ext he⟩
  · simp only [Ghost.take] at e e'
    split at e
    · rename_i h1
      split at e'
      · rename_i h2; rw [h1, h2]
      · cases e
        have := (h.fresh id' q' e').2.1
        omega
    · split at e'
      · cases e'
        have := (h.fresh id q e).2.1
        omega
      · exact h.inj id id' q q' e e' hb
  · simp only [Ghost.take] at e ⊢
    split at e
    · cases e; rw [hp]; exact h.phi_none
    · exact h.apart id q e
  · simp only [Ghost.take] at e ⊢
    split at e
    · rename_i h1
      cases e
      exact ⟨by rw [hp]; exact h.size, by simp [hp], by omega⟩
    · obtain ⟨a, b, c⟩ := h'.fresh id q e
      exact ⟨a, b, by omega⟩

/-- An object is written in its block: others stay. -/
theorem SR.write {B : Nat} {w0 : World} {σ : Store} {g : Ghost} {w w' : World} (h : SR B w0 σ g w) {id : Nat} {p : Place} (hp : g.pl id = some p) {o : AObj}
    (hsz : w.heap.size ≤ w'.heap.size) (hos : w'.os = w.os) (htape : w'.tape = w.tape) (hout : w'.output = w.output)
    (hblk : ∀ k, k < w.heap.size → k ≠ p.blk → w'.heap[k]? = w.heap[k]?) (ho : ObjRel g w' p o) : SR B w0 (σ.upd id o) g w' := by
  obtain ⟨hf1, hf2, hf3⟩ := h.fresh id p hp
  refine ⟨h.below.trans ⟨hos, htape, hout, hsz, fun k hk => hblk k (by have := h.size; omega) (by omega)⟩, by have := h.size; omega, fun b c e => ?_, h.next,
    fun j y e => ?_, h.inj, h.apart, fun j q e => ?_⟩
  · obtain ⟨t, fr, hh, hpt⟩ := h.phi b c e
    refine ⟨t, fr, ?_, hpt⟩
    rw [hblk b (Array.getElem?_eq_some_iff.1 hh).1 (fun hb => by have := h.apart id p hp; rw [← hb, e] at this; cases this)]
    exact hh
  · simp only [Store.upd] at e
    split at e
    · rename_i h1
      cases e
      exact ⟨p, by rw [h1.1]; exact hp, ho⟩
    · rename_i h1
      have hj : j ≠ id := fun hj => h1 ⟨hj, by rw [← h.next]; exact hf3⟩
      obtain ⟨q, hq, hr⟩ := h.objs j y e
      refine ⟨q, hq, hr.world (hblk q.blk (h.fresh j q hq).2.1 (fun hb => hj (h.inj j id q p hq hp hb)))⟩
  · obtain ⟨a, b, c⟩ := h.fresh j q e
    exact ⟨a, by omega, c⟩

/-- An object changes its place: a new version. -/
def Ghost.move (g : Ghost) (id : Nat) (p : Place) : Ghost := { g with pl := fun x => if x = id then some p else g.pl x }
theorem Ext.move {g : Ghost} {id : Nat} {p q : Place} (hq : g.pl id = some q) (hv : q.ver < p.ver) : Ext g (g.move id p) :=
  ⟨fun _ _ e => e, fun _ _ _ => rfl, Nat.le_refl _, fun j p' hj hp' => by
    simp only [Ghost.move] at hp'
    split at hp'
    · rename_i h; cases hp'; exact ⟨q, by rw [h]; exact hq, .inr hv⟩
    · exact ⟨p', hp', .inl rfl⟩⟩
theorem SR.moved {B : Nat} {w0 : World} {σ : Store} {g : Ghost} {w w' : World} (h : SR B w0 σ g w) {id : Nat} {q p : Place} (hq : g.pl id = some q) {o : AObj}
    (hv : q.ver < p.ver) (hb : p.blk = q.blk ∨ w.heap.size ≤ p.blk) (hb' : p.blk < w'.heap.size)
    (hsz : w.heap.size ≤ w'.heap.size) (hos : w'.os = w.os) (htape : w'.tape = w.tape) (hout : w'.output = w.output)
    (hblk : ∀ k, k < w.heap.size → k ≠ q.blk → w'.heap[k]? = w.heap[k]?) (ho : ObjRel (g.move id p) w' p o) : SR B w0 (σ.upd id o) (g.move id p) w' := by
  obtain ⟨hf1, hf2, hf3⟩ := h.fresh id q hq
  have he := Ext.move hq hv
  refine ⟨h.below.trans ⟨hos, htape, hout, hsz, fun k hk => hblk k (by have := h.size; omega) (by omega)⟩, by have := h.size; omega, fun b c e => ?_, h.next,
    fun j y e => ?_, fun i j r s e e' hb2 => ?_, fun j r e => ?_, fun j r e => ?_⟩
  · obtain ⟨t, fr, hh, hpt⟩ := h.phi b c e
    refine ⟨t, fr, ?_, hpt⟩
    rw [hblk b (Array.getElem?_eq_some_iff.1 hh).1 (fun hb => by have := h.apart id q hq; rw [← hb] at this; have e2 : g.Φ b = some c := e; rw [e2] at this; cases this)]
    exact hh
  · simp only [Store.upd] at e
    split at e
    · rename_i h1
      cases e
      exact ⟨p, by simp [Ghost.move, h1.1], ho⟩
    · rename_i h1
      have hj : j ≠ id := fun hj => h1 ⟨hj, by rw [← h.next]; exact hf3⟩
      obtain ⟨r, hr, hrr⟩ := h.objs j y e
      refine ⟨r, by simp only [Ghost.move, hj, if_false]; exact hr, (hrr.world (hblk r.blk (h.fresh j r hr).2.1 (fun hb => hj (h.inj j id r q hr hq hb)))).ext he⟩
  · simp only [Ghost.move] at e e'
    split at e
    · rename_i h1
      split at e'
      · rename_i h2; rw [h1, h2]
      · rename_i h2
        cases e
        have hs := h.fresh j s e'
        rcases hb with hb | hb
        · exact absurd (h.inj j id s q e' hq (by omega)) h2
        · omega
    · rename_i h1
      split at e'
      · cases e'
        have hs := h.fresh i r e
        rcases hb with hb | hb
        · exact absurd (h.inj i id r q e hq (by omega)) h1
        · omega
      · exact h.inj i j r s e e' hb2
  · simp only [Ghost.move] at e ⊢
    split at e
    · cases e
      rcases hb with hb | hb
      · rw [hb]; exact h.apart id q hq
      · cases e2 : g.Φ p.blk with
        | none => rfl
        | some c =>
          obtain ⟨t, fr, hh, _⟩ := h.phi _ c e2
          have := (Array.getElem?_eq_some_iff.1 hh).1
          omega
    · exact h.apart j r e
  · simp only [Ghost.move] at e ⊢
    split at e
    · rename_i h1
      cases e
      have hs := h.size
      exact ⟨by rcases hb with hb | hb <;> omega, hb', by rw [h1]; exact hf3⟩
    · obtain ⟨a, b, c⟩ := h.fresh j r e
      exact ⟨a, by omega, c⟩

/-- An object is forgotten; what led to it leads nowhere. -/
def Ghost.forget (g : Ghost) (id : Nat) : Ghost := { g with pl := fun x => if x = id then none else g.pl x }
theorem Ext.forget (g : Ghost) (id : Nat) : Ext g (g.forget id) :=
  ⟨fun _ _ e => e, fun _ _ _ => rfl, Nat.le_refl _, fun j p' hj hp' => by
    simp only [Ghost.forget] at hp'
    split at hp'
    · cases hp'
    · exact ⟨p', hp', .inl rfl⟩⟩
theorem SR.forget {B : Nat} {w0 : World} {σ : Store} {g : Ghost} {w : World} (h : SR B w0 σ g w) (id : Nat) : SR B w0 (σ.drop id) (g.forget id) w := by
  refine ⟨h.below, h.size, h.phi, h.next, fun j y e => ?_, fun i j r s e e' => ?_, fun j r e => ?_, fun j r e => ?_⟩
  · simp only [Store.drop] at e
    split at e
    · cases e
    · rename_i hj
      obtain ⟨p, hp, ho⟩ := h.objs j y e
      exact ⟨p, by simp only [Ghost.forget, hj, if_false]; exact hp, ho.ext (.forget g id)⟩
  · simp only [Ghost.forget] at e e'
    split at e
    · cases e
    · split at e'
      · cases e'
      · exact h.inj i j r s e e'
  · simp only [Ghost.forget] at e
    split at e
    · cases e
    · exact h.apart j r e
  · simp only [Ghost.forget] at e
    split at e
    · cases e
    · exact h.fresh j r e

/-- An owned object of cells is frozen. -/
theorem SR.frozen {B : Nat} {w0 : World} {σ : Store} {g : Ghost} {w : World} (h : SR B w0 σ g w) {id ver sz : Nat} {ty : TypeId} {es : List (List AV)}
    (hid : σ.get id = some (.cells ty ver sz es)) : ∃ g', SR B w0 (σ.drop id) g' w ∧ Ext g g' ∧
      ∀ off len v, off + len ≤ es.length → RelV g (.own id ver sz off len) v → RelV g' (.list ((es.drop off).take len)) v := by
  obtain ⟨p, hp, h1, h2, h3, h4, cells, h5, h6, h7, h8⟩ := h.objs id _ hid
  have hf := h.forget id
  have hpn : (g.forget id).Φ p.blk = none := h.apart id p hp
  have he : Ext (g.forget id) ((g.forget id).freeze p.blk cells) := .freeze cells hpn
  have he2 : Ext g ((g.forget id).freeze p.blk cells) := (Ext.forget g id).trans he
  refine ⟨(g.forget id).freeze p.blk cells, ⟨hf.below, hf.size, fun b c e => ?_, hf.next, fun j y e => ?_, hf.inj, fun j r e => ?_, hf.fresh⟩, he2, ?_⟩
  · simp only [Ghost.freeze] at e ⊢
    split at e
    · rename_i hb; cases e; rw [hb]; exact ⟨ty, (0, 0), h5, fun ty hty => by simp at hty⟩
    · rename_i hb; rw [if_neg hb]; exact hf.phi b c e
  · obtain ⟨q, hq, ho⟩ := hf.objs j y e
    exact ⟨q, hq, ho.ext he⟩
  · have : r.blk ≠ p.blk := fun hb => by
      simp only [Ghost.freeze, Ghost.forget] at e
      split at e
      · cases e
      · rename_i hj; exact hj (h.inj j id r p e hp hb)
    simp only [Ghost.freeze, this, if_false]
    exact hf.apart j r e
  · intro off len v hol hr
    cases hr with
    | own hid' hlen hv hr =>
      obtain ⟨-, hr⟩ := hr p hp
      obtain ⟨hsz, hcap, a, rfl, ha⟩ := hr h1
      by_cases hl : len = 0
      · subst hl; simp only [List.take_zero]; exact .listNil _ _
      · have ha' := ha (by right; omega)
        subst ha'
        have hle : ((es.drop off).take len).length = len := by simp; omega
        have hge : ∀ i e, ((es.drop off).take len)[i]? = some e → es[off + i]? = some e := by
          intro i e hi
          rw [List.getElem?_take] at hi
          split at hi
          · rw [List.getElem?_drop] at hi; exact hi
          · cases hi
        have key : RelV ((g.forget id).freeze p.blk cells) (.list ((es.drop off).take len)) (.slice (some ⟨p.blk, off * sz, none⟩) ((es.drop off).take len).length (p.cap - off)) := by
          refine .list (s := sz) (cells := cells) (by simp [Ghost.freeze]) (fun e hm => ?_) ?_ (fun i j e c hi hj => ?_) (fun i j e c hi hj => ?_) (by rw [hle]; omega) (by omega)
          · exact h7 e (List.mem_of_mem_drop (List.mem_of_mem_take hm))
          · rw [hle, h6, ← Nat.add_mul]; exact Nat.mul_le_mul_right _ hcap
          · have := (h8 (off + i) j e c (hge i e hi) hj).1
            rw [Nat.add_mul] at this
            exact this.ext he2
          · have := (h8 (off + i) j e c (hge i e hi) hj).2
            rw [Nat.add_mul] at this
            exact this
        rw [hle] at key
        exact key

end Go.AL
