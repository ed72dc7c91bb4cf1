/- A part of the proof of the claim (no condition of its own). -/
import Derived.Laws.AppendOwn
import Derived.Laws.MakeOwn
import Derived.Laws.StructEq
import Derived.Orders
import Derived.Below
import Derived.Maps.AppendAt
import Derived.Laws.AppendOwnNone
import Derived.Laws.BytesString
import Derived.ChangeKeysEq
import Derived.Lib.AppendStr
import Derived.Lib.Builder
import Derived.Lib.UnsafeStr
open Nat renaming reduceEqDiff → Za, reduceAdd → Zb, reduceLeDiff → Zc
open Int renaming reduceEq → Zd, reduceLT → Ze, reduceLE → Zf, reduceNeg → Zg, reduceAdd → Zh, reduceSub → Zi, reduceToNat → Zj
set_option linter.unusedVariables false
set_option linter.unusedSimpArgs false
namespace Go.AL
open Go.RowKit

inductive AV where
 | junk
 | bool (b : Bool)
 | int (k : IntKind) (n : Int)
 | str (s : ByteArray)
 | nilp
 | ptr (id ver i off : Nat)
 | rptr (cs : List AV) (off : Nat)
 | nils
 | list (es : List (List AV))
 | own (id ver sz off len : Nat)
 | nilm
 | map (id : Nat)
 | nilf
 | fn (f : Fn) (first captured : List AV)
 | agg (cs : List AV)
 | tuple (vs : List AV)
 deriving Inhabited


structure Place where
 ver : Nat
 blk : Nat
 sz : Nat
 cap : Nat

structure Ghost where
 Φ : Nat → Option (Array Value)
 /-- Of the blocks that stand still, those that no value leads to: their types. -/
 vis : Nat → Option TypeId
 pl : Nat → Option Place
 next : Nat

inductive RelV (g : Ghost) : AV → Value → Prop
 | junk (v : Value) : RelV g .junk v
 | bool (b : Bool) : RelV g (.bool b) (.bool b)
 | int (k : IntKind) (n : Int) : RelV g (.int k n) (.int k n)
 | str (s : ByteArray) (h : s.size ≤ maxLen) : RelV g (.str s) (.string s)
 | nilp : RelV g .nilp (.pointer none)
 | ptr {id ver i off : Nat} {v : Value} (hid : id < g.next)
  (h : ∀ p, g.pl id = some p → ver ≤ p.ver ∧ (p.ver = ver → v = .pointer (some ⟨p.blk, i * p.sz + off, none⟩))) (h1 : ∃ a, v = .pointer (some a)) : RelV g (.ptr id ver i off) v
 | rptr {cs : List AV} {off blk o : Nat} {cells : Array Value} (hΦ : g.Φ blk = some cells ∧ g.vis blk = none) (hb : o + cs.length ≤ cells.size)
  (hc : ∀ j c, cs[j]? = some c → RelV g c (cells.getD (o + j) undef)) (h1 : ∀ j c, cs[j]? = some c → (cells.getD (o + j) undef).oneCell' = true) :
  RelV g (.rptr cs off) (.pointer (some ⟨blk, o + off, none⟩))
 | nils : RelV g .nils (.slice none 0 0)
 | listNil (a : Option Addr) (cap : Nat) : RelV g (.list []) (.slice a 0 cap)
 | list {es : List (List AV)} {blk off cap s : Nat} {cells : Array Value} (hΦ : g.Φ blk = some cells ∧ g.vis blk = none) (hs : ∀ e, e ∈ es → e.length = s)
  (hb : off + es.length * s ≤ cells.size)
  (hc : ∀ (i j : Nat) (e : List AV) (c : AV), es[i]? = some e → e[j]? = some c → RelV g c (cells.getD (off + i * s + j) undef))
  (h1 : ∀ (i j : Nat) (e : List AV) (c : AV), es[i]? = some e → e[j]? = some c → (cells.getD (off + i * s + j) undef).oneCell' = true)
  (hn : es.length ≤ cap) (hcap : cap ≤ maxLen) : RelV g (.list es) (.slice (some ⟨blk, off, none⟩) es.length cap)
 | own {id ver sz off len : Nat} {v : Value} (hid : id < g.next) (hlen : len ≤ maxLen) (hv : ∃ a c, v = .slice (some a) len c)
  (h : ∀ p, g.pl id = some p → ver ≤ p.ver ∧ (p.ver = ver → p.sz = sz ∧ off + len ≤ p.cap ∧
   ∃ a, v = .slice (some a) len (p.cap - off) ∧ (off = 0 ∨ off < p.cap → a = ⟨p.blk, off * sz, none⟩))) : RelV g (.own id ver sz off len) v
 | nilm : RelV g .nilm (.map none)
 | map {id : Nat} {v : Value} (hid : id < g.next) (h : ∀ p, g.pl id = some p → p.ver = 0 → v = .map (some p.blk)) (h1 : ∃ r, v = .map (some r)) : RelV g (.map id) v
 | nilf : RelV g .nilf .nilFunc
 | fn {f : Fn} {fs cs : List AV} {fa ca : Array Value} (hf : fa.size = fs.length) (hc : ca.size = cs.length)
  (h : ∀ j c, fs[j]? = some c → RelV g c (fa.getD j undef)) (h' : ∀ j c, cs[j]? = some c → RelV g c (ca.getD j undef)) : RelV g (.fn f fs cs) (.func f fa ca)
 | agg {cs : List AV} {arr : Array Value} (hs : arr.size = cs.length) (hc : ∀ j c, cs[j]? = some c → RelV g c (arr.getD j undef))
  (h1 : ∀ j c, cs[j]? = some c → (arr.getD j undef).oneCell' = true) : RelV g (.agg cs) (.agg arr)
 | tuple {cs : List AV} {arr : Array Value} (hs : arr.size = cs.length) (hc : ∀ j c, cs[j]? = some c → RelV g c (arr.getD j undef)) : RelV g (.tuple cs) (.tuple arr)

structure Ext (g g' : Ghost) : Prop where
 phi : ∀ b c, g.Φ b = some c → g'.Φ b = some c
 see : ∀ b c, g.Φ b = some c → g'.vis b = g.vis b
 next : g.next ≤ g'.next
 pl : ∀ id p', id < g.next → g'.pl id = some p' → ∃ p, g.pl id = some p ∧ (p' = p ∨ p.ver < p'.ver)

theorem Ext.refl (g : Ghost) : Ext g g := ⟨fun _ _ h => h, fun _ _ _ => rfl, Nat.le_refl _, fun _ p' _ h => ⟨p', h, .inl rfl⟩⟩
theorem Ext.trans {a b c : Ghost} (h : Ext a b) (k : Ext b c) : Ext a c :=
 ⟨fun x y e => k.phi _ _ (h.phi _ _ e), fun x y e => (k.see _ _ (h.phi _ _ e)).trans (h.see _ _ e), Nat.le_trans h.next k.next, fun id p' hid hp' => by
  obtain ⟨p, hp, e⟩ := k.pl id p' (Nat.lt_of_lt_of_le hid h.next) hp'
  obtain ⟨q, hq, e'⟩ := h.pl id p hid hp
  refine ⟨q, hq, ?_⟩
  rcases e with rfl | e
  · exact e'
  · rcases e' with rfl | e'
    · exact .inr e
    · exact .inr (Nat.lt_trans e' e)⟩

theorem RelV.ext {g g' : Ghost} (he : Ext g g') {a : AV} {v : Value} (h : RelV g a v) : RelV g' a v := by
 induction h with
 | junk v => exact .junk v
 | bool b => exact .bool b
 | int k n => exact .int k n
 | str s h => exact .str s h
 | nilp => exact .nilp
 | ptr hid h h1 =>
  refine .ptr (Nat.lt_of_lt_of_le hid he.next) (fun p' hp' => ?_) h1
  obtain ⟨p, hp, e⟩ := he.pl _ p' hid hp'
  have := h p hp
  rcases e with rfl | e
  · exact this
  · exact ⟨by omega, fun e' => by omega⟩
 | rptr hΦ hb hc h1 ih => exact .rptr ⟨he.phi _ _ hΦ.1, (he.see _ _ hΦ.1).trans hΦ.2⟩ hb ih h1
 | nils => exact .nils
 | listNil a c => exact .listNil a c
 | list hΦ hs hb hc h1 hn hcap ih => exact .list ⟨he.phi _ _ hΦ.1, (he.see _ _ hΦ.1).trans hΦ.2⟩ hs hb ih h1 hn hcap
 | own hid hlen hv h =>
  refine .own (Nat.lt_of_lt_of_le hid he.next) hlen hv (fun p' hp' => ?_)
  obtain ⟨p, hp, e⟩ := he.pl _ p' hid hp'
  have := h p hp
  rcases e with rfl | e
  · exact this
  · exact ⟨by omega, fun e' => by omega⟩
 | nilm => exact .nilm
 | map hid h h1 =>
  refine .map (Nat.lt_of_lt_of_le hid he.next) (fun p' hp' e0 => ?_) h1
  obtain ⟨p, hp, e⟩ := he.pl _ p' hid hp'
  rcases e with rfl | e
  · exact h _ hp e0
  · omega
 | nilf => exact .nilf
 | fn hf hc h h' ih ih' => exact .fn hf hc ih ih'
 | agg hs hc h1 ih => exact .agg hs ih h1
 | tuple hs hc ih => exact .tuple hs ih

inductive AObj where
 | cells (ty : TypeId) (ver sz : Nat) (es : List (List AV))
 | map (es : List (AV × AV))

structure Store where
 next : Nat
 get : Nat → Option AObj
 wf : ∀ id, next ≤ id → get id = none

theorem Store.lt (σ : Store) {id : Nat} {o : AObj} (h : σ.get id = some o) : id < σ.next := by
 rcases Nat.lt_or_ge id σ.next with h' | h'
 · exact h'
 · rw [σ.wf id h'] at h; cases h

theorem Store.ext' {σ τ : Store} (h : σ.next = τ.next) (h' : σ.get = τ.get) : σ = τ := by
 cases σ; cases τ; simp_all

def Store.empty : Store := ⟨0, fun _ => none, fun _ _ => rfl⟩
def Store.push (σ : Store) (o : AObj) : Store := ⟨σ.next + 1, fun id => if id = σ.next then some o else σ.get id, fun id h => by
 have : id ≠ σ.next := by omega
 simp only [this, if_false]; exact σ.wf id (by omega)⟩
def Store.upd (σ : Store) (id : Nat) (o : AObj) : Store := ⟨σ.next, fun j => if j = id ∧ id < σ.next then some o else σ.get j, fun j h => by
 have : ¬ (j = id ∧ id < σ.next) := by omega
 simp only [this, if_false]; exact σ.wf j h⟩
def Store.drop (σ : Store) (id : Nat) : Store := ⟨σ.next, fun j => if j = id then none else σ.get j, fun j h => by
 by_cases e : j = id
 · simp only [e, if_true]
 · simp only [e, if_false]; exact σ.wf j h⟩

theorem Store.get_push (σ : Store) (o : AObj) (id : Nat) : (σ.push o).get id = if id = σ.next then some o else σ.get id := rfl
theorem Store.get_push_self (σ : Store) (o : AObj) : (σ.push o).get σ.next = some o := by simp [Store.push]
theorem Store.get_push_lt (σ : Store) (o : AObj) {id : Nat} (h : id < σ.next) : (σ.push o).get id = σ.get id := by
 simp [Store.push, Nat.ne_of_lt h]
theorem Store.get_upd_self (σ : Store) (o : AObj) {id : Nat} (h : id < σ.next) : (σ.upd id o).get id = some o := by simp [Store.upd, h]
theorem Store.get_upd_ne (σ : Store) (o : AObj) {id j : Nat} (h : j ≠ id) : (σ.upd id o).get j = σ.get j := by simp [Store.upd, h]
theorem Store.upd_push_self (σ : Store) (o o' : AObj) : (σ.push o).upd σ.next o' = σ.push o' :=
 Store.ext' rfl (funext fun j => by
  simp only [Store.upd, Store.push]
  by_cases h : j = σ.next <;> simp [h])
theorem Store.upd_push_lt (σ : Store) (o o' : AObj) {id : Nat} (h : id < σ.next) : (σ.push o).upd id o' = (σ.upd id o').push o :=
 Store.ext' rfl (funext fun j => by
  simp only [Store.upd, Store.push]
  by_cases h1 : j = id
  · subst h1; simp [h, Nat.ne_of_lt h, Nat.lt_succ_of_lt h]
  · simp [h1])
theorem Store.upd_upd (σ : Store) (o o' : AObj) {id : Nat} : (σ.upd id o).upd id o' = σ.upd id o' :=
 Store.ext' rfl (funext fun j => by
  simp only [Store.upd]
  by_cases h1 : j = id ∧ id < σ.next <;> simp [h1])

def ObjRel (g : Ghost) (w : World) (p : Place) : AObj → Prop
 | .cells ty ver sz es => p.ver = ver ∧ p.sz = sz ∧ es.length ≤ p.cap ∧ p.cap ≤ maxLen ∧ ∃ cells, w.heap[p.blk]? = some (.cells cells ty (0, 0)) ∧
  cells.size = p.cap * sz ∧ (∀ e, e ∈ es → e.length = sz) ∧
  (∀ (i j : Nat) (e : List AV) (c : AV), es[i]? = some e → e[j]? = some c → RelV g c (cells.getD (i * sz + j) undef) ∧ (cells.getD (i * sz + j) undef).oneCell' = true)
 | .map es => p.ver = 0 ∧ ∃ entries clock, w.heap[p.blk]? = some (.map entries clock) ∧ entries.size = es.length ∧
  (∀ (i : Nat) (k v : AV), es[i]? = some (k, v) → ∃ e : MapEntry, entries[i]? = some e ∧ RelV g k e.key ∧ RelV g v e.val)

theorem ObjRel.ext {g g' : Ghost} (he : Ext g g') {w : World} {p : Place} {o : AObj} (h : ObjRel g w p o) : ObjRel g' w p o := by
 cases o with
 | cells ty ver sz es =>
  obtain ⟨h1, h2, h3, h4, cells, h5, h6, h7, h8⟩ := h
  exact ⟨h1, h2, h3, h4, cells, h5, h6, h7, fun i j e c a b => ⟨(h8 i j e c a b).1.ext he, (h8 i j e c a b).2⟩⟩
 | map es =>
  obtain ⟨h1, entries, clock, h2, h3, h4⟩ := h
  refine ⟨h1, entries, clock, h2, h3, fun i k v a => ?_⟩
  obtain ⟨e, x, y, z⟩ := h4 i k v a
  exact ⟨e, x, y.ext he, z.ext he⟩

theorem ObjRel.world {g : Ghost} {w w' : World} {p : Place} {o : AObj} (hw : w'.heap[p.blk]? = w.heap[p.blk]?) (h : ObjRel g w p o) : ObjRel g w' p o := by
 cases o with
 | cells ty ver sz es =>
  obtain ⟨h1, h2, h3, h4, cells, h5, h6, h7, h8⟩ := h
  exact ⟨h1, h2, h3, h4, cells, by rw [hw]; exact h5, h6, h7, h8⟩
 | map es =>
  obtain ⟨h1, entries, clock, h2, h3, h4⟩ := h
  exact ⟨h1, entries, clock, by rw [hw]; exact h2, h3, h4⟩

structure SR (B : Nat) (w0 : World) (σ : Store) (g : Ghost) (w : World) : Prop where
 below : Below B w0 w
 size : B ≤ w.heap.size
 phi : ∀ b cells, g.Φ b = some cells → ∃ t fr, w.heap[b]? = some (.cells cells t fr) ∧ ∀ ty, g.vis b = some ty → t = ty ∧ fr = (0, 0)
 next : g.next = σ.next
 objs : ∀ id o, σ.get id = some o → ∃ p, g.pl id = some p ∧ ObjRel g w p o
 inj : ∀ id id' p p', g.pl id = some p → g.pl id' = some p' → p.blk = p'.blk → id = id'
 apart : ∀ id p, g.pl id = some p → g.Φ p.blk = none
 fresh : ∀ id p, g.pl id = some p → B ≤ p.blk ∧ p.blk < w.heap.size ∧ id < g.next

theorem SR.drew {B : Nat} {w0 : World} {σ : Store} {g : Ghost} {w : World} (h : SR B w0 σ g w) : SR B w0 σ g w.drew :=
 ⟨h.below.drew, h.size, h.phi, h.next, fun id o e => by
  obtain ⟨p, hp, ho⟩ := h.objs id o e
  exact ⟨p, hp, ObjRel.world (w := w) (w' := w.drew) rfl ho⟩, h.inj, h.apart, h.fresh⟩

theorem SR.alloc {B : Nat} {w0 : World} {σ : Store} {g : Ghost} {w : World} (h : SR B w0 σ g w) (o : Obj) : SR B w0 σ g (w.alloc o) := by
 refine ⟨h.below.alloc h.size o, by simp; have := h.size; omega, fun b cells e => ?_, h.next, fun id x e => ?_, h.inj, h.apart, fun id p e => ?_⟩
 · obtain ⟨t, fr, hh, hpt⟩ := h.phi b cells e
   exact ⟨t, fr, by rw [heap_alloc_old w o b (Array.getElem?_eq_some_iff.1 hh).1]; exact hh, hpt⟩
 · obtain ⟨p, hp, ho⟩ := h.objs id x e
   exact ⟨p, hp, ho.world (heap_alloc_old w o _ (h.fresh id p hp).2.1)⟩
 · obtain ⟨a, b, c⟩ := h.fresh id p e
   exact ⟨a, by simp; omega, c⟩

def Ghost.freeze (g : Ghost) (b : Nat) (cells : Array Value) : Ghost := { g with Φ := fun x => if x = b then some cells else g.Φ x, vis := fun x => if x = b then none else g.vis x }
theorem Ext.freeze {g : Ghost} {b : Nat} (cells : Array Value) (h : g.Φ b = none) : Ext g (g.freeze b cells) :=
 ⟨fun x c e => by
  have : x ≠ b := fun hx => by rw [hx, h] at e; cases e
  simp only [Ghost.freeze, this, if_false]; exact e, fun x c e => by
  have : x ≠ b := fun hx => by rw [hx, h] at e; cases e
  simp only [Ghost.freeze, this, if_false], Nat.le_refl _, fun id p' _ hp' => ⟨p', hp', .inl rfl⟩⟩
theorem SR.phi_none {B : Nat} {w0 : World} {σ : Store} {g : Ghost} {w : World} (h : SR B w0 σ g w) : g.Φ w.heap.size = none := by
 cases e : g.Φ w.heap.size with
 | none => rfl
 | some c =>
  obtain ⟨t, fr, hh, _⟩ := h.phi _ c e
  have := (Array.getElem?_eq_some_iff.1 hh).1
  omega
theorem SR.allocFrozen {B : Nat} {w0 : World} {σ : Store} {g : Ghost} {w : World} (h : SR B w0 σ g w) (cells : Array Value) (t : TypeId) :
 SR B w0 σ (g.freeze w.heap.size cells) (w.alloc (.cells cells t)) ∧ Ext g (g.freeze w.heap.size cells) := by
 have he : Ext g (g.freeze w.heap.size cells) := .freeze cells h.phi_none
 have h' := h.alloc (.cells cells t)
 refine ⟨⟨h'.below, h'.size, fun b c e => ?_, h'.next, fun id o e => ?_, h'.inj, fun id p e => ?_, h'.fresh⟩, he⟩
 · by_cases hb : b = w.heap.size
   · subst hb
     simp only [Ghost.freeze, if_true, Option.some.injEq] at e
     subst e
     exact ⟨t, (0, 0), heap_alloc_new w _, fun ty hty => by simp [Ghost.freeze] at hty⟩
   · simp only [Ghost.freeze, hb, if_false] at e ⊢
     exact h'.phi b c e
 · obtain ⟨p, hp, ho⟩ := h'.objs id o e
   exact ⟨p, hp, ho.ext he⟩
 · have hne : p.blk ≠ w.heap.size := Nat.ne_of_lt (h.fresh id p e).2.1
   simp only [Ghost.freeze, hne, if_false]
   exact h.apart id p e

def Ghost.take (g : Ghost) (p : Place) : Ghost := { g with pl := fun x => if x = g.next then some p else g.pl x, next := g.next + 1 }
theorem Ext.take (g : Ghost) (p : Place) : Ext g (g.take p) :=
 ⟨fun _ _ e => e, fun _ _ _ => rfl, Nat.le_succ _, fun id p' hid hp' => by
  have : id ≠ g.next := by omega
  simp only [Ghost.take, this, if_false] at hp'
  exact ⟨p', hp', .inl rfl⟩⟩
theorem SR.allocOwned {B : Nat} {w0 : World} {σ : Store} {g : Ghost} {w : World} (h : SR B w0 σ g w) (x : Obj) (o : AObj) (p : Place) (hp : p.blk = w.heap.size)
 (ho : ObjRel g (w.alloc x) p o) : SR B w0 (σ.push o) (g.take p) (w.alloc x) := by
 have he := Ext.take g p
 have h' := h.alloc x
 refine ⟨h'.below, h'.size, h'.phi, by show g.next + 1 = σ.next + 1; rw [h.next], fun id y e => ?_, fun id id' q q' e e' hb => ?_, fun id q e => ?_, fun id q e => ?_⟩
 · rw [Store.get_push] at e
   by_cases hi : id = σ.next
   · subst hi
     simp only [if_true, Option.some.injEq] at e
     subst e
     exact ⟨p, by simp [Ghost.take, h.next], ho.ext he⟩
   · simp only [hi, if_false] at e
     obtain ⟨q, hq, hr⟩ := h'.objs id y e
     have : id ≠ g.next := by rw [h.next]; exact hi
     exact ⟨q, by simp only [Ghost.take, this, if_false]; exact hq, hr.ext he⟩
 · simp only [Ghost.take] at e e'
   split at e
   · rename_i h1
     split at e'
     · rename_i h2; rw [h1, h2]
     · cases e
       have := (h.fresh id' q' e').2.1
       omega
   · split at e'
     · cases e'
       have := (h.fresh id q e).2.1
       omega
     · exact h.inj id id' q q' e e' hb
 · simp only [Ghost.take] at e ⊢
   split at e
   · cases e; rw [hp]; exact h.phi_none
   · exact h.apart id q e
 · simp only [Ghost.take] at e ⊢
   split at e
   · rename_i h1
     cases e
     exact ⟨by rw [hp]; exact h.size, by simp [hp], by omega⟩
   · obtain ⟨a, b, c⟩ := h'.fresh id q e
     exact ⟨a, b, by omega⟩

theorem SR.write {B : Nat} {w0 : World} {σ : Store} {g : Ghost} {w w' : World} (h : SR B w0 σ g w) {id : Nat} {p : Place} (hp : g.pl id = some p) {o : AObj}
 (hsz : w.heap.size ≤ w'.heap.size) (hos : w'.os = w.os) (htape : w'.tape = w.tape) (hout : w'.output = w.output)
 (hblk : ∀ k, k < w.heap.size → k ≠ p.blk → w'.heap[k]? = w.heap[k]?) (ho : ObjRel g w' p o) : SR B w0 (σ.upd id o) g w' := by
 obtain ⟨hf1, hf2, hf3⟩ := h.fresh id p hp
 refine ⟨h.below.trans ⟨hos, htape, hout, hsz, fun k hk => hblk k (by have := h.size; omega) (by omega)⟩, by have := h.size; omega, fun b c e => ?_, h.next,
  fun j y e => ?_, h.inj, h.apart, fun j q e => ?_⟩
 · obtain ⟨t, fr, hh, hpt⟩ := h.phi b c e
   refine ⟨t, fr, ?_, hpt⟩
   rw [hblk b (Array.getElem?_eq_some_iff.1 hh).1 (fun hb => by have := h.apart id p hp; rw [← hb, e] at this; cases this)]
   exact hh
 · simp only [Store.upd] at e
   split at e
   · rename_i h1
     cases e
     exact ⟨p, by rw [h1.1]; exact hp, ho⟩
   · rename_i h1
     have hj : j ≠ id := fun hj => h1 ⟨hj, by rw [← h.next]; exact hf3⟩
     obtain ⟨q, hq, hr⟩ := h.objs j y e
     refine ⟨q, hq, hr.world (hblk q.blk (h.fresh j q hq).2.1 (fun hb => hj (h.inj j id q p hq hp hb)))⟩
 · obtain ⟨a, b, c⟩ := h.fresh j q e
   exact ⟨a, by omega, c⟩

def Ghost.move (g : Ghost) (id : Nat) (p : Place) : Ghost := { g with pl := fun x => if x = id then some p else g.pl x }
theorem Ext.move {g : Ghost} {id : Nat} {p q : Place} (hq : g.pl id = some q) (hv : q.ver < p.ver) : Ext g (g.move id p) :=
 ⟨fun _ _ e => e, fun _ _ _ => rfl, Nat.le_refl _, fun j p' hj hp' => by
  simp only [Ghost.move] at hp'
  split at hp'
  · rename_i h; cases hp'; exact ⟨q, by rw [h]; exact hq, .inr hv⟩
  · exact ⟨p', hp', .inl rfl⟩⟩
theorem SR.moved {B : Nat} {w0 : World} {σ : Store} {g : Ghost} {w w' : World} (h : SR B w0 σ g w) {id : Nat} {q p : Place} (hq : g.pl id = some q) {o : AObj}
 (hv : q.ver < p.ver) (hb : p.blk = q.blk ∨ w.heap.size ≤ p.blk) (hb' : p.blk < w'.heap.size)
 (hsz : w.heap.size ≤ w'.heap.size) (hos : w'.os = w.os) (htape : w'.tape = w.tape) (hout : w'.output = w.output)
 (hblk : ∀ k, k < w.heap.size → k ≠ q.blk → w'.heap[k]? = w.heap[k]?) (ho : ObjRel (g.move id p) w' p o) : SR B w0 (σ.upd id o) (g.move id p) w' := by
 obtain ⟨hf1, hf2, hf3⟩ := h.fresh id q hq
 have he := Ext.move hq hv
 refine ⟨h.below.trans ⟨hos, htape, hout, hsz, fun k hk => hblk k (by have := h.size; omega) (by omega)⟩, by have := h.size; omega, fun b c e => ?_, h.next,
  fun j y e => ?_, fun i j r s e e' hb2 => ?_, fun j r e => ?_, fun j r e => ?_⟩
 · obtain ⟨t, fr, hh, hpt⟩ := h.phi b c e
   refine ⟨t, fr, ?_, hpt⟩
   rw [hblk b (Array.getElem?_eq_some_iff.1 hh).1 (fun hb => by have := h.apart id q hq; rw [← hb] at this; have e2 : g.Φ b = some c := e; rw [e2] at this; cases this)]
   exact hh
 · simp only [Store.upd] at e
   split at e
   · rename_i h1
     cases e
     exact ⟨p, by simp [Ghost.move, h1.1], ho⟩
   · rename_i h1
     have hj : j ≠ id := fun hj => h1 ⟨hj, by rw [← h.next]; exact hf3⟩
     obtain ⟨r, hr, hrr⟩ := h.objs j y e
     refine ⟨r, by simp only [Ghost.move, hj, if_false]; exact hr, (hrr.world (hblk r.blk (h.fresh j r hr).2.1 (fun hb => hj (h.inj j id r q hr hq hb)))).ext he⟩
 · simp only [Ghost.move] at e e'
   split at e
   · rename_i h1
     split at e'
     · rename_i h2; rw [h1, h2]
     · rename_i h2
       cases e
       have hs := h.fresh j s e'
       rcases hb with hb | hb
       · exact absurd (h.inj j id s q e' hq (by omega)) h2
       · omega
   · rename_i h1
     split at e'
     · cases e'
       have hs := h.fresh i r e
       rcases hb with hb | hb
       · exact absurd (h.inj i id r q e hq (by omega)) h1
       · omega
     · exact h.inj i j r s e e' hb2
 · simp only [Ghost.move] at e ⊢
   split at e
   · cases e
     rcases hb with hb | hb
     · rw [hb]; exact h.apart id q hq
     · cases e2 : g.Φ p.blk with
       | none => rfl
       | some c =>
        obtain ⟨t, fr, hh, _⟩ := h.phi _ c e2
        have := (Array.getElem?_eq_some_iff.1 hh).1
        omega
   · exact h.apart j r e
 · simp only [Ghost.move] at e ⊢
   split at e
   · rename_i h1
     cases e
     have hs := h.size
     exact ⟨by rcases hb with hb | hb <;> omega, hb', by rw [h1]; exact hf3⟩
   · obtain ⟨a, b, c⟩ := h.fresh j r e
     exact ⟨a, by omega, c⟩

def Ghost.forget (g : Ghost) (id : Nat) : Ghost := { g with pl := fun x => if x = id then none else g.pl x }
theorem Ext.forget (g : Ghost) (id : Nat) : Ext g (g.forget id) :=
 ⟨fun _ _ e => e, fun _ _ _ => rfl, Nat.le_refl _, fun j p' hj hp' => by
  simp only [Ghost.forget] at hp'
  split at hp'
  · cases hp'
  · exact ⟨p', hp', .inl rfl⟩⟩
theorem SR.forget {B : Nat} {w0 : World} {σ : Store} {g : Ghost} {w : World} (h : SR B w0 σ g w) (id : Nat) : SR B w0 (σ.drop id) (g.forget id) w := by
 refine ⟨h.below, h.size, h.phi, h.next, fun j y e => ?_, fun i j r s e e' => ?_, fun j r e => ?_, fun j r e => ?_⟩
 · simp only [Store.drop] at e
   split at e
   · cases e
   · rename_i hj
     obtain ⟨p, hp, ho⟩ := h.objs j y e
     exact ⟨p, by simp only [Ghost.forget, hj, if_false]; exact hp, ho.ext (.forget g id)⟩
 · simp only [Ghost.forget] at e e'
   split at e
   · cases e
   · split at e'
     · cases e'
     · exact h.inj i j r s e e'
 · simp only [Ghost.forget] at e
   split at e
   · cases e
   · exact h.apart j r e
 · simp only [Ghost.forget] at e
   split at e
   · cases e
   · exact h.fresh j r e

theorem SR.frozen {B : Nat} {w0 : World} {σ : Store} {g : Ghost} {w : World} (h : SR B w0 σ g w) {id ver sz : Nat} {ty : TypeId} {es : List (List AV)}
 (hid : σ.get id = some (.cells ty ver sz es)) : ∃ g', SR B w0 (σ.drop id) g' w ∧ Ext g g' ∧
  ∀ off len v, off + len ≤ es.length → RelV g (.own id ver sz off len) v → RelV g' (.list ((es.drop off).take len)) v := by
 obtain ⟨p, hp, h1, h2, h3, h4, cells, h5, h6, h7, h8⟩ := h.objs id _ hid
 have hf := h.forget id
 have hpn : (g.forget id).Φ p.blk = none := h.apart id p hp
 have he : Ext (g.forget id) ((g.forget id).freeze p.blk cells) := .freeze cells hpn
 have he2 : Ext g ((g.forget id).freeze p.blk cells) := (Ext.forget g id).trans he
 refine ⟨(g.forget id).freeze p.blk cells, ⟨hf.below, hf.size, fun b c e => ?_, hf.next, fun j y e => ?_, hf.inj, fun j r e => ?_, hf.fresh⟩, he2, ?_⟩
 · simp only [Ghost.freeze] at e ⊢
   split at e
   · rename_i hb; cases e; rw [hb]; exact ⟨ty, (0, 0), h5, fun ty hty => by simp at hty⟩
   · rename_i hb; rw [if_neg hb]; exact hf.phi b c e
 · obtain ⟨q, hq, ho⟩ := hf.objs j y e
   exact ⟨q, hq, ho.ext he⟩
 · have : r.blk ≠ p.blk := fun hb => by
    simp only [Ghost.freeze, Ghost.forget] at e
    split at e
    · cases e
    · rename_i hj; exact hj (h.inj j id r p e hp hb)
   simp only [Ghost.freeze, this, if_false]
   exact hf.apart j r e
 · intro off len v hol hr
   cases hr with
   | own hid' hlen hv hr =>
    obtain ⟨-, hr⟩ := hr p hp
    obtain ⟨hsz, hcap, a, rfl, ha⟩ := hr h1
    by_cases hl : len = 0
    · subst hl; simp only [List.take_zero]; exact .listNil _ _
    · have ha' := ha (by right; omega)
      subst ha'
      have hle : ((es.drop off).take len).length = len := by simp; omega
      have hge : ∀ i e, ((es.drop off).take len)[i]? = some e → es[off + i]? = some e := by
       intro i e hi
       rw [List.getElem?_take] at hi
       split at hi
       · rw [List.getElem?_drop] at hi; exact hi
       · cases hi
      have key : RelV ((g.forget id).freeze p.blk cells) (.list ((es.drop off).take len)) (.slice (some ⟨p.blk, off * sz, none⟩) ((es.drop off).take len).length (p.cap - off)) := by
       refine .list (s := sz) (cells := cells) (by simp [Ghost.freeze]) (fun e hm => ?_) ?_ (fun i j e c hi hj => ?_) (fun i j e c hi hj => ?_) (by rw [hle]; omega) (by omega)
       · exact h7 e (List.mem_of_mem_drop (List.mem_of_mem_take hm))
       · rw [hle, h6, ← Nat.add_mul]; exact Nat.mul_le_mul_right _ hcap
       · have := (h8 (off + i) j e c (hge i e hi) hj).1
         rw [Nat.add_mul] at this
         exact this.ext he2
       · have := (h8 (off + i) j e c (hge i e hi) hj).2
         rw [Nat.add_mul] at this
         exact this
      rw [hle] at key
      exact key

end Go.AL
set_option linter.unusedVariables false
set_option linter.unusedSimpArgs false
namespace Go.AL
open Go.RowKit

def AV.cellsOf : AV → Option (List AV)
 | .junk => none
 | .tuple _ => none
 | .agg cs => some cs
 | v => some [v]

def AV.isCell : AV → Bool
 | .junk => false
 | .tuple _ => false
 | .agg _ => false
 | _ => true

def CellsRel (g : Ghost) (cs : List AV) (vs : List Value) : Prop :=
 vs.length = cs.length ∧ ∀ j c, cs[j]? = some c → RelV g c (vs.getD j undef) ∧ (vs.getD j undef).oneCell' = true

theorem CellsRel.one {g : Ghost} {cs : List AV} {vs : List Value} (h : CellsRel g cs vs) : ∀ v ∈ vs, v.oneCell' = true := by
 intro v hv
 obtain ⟨j, hj, rfl⟩ := List.getElem_of_mem hv
 have hc : j < cs.length := by rw [← h.1]; exact hj
 have := (h.2 j _ (List.getElem?_eq_getElem hc)).2
 rwa [List.getD_eq_getElem?_getD, List.getElem?_eq_getElem hj] at this

theorem RelV.one {g : Ghost} {a : AV} {v : Value} (h : RelV g a v) (hc : a.isCell = true) : v.oneCell' = true := by
 cases h <;> first | rfl | (simp [AV.isCell] at hc; done) | skip
 case ptr hid hp h1 => obtain ⟨a, rfl⟩ := h1; rfl
 case own hid hlen hv hp => obtain ⟨a, c, rfl⟩ := hv; rfl
 case map hid hp h1 => obtain ⟨r, rfl⟩ := h1; rfl

theorem RelV.cellsRel {g : Ghost} {a : AV} {v : Value} {cs : List AV} (h : RelV g a v) (hc : a.cellsOf = some cs) : CellsRel g cs v.cells.toList := by
 by_cases hcell : a.isCell = true
 · have h1 := h.one hcell
   have hcs : cs = [a] := by cases a <;> simp_all [AV.cellsOf, AV.isCell]
   have hv : v.cells = #[v] := by cases v <;> simp_all [Value.cells, Value.oneCell']
   subst hcs
   rw [hv]
   refine ⟨rfl, fun j c e => ?_⟩
   match j, e with
   | 0, e => simp at e; subst e; exact ⟨by simpa using h, by simpa using h1⟩
   | j + 1, e => simp at e
 · cases h <;> first | (simp [AV.isCell] at hcell; done) | (simp [AV.cellsOf] at hc; done) | skip
   case agg hs hcc h1 =>
    simp [AV.cellsOf] at hc
    subst hc
    refine ⟨by simpa [Value.cells] using hs, fun j c e => ⟨by simpa [Value.cells] using hcc j c e, by simpa [Value.cells] using h1 j c e⟩⟩

theorem RelV.ofCells {g : Ghost} {cs : List AV} {vs : List Value} (h : CellsRel g cs vs) : RelV g (.agg cs) (.agg vs.toArray) :=
 .agg (by simpa using h.1) (fun j c e => by simpa using (h.2 j c e).1) (fun j c e => by simpa using (h.2 j c e).2)

def OpOK (P : Program) (B : Nat) (w0 : World) (g : Ghost) (w : World) (s : Sem Next) (r : AV) (σ' : Store) : Prop :=
 ∃ nx w' g', s.run P w = .ok nx w' ∧ Ext g g' ∧ SR B w0 σ' g' w' ∧ ((∃ v, nx = .value v ∧ RelV g' r v) ∨ (nx = .skip ∧ r = .junk))

section
variable {P : Program} {B : Nat} {w0 : World} {σ : Store} {g : Ghost} {w : World}

theorem OpOK.value {s : Sem Value} {r : AV} {v : Value} (h : SR B w0 σ g w) (hs : s.run P w = .ok v w) (hr : RelV g r v) :
 OpOK P B w0 g w (do pure (.value (← s))) r σ :=
 ⟨.value v, w, g, by simp [hs], .refl g, h, .inl ⟨v, rfl, hr⟩⟩
theorem OpOK.value' {s : Sem Value} {r : AV} {v : Value} {w' : World} {g' : Ghost} {σ' : Store} (hs : s.run P w = .ok v w') (he : Ext g g') (h : SR B w0 σ' g' w') (hr : RelV g' r v) :
 OpOK P B w0 g w (do pure (.value (← s))) r σ' :=
 ⟨.value v, w', g', by simp [hs], he, h, .inl ⟨v, rfl, hr⟩⟩
theorem OpOK.skip {s : Sem Unit} {w' : World} {g' : Ghost} {σ' : Store} (hs : s.run P w = .ok () w') (he : Ext g g') (h : SR B w0 σ' g' w') :
 OpOK P B w0 g w (do s; pure .skip) .junk σ' :=
 ⟨.skip, w', g', by simp [hs], he, h, .inr ⟨rfl, rfl⟩⟩

/-! ### New variables -/
theorem run_newVar (t : TypeId) (v : Value) : (newVar t v).run P w = .ok ⟨w.heap.size, 0, none⟩ (w.alloc (.cells v.cells t)) := by
 simp [newVar, newRow]
theorem SR.newObj (h : SR B w0 σ g w) {cs : List AV} {vs : List Value} (hc : CellsRel g cs vs) (ty : TypeId) :
 SR B w0 (σ.push (.cells ty 0 cs.length [cs])) (g.take ⟨0, w.heap.size, cs.length, 1⟩) (w.alloc (.cells vs.toArray ty)) :=
 h.allocOwned _ _ ⟨0, w.heap.size, cs.length, 1⟩ rfl ⟨rfl, rfl, by simp, by simp [maxLen], vs.toArray, heap_alloc_new w _, by simp [hc.1], by simp, fun i j e c hi hj => by
  match i, hi with
  | 0, hi =>
   simp at hi
   subst hi
   have := hc.2 j c hj
   simpa using this
  | i + 1, hi => simp at hi⟩
theorem RelV.newPtr (h : SR B w0 σ g w) {sz cap : Nat} : RelV (g.take ⟨0, w.heap.size, sz, cap⟩) (.ptr σ.next 0 0 0) (.pointer (some ⟨w.heap.size, 0, none⟩)) :=
 .ptr (by simp [Ghost.take, h.next]) (fun p hp => by
  simp [Ghost.take, h.next] at hp
  subst hp
  simp) ⟨_, rfl⟩
theorem op_new (h : SR B w0 σ g w) {x : AV} {v : Value} {cs : List AV} (hx : RelV g x v) (hc : x.cellsOf = some cs) (ty : TypeId) :
 OpOK P B w0 g w (do pure (.value (← Instr.box ty v))) (.ptr σ.next 0 0 0) (σ.push (.cells ty 0 cs.length [cs])) := by
 have hcr := hx.cellsRel hc
 refine OpOK.value' (v := .pointer (some ⟨w.heap.size, 0, none⟩)) (w' := w.alloc (.cells v.cells ty)) ?_ (.take g _) (by simpa using h.newObj hcr ty) (RelV.newPtr h)
 simp [Instr.box, run_newVar]
theorem op_alloc (h : SR B w0 σ g w) {x : AV} {v : Value} {cs : List AV} {i : TypeInfo} (hx : RelV g x v) (hc : x.cellsOf = some cs) (ty : TypeId) (hi : P.info? ty = some i) (hz : i.zero = some v) :
 OpOK P B w0 g w (do pure (.value (← Instr.alloc ty true (.tuple #[])))) (.ptr σ.next 0 0 0) (σ.push (.cells ty 0 cs.length [cs])) := by
 have hcr := hx.cellsRel hc
 refine OpOK.value' (v := .pointer (some ⟨w.heap.size, 0, none⟩)) (w' := w.alloc (.cells v.cells ty)) ?_ (.take g _) (by simpa using h.newObj hcr ty) (RelV.newPtr h)
 simp [Instr.alloc, zeroValue, typeInfo, hi, hz, run_newVar]

/-! ### Loads -/
theorem run_loadCells_row {b off n : Nat} {C : Array Value} {t : TypeId} {fr : Nat × Nat} (hb : w.heap[b]? = some (.cells C t fr)) (hn : off + n ≤ C.size) :
 (loadCells ⟨b, off, none⟩ n).run P w = .ok ((C.toList.drop off).take n).toArray w := by
 have hl : ((C.toList.drop off).take n).length = n := by simp; omega
 have := run_loadCells_list (P := P) w ⟨b, off, none⟩ ((C.toList.drop off).take n) (fun j v hv => by
  have hadd : (⟨b, off, none⟩ : Addr).add j = ⟨b, off + j, none⟩ := by unfold Addr.add; split <;> simp_all
  rw [hadd, cell_of_row w b (off + j) C t fr hb]
  rw [List.getElem?_take] at hv
  split at hv
  · rw [List.getElem?_drop] at hv; simpa using hv
  · cases hv)
 rwa [hl] at this
theorem run_load_row {b off : Nat} {C : Array Value} {t : TypeId} {fr : Nat × Nat} (hb : w.heap[b]? = some (.cells C t fr)) (hn : off < C.size) :
 (load ⟨b, off, none⟩).run P w = .ok (C.getD off undef) w := by
 simp [run_load, cell_of_row w b off C t fr hb, hn]

def aggD : TypeDesc → Bool
 | .struct _ => true
 | .array _ _ => true
 | _ => false
theorem run_isAgg {t : TypeId} {d : TypeDesc} (hu : P.underlying t = some d) : (isAgg t).run P w = .ok (aggD d) w := by
 unfold isAgg
 rw [Sem.run_bind, run_underlying hu w]
 cases d <;> simp [aggD]
theorem run_sizeOf' {t : TypeId} {i : TypeInfo} (hi : P.info? t = some i) : (sizeOf t).run P w = .ok i.size w := by simp [sizeOf, typeInfo, hi]

def aLoad (agg : Option Nat) (cs : List AV) (off : Nat) : Option AV :=
 match agg with
 | none => cs[off]?
 | some n => if off + n ≤ cs.length then some (.agg ((cs.drop off).take n)) else none

theorem load_cells {t : TypeId} {d : TypeDesc} {i : TypeInfo} (hu : P.underlying t = some d) (hi : P.info? t = some i) {agg : Option Nat} (ha : agg = if aggD d then some i.size else none)
 {b o off : Nat} {C : Array Value} {ty : TypeId} {fr : Nat × Nat} (hb : w.heap[b]? = some (.cells C ty fr)) {cs : List AV} (hlen : o + cs.length ≤ C.size)
 (hc : ∀ j c, cs[j]? = some c → RelV g c (C.getD (o + j) undef) ∧ (C.getD (o + j) undef).oneCell' = true) {r : AV} (hr : aLoad agg cs off = some r) :
 ∃ v, (Instr.loadAt t (.pointer (some ⟨b, o + off, none⟩))).run P w = .ok v w ∧ RelV g r v := by
 subst ha
 cases hd : aggD d with
 | false =>
  simp only [hd, Bool.false_eq_true, if_false, aLoad] at hr
  have hoff : off < cs.length := by
   rcases Nat.lt_or_ge off cs.length with h' | h'
   · exact h'
   · simp [List.getElem?_eq_none h'] at hr
  refine ⟨C.getD (o + off) undef, ?_, (hc off r hr).1⟩
  simp only [Instr.loadAt, Instr.sureAddr, loadVar, Sem.run_bind, Sem.run_pure, Result.andThen_ok, run_isAgg hu, hd, Bool.false_eq_true, if_false]
  exact run_load_row hb (by omega)
 | true =>
  simp only [hd, if_true, aLoad] at hr
  split at hr
  · rename_i hle
    cases hr
    refine ⟨.agg ((C.toList.drop (o + off)).take i.size).toArray, ?_, ?_⟩
    · simp only [Instr.loadAt, Instr.sureAddr, loadVar, Sem.run_bind, Sem.run_pure, Result.andThen_ok, run_isAgg hu, hd, if_true, run_sizeOf' hi]
      rw [run_loadCells_row hb (by omega)]
      rfl
    · refine RelV.ofCells ⟨?_, fun j c e => ?_⟩
      · simp; omega
      · rw [List.getElem?_take] at e
        split at e
        · rename_i hj
          rw [List.getElem?_drop] at e
          have := hc (off + j) c e
          have e2 : ((C.toList.drop (o + off)).take i.size).getD j undef = C.getD (o + (off + j)) undef := by
           rw [List.getD_eq_getElem?_getD, List.getElem?_take, if_pos hj, List.getElem?_drop]
           simp [Nat.add_assoc]
          rw [e2]; exact this
        · cases e
  · cases hr

theorem op_load_own (h : SR B w0 σ g w) {t : TypeId} {d : TypeDesc} {i : TypeInfo} (hu : P.underlying t = some d) (hi : P.info? t = some i) {agg : Option Nat} (ha : agg = if aggD d then some i.size else none)
 {id ver k off : Nat} {v : Value} (hx : RelV g (.ptr id ver k off) v) {ty : TypeId} {sz : Nat} {es : List (List AV)} (ho : σ.get id = some (.cells ty ver sz es))
 {e : List AV} (he : es[k]? = some e) {r : AV} (hr : aLoad agg e off = some r) : OpOK P B w0 g w (do pure (.value (← Instr.loadAt t v))) r σ := by
 obtain ⟨p, hp, h1, h2, h3, h4, cells, h5, h6, h7, h8⟩ := h.objs id _ ho
 cases hx with
 | ptr hid hv hv1 =>
  have hv := (hv p hp).2 h1
  subst hv
  have hk : k < es.length := by
   rcases Nat.lt_or_ge k es.length with h' | h'
   · exact h'
   · simp [List.getElem?_eq_none h'] at he
  have hel : e.length = sz := h7 e (List.mem_of_getElem? he)
  have hle : k * sz + e.length ≤ cells.size := by
   rw [h6, hel, ← Nat.succ_mul]
   exact Nat.mul_le_mul_right _ (by omega)
  subst h2
  obtain ⟨u, hrun, hrel⟩ := load_cells (g := g) (o := k * p.sz) hu hi ha h5 hle (fun j c hj => h8 k j e c he hj) hr
  exact OpOK.value h hrun hrel

theorem op_load_frozen (h : SR B w0 σ g w) {t : TypeId} {d : TypeDesc} {i : TypeInfo} (hu : P.underlying t = some d) (hi : P.info? t = some i) {agg : Option Nat} (ha : agg = if aggD d then some i.size else none)
 {cs : List AV} {off : Nat} {v : Value} (hx : RelV g (.rptr cs off) v) {r : AV} (hr : aLoad agg cs off = some r) : OpOK P B w0 g w (do pure (.value (← Instr.loadAt t v))) r σ := by
 cases hx with
 | rptr hΦ hb hc h1 =>
  obtain ⟨ty, fr, hh, _⟩ := h.phi _ _ hΦ.1
  obtain ⟨u, hrun, hrel⟩ := load_cells (g := g) hu hi ha hh hb (fun j c hj => ⟨hc j c hj, h1 j c hj⟩) hr
  exact OpOK.value h hrun hrel

/-! ### Stores -/
def aPut (cs : List AV) (off : Nat) (new : List AV) : List AV := cs.take off ++ new ++ cs.drop (off + new.length)
theorem aPut_length {cs : List AV} {off : Nat} {new : List AV} (h : off + new.length ≤ cs.length) : (aPut cs off new).length = cs.length := by
 simp [aPut]; omega
theorem getElem?_splice {α : Type} (xs new : List α) (off j : Nat) (h : off + new.length ≤ xs.length) :
 (xs.take off ++ new ++ xs.drop (off + new.length))[j]? = if off ≤ j ∧ j < off + new.length then new[j - off]? else xs[j]? := by
 by_cases h1 : j < off
 · rw [List.append_assoc, List.getElem?_append_left (by simp; omega), List.getElem?_take, if_pos h1, if_neg (by omega)]
 · by_cases h2 : j < off + new.length
   · rw [if_pos ⟨by omega, h2⟩, List.append_assoc, List.getElem?_append_right (by simp; omega), List.getElem?_append_left (by simp; omega)]
     congr 1
     simp; omega
   · rw [if_neg (by omega), List.getElem?_append_right (by simp; omega), List.getElem?_drop]
     congr 1
     simp; omega

theorem op_store (h : SR B w0 σ g w) {t : TypeId} {i : TypeInfo} (hi : P.info? t = some i)
 {id ver k off : Nat} {a v : Value} (ha : RelV g (.ptr id ver k off) a) {x : AV} (hx : RelV g x v) {cs : List AV} (hcs : x.cellsOf = some cs) (hsz : cs.length = i.size)
 {ty : TypeId} {sz : Nat} {es : List (List AV)} (ho : σ.get id = some (.cells ty ver sz es)) {e : List AV} (he : es[k]? = some e) (hle : off + cs.length ≤ e.length) :
 OpOK P B w0 g w (do Instr.storeAt t a v; pure .skip) .junk (σ.upd id (.cells ty ver sz (es.set k (aPut e off cs)))) := by
 obtain ⟨p, hp, h1, h2, h3, h4, cells, h5, h6, h7, h8⟩ := h.objs id _ ho
 have hcr := hx.cellsRel hcs
 cases ha with
 | ptr hid hv hv1 =>
  have hv := (hv p hp).2 h1
  subst hv
  subst h2
  have hk : k < es.length := by
   rcases Nat.lt_or_ge k es.length with h' | h'
   · exact h'
   · simp [List.getElem?_eq_none h'] at he
  have hel : e.length = p.sz := h7 e (List.mem_of_getElem? he)
  have hkc : k * p.sz + e.length ≤ cells.size := by
   rw [h6, hel, ← Nat.succ_mul]
   exact Nat.mul_le_mul_right _ (by omega)
  have hvl : v.cells.toList.length = cs.length := hcr.1
  have hst := run_storeCells_at P p.blk (k * p.sz + off) ty v.cells.toList 0 cells w h5 (by omega) hcr.one
  simp only [Nat.add_zero] at hst
  refine OpOK.skip (w' := w.setRow p.blk (cells.toList.take (k * p.sz + off) ++ v.cells.toList ++ cells.toList.drop (k * p.sz + off + v.cells.toList.length)).toArray) ?_ (.refl g)
   (h.write hp (by simp [World.setRow]) rfl rfl rfl (fun j _ hj => setRow_other w p.blk j _ hj) ?_)
  · have hvs : v.cells.size = i.size := by rw [← hsz, ← hcr.1]; simp
    simp only [Instr.storeAt, Instr.sureAddr, storeVar, Sem.run_bind, Sem.run_pure, Result.andThen_ok, run_sizeOf' hi, hvs, ne_eq, not_true, if_false, Sem.run_ite]
    exact hst
  · refine ⟨h1, rfl, by simpa using h3, h4, _, setRow_heap w p.blk cells _ ty _ h5, ?_, ?_, ?_⟩
    · rw [← h6]; simp only [List.size_toArray, List.length_append, List.length_take, List.length_drop, Array.length_toList] at hvl ⊢; omega
    · intro e' he'
      rcases List.mem_or_eq_of_mem_set he' with he' | rfl
      · exact h7 e' he'
      · rw [aPut_length (by omega), hel]
    · intro i' j e' c hi' hj'
      have hget : ∀ n, (((cells.toList.take (k * p.sz + off) ++ v.cells.toList ++ cells.toList.drop (k * p.sz + off + v.cells.toList.length)).toArray).getD n undef) =
       (if k * p.sz + off ≤ n ∧ n < k * p.sz + off + v.cells.toList.length then v.cells.toList.getD (n - (k * p.sz + off)) undef else cells.getD n undef) := by
       intro n
       have := getElem?_splice cells.toList v.cells.toList (k * p.sz + off) n (by simp only [Array.length_toList] at *; omega)
       rw [Array.getD_eq_getD_getElem?, List.getElem?_toArray, this]
       split
       · rw [List.getD_eq_getElem?_getD]
       · rw [Array.getD_eq_getD_getElem?, Array.getElem?_toList]
      rw [hget]
      by_cases hik : i' = k
      · subst hik
        rw [List.getElem?_set_self hk] at hi'
        cases hi'
        rw [show aPut e off cs = e.take off ++ cs ++ e.drop (off + cs.length) from rfl, getElem?_splice e cs off j hle] at hj'
        split at hj'
        · rename_i hin
          rw [if_pos (by omega)]
          have := hcr.2 (j - off) c hj'
          rwa [show i' * p.sz + j - (i' * p.sz + off) = j - off from by omega]
        · rename_i hin
          rw [if_neg (by omega)]
          exact h8 i' j e c he hj'
      · rw [List.getElem?_set_ne (Ne.symm hik)] at hi'
        have hel' : e'.length = p.sz := h7 e' (List.mem_of_getElem? hi')
        have hj2 : j < e'.length := by
         rcases Nat.lt_or_ge j e'.length with h' | h'
         · exact h'
         · simp [List.getElem?_eq_none h'] at hj'
        have hout : ¬ (k * p.sz + off ≤ i' * p.sz + j ∧ i' * p.sz + j < k * p.sz + off + v.cells.toList.length) := by
         rintro ⟨ha, hb⟩
         rcases Nat.lt_or_gt_of_ne hik with hlt | hlt
         · have : (i' + 1) * p.sz ≤ k * p.sz := Nat.mul_le_mul_right _ hlt
           rw [Nat.succ_mul] at this
           omega
         · have : (k + 1) * p.sz ≤ i' * p.sz := Nat.mul_le_mul_right _ hlt
           rw [Nat.succ_mul] at this
           omega
        rw [if_neg hout]
        exact h8 i' j e' c hi' hj'

/-! ### Addresses -/
theorem op_faddr {t : TypeId} {fs : Array Field} {f : Field} {i : TypeInfo} {n : Nat} (hu : P.underlying t = some (.struct fs)) (hf : fs[n]? = some f) (hi : P.info? f.type = some i) (hz : i.size ≠ 0)
 {b o : Nat} : (Instr.fieldAt t (.pointer (some ⟨b, o, none⟩)) n).run P w = .ok (.pointer (some ⟨b, o + f.offset, none⟩)) w := by
 have hadd : (⟨b, o, none⟩ : Addr).add f.offset = ⟨b, o + f.offset, none⟩ := by unfold Addr.add; split <;> simp_all
 simp [Instr.fieldAt, run_underlying hu, hf, Instr.sureAddr, fieldPlace, run_sizeOf' hi, hz, hadd]
theorem op_faddr_own (h : SR B w0 σ g w) {t : TypeId} {fs : Array Field} {f : Field} {i : TypeInfo} {n : Nat} (hu : P.underlying t = some (.struct fs)) (hf : fs[n]? = some f) (hi : P.info? f.type = some i) (hz : i.size ≠ 0)
 {id ver k off : Nat} {v : Value} (hx : RelV g (.ptr id ver k off) v) {o : AObj} (ho : σ.get id = some o) (hver : ∀ p, g.pl id = some p → p.ver = ver) :
 OpOK P B w0 g w (do pure (.value (← Instr.fieldAt t v n))) (.ptr id ver k (off + f.offset)) σ := by
 cases hx with
 | ptr hid hv hv1 =>
  obtain ⟨p, hp, -⟩ := h.objs id o ho
  have hv' := (hv p hp).2 (hver p hp)
  subst hv'
  refine OpOK.value h (op_faddr hu hf hi hz) (.ptr hid (fun q hq => ⟨(hv q hq).1, fun e => ?_⟩) ⟨_, rfl⟩)
  rw [hp] at hq
  cases hq
  simp [Nat.add_assoc]
theorem op_faddr_frozen (h : SR B w0 σ g w) {t : TypeId} {fs : Array Field} {f : Field} {i : TypeInfo} {n : Nat} (hu : P.underlying t = some (.struct fs)) (hf : fs[n]? = some f) (hi : P.info? f.type = some i) (hz : i.size ≠ 0)
 {cs : List AV} {off : Nat} {v : Value} (hx : RelV g (.rptr cs off) v) : OpOK P B w0 g w (do pure (.value (← Instr.fieldAt t v n))) (.rptr cs (off + f.offset)) σ := by
 cases hx with
 | rptr hΦ hb hc h1 =>
  refine OpOK.value h (op_faddr hu hf hi hz) ?_
  rw [Nat.add_assoc]
  exact .rptr hΦ hb hc h1

theorem run_indexAddr {t : TypeId} {e : TypeId} {i : TypeInfo} (hu : P.underlying t = some (.slice e)) (hi : P.info? e = some i) {k : IntKind} {n : Int} {b o len cap : Nat} (h0 : 0 ≤ n) (h1 : n < len) :
 (Instr.indexAt t (.slice (some ⟨b, o, none⟩) len cap) (.int k n)).run P w = .ok (.pointer (some ⟨b, o + n.toNat * i.size, none⟩)) w := by
 have hadd : (⟨b, o, none⟩ : Addr).add (n.toNat * i.size) = ⟨b, o + n.toNat * i.size, none⟩ := by unfold Addr.add; split <;> simp_all
 simp [Instr.indexAt, asIntOf, run_underlying hu, h0, h1, run_sizeOf' hi, hadd]
theorem op_iaddr_list (h : SR B w0 σ g w) {t : TypeId} {e : TypeId} {i : TypeInfo} (hu : P.underlying t = some (.slice e)) (hi : P.info? e = some i) {es : List (List AV)} {v : Value} (hx : RelV g (.list es) v)
 {k : IntKind} {n : Int} (h0 : 0 ≤ n) {c : List AV} (hc : es[n.toNat]? = some c) (hsz : c.length = i.size) :
 OpOK P B w0 g w (do pure (.value (← Instr.indexAt t v (.int k n)))) (.rptr c 0) σ := by
 have hlt : n.toNat < es.length := by
  rcases Nat.lt_or_ge n.toNat es.length with h' | h'
  · exact h'
  · simp [List.getElem?_eq_none h'] at hc
 cases hx with
 | listNil => simp at hlt
 | list hΦ hs hb hcc h1 hn hcap =>
  rename_i blk off cap s cells
  have hs' : s = i.size := by rw [← hsz]; exact (hs c (List.mem_of_getElem? hc)).symm
  subst hs'
  refine OpOK.value h (run_indexAddr hu hi h0 (by omega)) ?_
  have := RelV.rptr (g := g) (cs := c) (off := 0) (o := off + n.toNat * i.size) hΦ (by
   have : (n.toNat + 1) * i.size ≤ es.length * i.size := Nat.mul_le_mul_right _ hlt
   rw [Nat.succ_mul] at this
   omega) (fun j x hj => hcc _ j c x hc hj) (fun j x hj => h1 _ j c x hc hj)
  simpa using this
theorem op_iaddr_own (h : SR B w0 σ g w) {t : TypeId} {e : TypeId} {i : TypeInfo} (hu : P.underlying t = some (.slice e)) (hi : P.info? e = some i) {id ver off len : Nat} {v : Value} (hx : RelV g (.own id ver i.size off len) v)
 {o : AObj} (ho : σ.get id = some o) (hver : ∀ p, g.pl id = some p → p.ver = ver) {k : IntKind} {n : Int} (h0 : 0 ≤ n) (h1 : n < len) :
 OpOK P B w0 g w (do pure (.value (← Instr.indexAt t v (.int k n)))) (.ptr id ver (off + n.toNat) 0) σ := by
 cases hx with
 | own hid hlen hv hp =>
  obtain ⟨p, hpp, -⟩ := h.objs id o ho
  obtain ⟨hs, hcap, a, rfl, ha⟩ := (hp p hpp).2 (hver p hpp)
  have ha := ha (by right; omega)
  subst ha
  refine OpOK.value h (run_indexAddr hu hi h0 h1) (.ptr hid (fun q hq => ⟨(hp q hq).1, fun _ => ?_⟩) ⟨_, rfl⟩)
  rw [hpp] at hq
  cases hq
  rw [hs, Nat.add_mul, Nat.add_zero]
end
end Go.AL
set_option linter.unusedVariables false
set_option linter.unusedSimpArgs false
namespace Go.AL
open Go.RowKit

def ElemsRel (g : Ghost) (sz : Nat) (es : List (List AV)) (vs : List Value) : Prop :=
 vs.length = es.length * sz ∧ (∀ e, e ∈ es → e.length = sz) ∧
 ∀ (i j : Nat) (e : List AV) (c : AV), es[i]? = some e → e[j]? = some c → RelV g c (vs.getD (i * sz + j) undef) ∧ (vs.getD (i * sz + j) undef).oneCell' = true

theorem split_index {sz n q : Nat} (h : q < n * sz) : ∃ i j, i < n ∧ j < sz ∧ q = i * sz + j := by
 rcases Nat.eq_zero_or_pos sz with h0 | h0
 · subst h0; simp at h
 · refine ⟨q / sz, q % sz, ?_, Nat.mod_lt _ h0, ?_⟩
   · exact (Nat.div_lt_iff_lt_mul h0).2 h
   · rw [Nat.mul_comm]; exact (Nat.div_add_mod q sz).symm

theorem ElemsRel.one {g : Ghost} {sz : Nat} {es : List (List AV)} {vs : List Value} (h : ElemsRel g sz es vs) : ∀ v ∈ vs, v.oneCell' = true := by
 intro v hv
 obtain ⟨q, hq, rfl⟩ := List.getElem_of_mem hv
 obtain ⟨i, j, hi, hj, rfl⟩ := split_index (show q < es.length * sz by rw [← h.1]; exact hq)
 have he : es[i]? = some es[i] := List.getElem?_eq_getElem hi
 have hl := h.2.1 _ (List.mem_of_getElem? he)
 have hc : es[i][j]? = some (es[i][j]'(by omega)) := List.getElem?_eq_getElem _
 have := (h.2.2 i j _ _ he hc).2
 rwa [List.getD_eq_getElem?_getD, List.getElem?_eq_getElem hq] at this


theorem index_lt {sz i j n : Nat} (hi : i < n) (hj : j < sz) : i * sz + j < n * sz := by
 have := Nat.mul_le_mul_right sz (Nat.succ_le_of_lt hi)
 rw [Nat.succ_mul] at this
 omega

theorem ElemsRel.append {g : Ghost} {sz : Nat} {es fs : List (List AV)} {vs us : List Value} (h : ElemsRel g sz es vs) (k : ElemsRel g sz fs us) : ElemsRel g sz (es ++ fs) (vs ++ us) := by
 refine ⟨by simp [h.1, k.1, Nat.add_mul], fun e he => ?_, fun i j e c hi hj => ?_⟩
 · rcases List.mem_append.1 he with he | he
   · exact h.2.1 e he
   · exact k.2.1 e he
 · by_cases hlt : i < es.length
   · rw [List.getElem?_append_left hlt] at hi
     have hjl : j < sz := by
      rw [← h.2.1 e (List.mem_of_getElem? hi)]
      rcases Nat.lt_or_ge j e.length with h' | h'
      · exact h'
      · simp [List.getElem?_eq_none h'] at hj
     have := h.2.2 i j e c hi hj
     rw [List.getD_eq_getElem?_getD, List.getElem?_append_left (by rw [h.1]; exact index_lt hlt hjl), ← List.getD_eq_getElem?_getD]
     exact this
   · have hge : es.length ≤ i := by omega
     rw [List.getElem?_append_right hge] at hi
     have := k.2.2 (i - es.length) j e c hi hj
     have hidx : i * sz + j = es.length * sz + ((i - es.length) * sz + j) := by
      rw [← Nat.add_assoc, ← Nat.add_mul]
      congr 2
      omega
     rw [hidx, List.getD_eq_getElem?_getD, List.getElem?_append_right (by rw [h.1]; omega), h.1, Nat.add_sub_cancel_left, ← List.getD_eq_getElem?_getD]
     exact this

def elemsOf (σ : Store) (sz : Nat) : AV → Option (List (List AV))
 | .nils => some []
 | .list es => some es
 | .own id ver s off len =>
  match σ.get id with
  | some (.cells _ v _ es) => if v = ver ∧ s = sz ∧ off + len ≤ es.length then some ((es.drop off).take len) else none
  | _ => none
 | _ => none

section
variable {P : Program} {B : Nat} {w0 : World} {σ : Store} {g : Ghost} {w : World}

theorem slice_src (h : SR B w0 σ g w) {sz : Nat} {x : AV} {v : Value} (hx : RelV g x v) {es : List (List AV)} (he : elemsOf σ sz x = some es) (hsz : ∀ e, e ∈ es → e.length = sz) :
 ∃ ao c news, v = .slice ao es.length c ∧ ElemsRel g sz es news ∧ (ao = none → es = []) ∧ es.length ≤ maxLen ∧
  ∀ ad, ao = some ad → ∀ j u, news[j]? = some u → w.cell? (ad.add j) = some u := by
 cases hx with
 | nils =>
  simp [elemsOf] at he
  subst he
  exact ⟨none, 0, [], rfl, ⟨by simp, by simp, by simp⟩, fun _ => rfl, by simp, by simp⟩
 | listNil a c =>
  simp [elemsOf] at he
  subst he
  exact ⟨a, c, [], rfl, ⟨by simp, by simp, by simp⟩, fun _ => rfl, by simp, by simp⟩
 | list hΦ hs hb hc h1 hn hcap =>
  rename_i es1 blk off cap s cells
  have he : es1 = es := by simpa [elemsOf] using he
  obtain rfl : es = es1 := he.symm
  obtain ⟨ty, fr, hh, _⟩ := h.phi _ _ hΦ.1
  by_cases hnil : es = []
  · subst hnil
    exact ⟨_, _, [], rfl, ⟨by simp, by simp, by simp⟩, by simp, by simp, by simp⟩
  · have hss : s = sz := by
     obtain ⟨e, rest, rfl⟩ := List.exists_cons_of_ne_nil hnil
     rw [← hs e (by simp), hsz e (by simp)]
    subst hss
    have hl : ((cells.toList.drop off).take (es.length * s)).length = es.length * s := by simp; omega
    have hget : ∀ j, j < es.length * s → ((cells.toList.drop off).take (es.length * s)).getD j undef = cells.getD (off + j) undef := by
     intro j hj
     rw [List.getD_eq_getElem?_getD, List.getElem?_take, if_pos hj, List.getElem?_drop]
     simp
    refine ⟨_, _, (cells.toList.drop off).take (es.length * s), rfl, ⟨hl, hsz, fun i j e c hi hj => ?_⟩, by simp, by omega, fun ad had j u hu => ?_⟩
    · have hi' : i < es.length := by
       rcases Nat.lt_or_ge i es.length with h' | h'
       · exact h'
       · simp [List.getElem?_eq_none h'] at hi
      have hj' : j < s := by
       rw [← hsz e (List.mem_of_getElem? hi)]
       rcases Nat.lt_or_ge j e.length with h' | h'
       · exact h'
       · simp [List.getElem?_eq_none h'] at hj
      rw [hget _ (index_lt hi' hj'), ← Nat.add_assoc]
      exact ⟨hc i j e c hi hj, h1 i j e c hi hj⟩
    · cases had
      have hadd : (⟨blk, off, none⟩ : Addr).add j = ⟨blk, off + j, none⟩ := by unfold Addr.add; split <;> simp_all
      rw [hadd, cell_of_row w blk (off + j) cells ty fr hh]
      rw [List.getElem?_take] at hu
      split at hu
      · rw [List.getElem?_drop] at hu; simpa using hu
      · cases hu
 | own hid hlen hv hp =>
  rename_i id ver s off len
  simp only [elemsOf] at he
  split at he
  · rename_i ty v' s' es0 ho
    split at he
    · rename_i hcond
      obtain ⟨rfl, rfl, hle⟩ := hcond
      cases he
      obtain ⟨p, hpp, h1, h2, h3, h4, cells, h5, h6, h7, h8⟩ := h.objs id _ ho
      obtain ⟨hps, hcap, a, rfl, ha⟩ := (hp p hpp).2 h1
      have hlen' : ((es0.drop off).take len).length = len := by simp; omega
      by_cases hl0 : len = 0
      · subst hl0
        exact ⟨some a, p.cap - off, [], by simp, ⟨by simp, by simp, by simp⟩, by simp, by simp, by simp⟩
      · have ha := ha (by right; omega)
        subst ha
        have hs2 : s' = s := by rw [← h2, hps]
        subst hs2
        have hbound : off * s' + len * s' ≤ cells.size := by
         rw [h6, ← Nat.add_mul]; exact Nat.mul_le_mul_right _ hcap
        have hl : ((cells.toList.drop (off * s')).take (len * s')).length = len * s' := by simp; omega
        refine ⟨_, _, (cells.toList.drop (off * s')).take (len * s'), by rw [hlen'], ⟨by rw [hlen']; exact hl, hsz, fun i j e c hi hj => ?_⟩, by simp, by omega, fun ad had j u hu => ?_⟩
        · have hi' : i < len := by
           rcases Nat.lt_or_ge i len with h' | h'
           · exact h'
           · rw [List.getElem?_take, if_neg (by omega)] at hi; cases hi
          have hj' : j < s' := by
           rw [← hsz e (List.mem_of_getElem? hi)]
           rcases Nat.lt_or_ge j e.length with h' | h'
           · exact h'
           · simp [List.getElem?_eq_none h'] at hj
          rw [List.getElem?_take, if_pos hi', List.getElem?_drop] at hi
          have := h8 (off + i) j e c hi hj
          rw [List.getD_eq_getElem?_getD, List.getElem?_take, if_pos (index_lt hi' hj'), List.getElem?_drop]
          rw [Nat.add_mul, Nat.add_assoc] at this
          simpa using this
        · cases had
          have hadd : (⟨p.blk, off * s', none⟩ : Addr).add j = ⟨p.blk, off * s' + j, none⟩ := by unfold Addr.add; split <;> simp_all
          rw [hadd, cell_of_row w p.blk _ cells ty (0, 0) h5]
          rw [List.getElem?_take] at hu
          split at hu
          · rw [List.getElem?_drop] at hu; simpa using hu
          · cases hu
    · cases he
  · cases he
 | _ => simp [elemsOf] at he

/-! ### append -/
theorem ObjRel.ofOwns {base ver cap gb : Nat} {e : TypeId} {sz : Nat} {es : List (List AV)} {cur : Array Value} {xs : List Value} (hb : w.heap[gb]? = some (.cells cur e (0, 0)))
 (hc : cur.size = cap * sz) (hcap : cap ≤ maxLen) (hn : es.length ≤ cap) (ht : cur.toList.take (es.length * sz) = xs) (hr : ElemsRel g sz es xs) :
 ObjRel g w ⟨ver, gb, sz, cap⟩ (.cells e ver sz es) := by
 refine ⟨rfl, rfl, hn, hcap, cur, hb, hc, hr.2.1, fun i j x c hi hj => ?_⟩
 have := hr.2.2 i j x c hi hj
 have hi' : i < es.length := by
  rcases Nat.lt_or_ge i es.length with h' | h'
  · exact h'
  · simp [List.getElem?_eq_none h'] at hi
 have hj' : j < sz := by
  rw [← hr.2.1 x (List.mem_of_getElem? hi)]
  rcases Nat.lt_or_ge j x.length with h' | h'
  · exact h'
  · simp [List.getElem?_eq_none h'] at hj
 rw [← ht, List.getD_eq_getElem?_getD, List.getElem?_take, if_pos (index_lt hi' hj')] at this
 simpa using this

theorem ObjRel.elems {p : Place} {ty ver sz : Nat} {es : List (List AV)} (h : ObjRel g w p (.cells ty ver sz es)) :
 ∃ cells, w.heap[p.blk]? = some (.cells cells ty (0, 0)) ∧ cells.size = p.cap * sz ∧ p.cap ≤ maxLen ∧ p.ver = ver ∧ p.sz = sz ∧ es.length ≤ p.cap ∧
  ∀ n, n ≤ es.length → ElemsRel g sz (es.take n) (cells.toList.take (n * sz)) := by
 obtain ⟨h1, h2, h3, h4, cells, h5, h6, h7, h8⟩ := h
 refine ⟨cells, h5, h6, h4, h1, h2, h3, fun n hn => ?_⟩
 have hlen : (es.take n).length = n := by simp; omega
 have hle : n * sz ≤ cells.size := by rw [h6]; exact Nat.mul_le_mul_right _ (by omega)
 refine ⟨by rw [hlen]; simp; omega, fun e he => h7 e (List.mem_of_mem_take he), fun i j e c hi hj => ?_⟩
 have hi' : i < n := by
  rcases Nat.lt_or_ge i n with h' | h'
  · exact h'
  · rw [List.getElem?_take, if_neg (by omega)] at hi; cases hi
 rw [List.getElem?_take, if_pos hi'] at hi
 have hj' : j < sz := by
  rw [← h7 e (List.mem_of_getElem? hi)]
  rcases Nat.lt_or_ge j e.length with h' | h'
  · exact h'
  · simp [List.getElem?_eq_none h'] at hj
 have := h8 i j e c hi hj
 rw [List.getD_eq_getElem?_getD, List.getElem?_take, if_pos (index_lt hi' hj')]
 simpa using this

theorem run_append_any {t ty e : TypeId} {i : TypeInfo} {z : Value} (ht : P.underlying t = some (.slice e)) (hi : P.info? e = some i) (hz : i.zero = some z) (hzs : z.cells.size = i.size) (hsz : 0 < i.size)
 {v : Value} {n : Nat} {xs : List Value} (hown : w.ownsRow B e i.size v n xs) (hB : B ≤ w.heap.size) {ao : Option Addr} {m c : Nat} {news : List Value} (hl : news.length = m * i.size)
 (hnil : ao = none → m = 0 ∧ c = 0 ∨ m = 0) (hnews : ∀ ad, ao = some ad → ∀ j u, news[j]? = some u → w.cell? (ad.add j) = some u) (h1 : ∀ u ∈ news, u.oneCell' = true)
 (h63 : n + m ≤ maxLen) (hbytes : (n + m) * i.bytes ≤ 140737488355328) :
 ∃ v' w', (Builtin.append_ #[t, t] ty #[v, .slice ao m c]).run P w = .ok v' w' ∧ w'.ownsRow B e i.size v' (n + m) (xs ++ news) ∧ w.grownBy w' v.ownBlock ∧
  (v' = .slice none 0 0 ↔ v = .slice none 0 0 ∧ m = 0) ∧ (v'.ownBlock = v.ownBlock ∨ v'.ownBlock = some w.heap.size) := by
 cases ao with
 | some ad => exact run_append_own_at w B t ty e i z i.size i.bytes ht hi hz rfl rfl hzs hsz v n xs hown ad m c news hl (hnews ad rfl) h1 h63 hbytes hB
 | none =>
  have hm : m = 0 := by rcases hnil rfl with h | h <;> omega
  subst hm
  have hn : news = [] := List.eq_nil_of_length_eq_zero (by simpa using hl)
  subst hn
  rcases hown.2 with ⟨rfl, rfl⟩ | ⟨gb, cap, cur, rfl, hbg, hg, hnc, hcm, hcs, htake⟩
  · refine ⟨.slice none 0 0, w, ?_, by simpa using hown, ⟨rfl, rfl, rfl, Nat.le_refl _, fun _ _ _ => rfl⟩, by simp, .inl rfl⟩
    simp [Builtin.append_, run_underlying ht, sizeOf, typeInfo, hi, Builtin.lenOf, Builtin.firstCells]
  · refine ⟨.slice (some ⟨gb, 0, none⟩) n cap, w, ?_, by simpa using hown, ⟨rfl, rfl, rfl, Nat.le_refl _, fun _ _ _ => rfl⟩, by simp, .inl rfl⟩
    simp [Builtin.append_, run_underlying ht, sizeOf, typeInfo, hi, Builtin.lenOf, Builtin.firstCells, hnc, storeCells]

theorem op_append_nil (h : SR B w0 σ g w) {t ty e : TypeId} {i : TypeInfo} {z : Value} (ht : P.underlying t = some (.slice e)) (hi : P.info? e = some i) (hz : i.zero = some z) (hzs : z.cells.size = i.size) (hsz : 0 < i.size)
 {x : AV} {vx : Value} (hx : RelV g x vx) {es : List (List AV)} (he : elemsOf σ i.size x = some es) (hes : ∀ q, q ∈ es → q.length = i.size) (hb : es.length * i.bytes ≤ 140737488355328) :
 OpOK P B w0 g w (do pure (.value (← Builtin.append_ #[t, t] ty #[.slice none 0 0, vx])))
  (if es = [] then .nils else .own σ.next 0 i.size 0 es.length) (if es = [] then σ else σ.push (.cells e 0 i.size es)) := by
 obtain ⟨ao, c, news, rfl, hrel, hnone, hml, hcell⟩ := slice_src h hx he hes
 obtain ⟨v', w', hrun, hown, hgrow, hnil, hblk⟩ := run_append_any (v := .slice none 0 0) (n := 0) (xs := []) (ty := ty) ht hi hz hzs hsz (World.ownsRow_nil w B e i.size) h.size hrel.1 (fun ha => .inr (by rw [hnone ha]; rfl)) hcell hrel.one
  (by omega) (by simpa using hb)
 by_cases hem : es = []
 · subst hem
   simp only [if_true]
   have hv := hnil.2 ⟨rfl, rfl⟩
   subst hv
   have hw : w' = w := by
    have hr : (Builtin.append_ #[t, t] ty #[.slice none 0 0, .slice ao ([] : List (List AV)).length c]).run P w = .ok (.slice none 0 0) w := by
     cases ao <;> simp [Builtin.append_, run_underlying ht, sizeOf, typeInfo, hi, Builtin.lenOf, Builtin.firstCells, loadCells, loadCellsFrom]
    rw [hrun] at hr
    cases hr
    rfl
   subst hw
   exact OpOK.value h hrun .nils
 · simp only [hem, if_false]
   have hne : ¬ v' = .slice none 0 0 := fun hv => hem (List.eq_nil_of_length_eq_zero (hnil.1 hv).2)
   rcases hown.2 with ⟨hv, _⟩ | ⟨gb, cap, cur, rfl, hbg, hg, hnc, hcm, hcs, htake⟩
   · exact absurd hv hne
   · have hgb : gb = w.heap.size := by
      rcases hblk with hb2 | hb2 <;> simp [Value.ownBlock] at hb2
      exact hb2
     simp only [Nat.zero_add, List.nil_append] at *
     have hlt : w.heap.size < w'.heap.size := by have := (Array.getElem?_eq_some_iff.1 hg).1; omega
     have hobj : ObjRel g w' ⟨0, gb, i.size, cap⟩ (.cells e 0 i.size es) := ObjRel.ofOwns (base := B) hg hcs hcm hnc htake hrel
     have hSR : SR B w0 (σ.push (.cells e 0 i.size es)) (g.take ⟨0, gb, i.size, cap⟩) w' := by
      have he' := Ext.take g ⟨0, gb, i.size, cap⟩
      refine ⟨h.below.trans ⟨hgrow.os, hgrow.tape, hgrow.output, hgrow.size, fun k hk => hgrow.block k (by have := h.size; omega) (by simp [Value.ownBlock])⟩, by have := h.size; have := hgrow.size; omega,
       fun b cells hb2 => ?_, by show g.next + 1 = σ.next + 1; rw [h.next], fun id y hy => ?_, fun id id' q q' hq hq' hb2 => ?_, fun id q hq => ?_, fun id q hq => ?_⟩
      · obtain ⟨t2, fr, hh, hpt⟩ := h.phi b cells hb2
        exact ⟨t2, fr, by rw [hgrow.block b (Array.getElem?_eq_some_iff.1 hh).1 (by simp [Value.ownBlock])]; exact hh, hpt⟩
      · rw [Store.get_push] at hy
        by_cases hid : id = σ.next
        · subst hid
          simp only [if_true, Option.some.injEq] at hy
          subst hy
          exact ⟨_, by simp [Ghost.take, h.next], hobj.ext he'⟩
        · simp only [hid, if_false] at hy
          obtain ⟨q, hq, hqr⟩ := h.objs id y hy
          have : id ≠ g.next := by rw [h.next]; exact hid
          exact ⟨q, by simp only [Ghost.take, this, if_false]; exact hq, (hqr.world (hgrow.block q.blk (h.fresh id q hq).2.1 (by simp [Value.ownBlock]))).ext he'⟩
      · simp only [Ghost.take] at hq hq'
        split at hq
        · rename_i a1
          split at hq'
          · rename_i a2; rw [a1, a2]
          · cases hq
            have := (h.fresh id' q' hq').2.1
            simp only at hb2
            omega
        · split at hq'
          · cases hq'
            have := (h.fresh id q hq).2.1
            simp only at hb2
            omega
          · exact h.inj id id' q q' hq hq' hb2
      · simp only [Ghost.take] at hq ⊢
        split at hq
        · cases hq; simp only [hgb]; exact h.phi_none
        · exact h.apart id q hq
      · simp only [Ghost.take] at hq ⊢
        split at hq
        · rename_i a1
          cases hq
          exact ⟨hbg, by simp only; omega, by omega⟩
        · obtain ⟨a, b, c'⟩ := h.fresh id q hq
          exact ⟨a, by omega, by omega⟩
     refine OpOK.value' hrun (Ext.take g _) hSR (.own (by simp [Ghost.take, h.next]) (by omega) ⟨_, _, rfl⟩ fun p hp => ?_)
     simp [Ghost.take, h.next] at hp
     subst hp
     exact ⟨Nat.le_refl _, fun _ => ⟨rfl, by simp only; omega, _, by simp; rfl, fun _ => by simp⟩⟩

theorem op_append_own (h : SR B w0 σ g w) {t ty e : TypeId} {i : TypeInfo} {z : Value} (ht : P.underlying t = some (.slice e)) (hi : P.info? e = some i) (hz : i.zero = some z) (hzs : z.cells.size = i.size) (hsz : 0 < i.size)
 {id ver len : Nat} {vs : Value} (hs : RelV g (.own id ver i.size 0 len) vs) {es0 : List (List AV)} (ho : σ.get id = some (.cells e ver i.size es0)) (hle : len ≤ es0.length)
 {x : AV} {vx : Value} (hx : RelV g x vx) {es : List (List AV)} (he : elemsOf σ i.size x = some es) (hes : ∀ q, q ∈ es → q.length = i.size) (hb : (len + es.length) * i.bytes ≤ 140737488355328) (hb2 : len + es.length ≤ maxLen) :
 OpOK P B w0 g w (do pure (.value (← Builtin.append_ #[t, t] ty #[vs, vx])))
  (.own id (ver + 1) i.size 0 (len + es.length)) (σ.upd id (.cells e (ver + 1) i.size (es0.take len ++ es))) := by
 obtain ⟨ao, c, news, rfl, hrel, hnone, hml, hcell⟩ := slice_src h hx he hes
 obtain ⟨p, hp, hobj⟩ := h.objs id _ ho
 obtain ⟨cells, c1, c2, c3, c4, c5, c6, c7⟩ := hobj.elems
 have hel := c7 len hle
 cases hs with
 | own hid hlen hv hpp =>
  obtain ⟨q1, q2, a, rfl, ha⟩ := (hpp p hp).2 c4
  have ha := ha (.inl rfl)
  subst ha
  simp only [Nat.zero_mul, Nat.sub_zero, Nat.zero_add] at *
  have htl : (es0.take len).length = len := by simp; omega
  have hlenx : (cells.toList.take (len * i.size)).length = len * i.size := by rw [hel.1, htl]
  have hown0 : w.ownsRow B e i.size (.slice (some ⟨p.blk, 0, none⟩) len p.cap) len (cells.toList.take (len * i.size)) :=
   ⟨hlenx, .inr ⟨p.blk, p.cap, cells, rfl, (h.fresh id p hp).1, c1, by omega, c3, c2, rfl⟩⟩
  obtain ⟨v', w', hrun, hown, hgrow, hnil, hblk⟩ := run_append_any (ty := ty) ht hi hz hzs hsz hown0 h.size hrel.1 (fun ha => .inr (by rw [hnone ha]; rfl)) hcell hrel.one hb2 hb
  have hne : ¬ v' = .slice none 0 0 := fun hv' => by have := hnil.1 hv'; simp at this
  rcases hown.2 with ⟨hv', _⟩ | ⟨gb, cap, cur, rfl, hbg, hg, hnc, hcm, hcs, htake⟩
  · exact absurd hv' hne
  · have hlen2 : (es0.take len ++ es).length = len + es.length := by simp [htl]
    have hobj' : ObjRel g w' ⟨ver + 1, gb, i.size, cap⟩ (.cells e (ver + 1) i.size (es0.take len ++ es)) :=
     ObjRel.ofOwns (base := B) hg hcs hcm (by rw [hlen2]; exact hnc) (by rw [hlen2]; exact htake) (hel.append hrel)
    have hgbs : gb = p.blk ∨ w.heap.size ≤ gb := by
     rcases hblk with hb3 | hb3 <;> simp [Value.ownBlock] at hb3
     · exact .inl hb3
     · exact .inr (by omega)
    have hv2 : p.ver < (⟨ver + 1, gb, i.size, cap⟩ : Place).ver := by simp only; omega
    have hm := Ext.move (p := ⟨ver + 1, gb, i.size, cap⟩) hp hv2
    refine OpOK.value' hrun hm (h.moved hp hv2 hgbs (Array.getElem?_eq_some_iff.1 hg).1 hgrow.size hgrow.os hgrow.tape hgrow.output
     (fun k hk hkne => hgrow.block k hk (by simp [Value.ownBlock]; exact hkne)) (hobj'.ext hm)) (.own hid (by omega) ⟨_, _, rfl⟩ fun q hq => ?_)
    simp [Ghost.move] at hq
    subst hq
    exact ⟨Nat.le_refl _, fun _ => ⟨rfl, by simp only; omega, _, by simp; rfl, fun _ => by simp⟩⟩

/-! ### make -/
theorem op_makeSlice (h : SR B w0 σ g w) {t e : TypeId} {i : TypeInfo} {z : Value} (ht : P.underlying t = some (.slice e)) (hi : P.info? e = some i) (hz : i.zero = some z) (hzs : z.cells.size = i.size) (hsz : 0 < i.size)
 {za : AV} {cs : List AV} (hza : RelV g za z) (hcs : za.cellsOf = some cs) {kl kc : IntKind} {l c : Int} (h0 : 0 ≤ l) (hlc : l ≤ c) (hbytes : (i.bytes : Int) * c ≤ 281474976710656) (h63 : c ≤ 9223372036854775807) :
 OpOK P B w0 g w (do pure (.value (← Instr.makeSlice t (.int kl l) (.int kc c)))) (.own σ.next 0 i.size 0 l.toNat) (σ.push (.cells e 0 i.size (List.replicate l.toNat cs))) := by
 have hrun := run_make (P := P) w t e i z ht hi hz kl kc l c h0 hlc hbytes h63
 have hcr := hza.cellsRel hcs
 have hcl : cs.length = i.size := by rw [← hcr.1]; simpa using hzs
 have hget : ∀ q, q < c.toNat * i.size → (madeCells z.cells (c.toNat * i.size)).getD q undef = z.cells.toList.getD (q % i.size) undef := by
  intro q hq
  have hm : q % z.cells.size < z.cells.size := Nat.mod_lt _ (by omega)
  simp only [madeCells, Array.getD_eq_getD_getElem?, Array.getElem?_map, Array.getElem?_range, hq, if_true, Option.map_some, Option.getD_some]
  rw [getElem!_pos z.cells (q % z.cells.size) hm, ← hzs]
  simp [List.getElem?_eq_getElem, hm]
 have hobj : ObjRel g (w.alloc (.cells (madeCells z.cells (c.toNat * i.size)) e)) ⟨0, w.heap.size, i.size, c.toNat⟩ (.cells e 0 i.size (List.replicate l.toNat cs)) := by
  refine ⟨rfl, rfl, by simp; omega, by simp [maxLen]; omega, _, heap_alloc_new w _, size_madeCells _ _, fun q hq => by rw [List.eq_of_mem_replicate hq]; exact hcl, fun a j q x ha hj => ?_⟩
  have ha' : a < l.toNat := by
   rcases Nat.lt_or_ge a l.toNat with h' | h'
   · exact h'
   · rw [List.getElem?_eq_none (by simpa using h')] at ha; cases ha
  rw [List.getElem?_replicate, if_pos ha'] at ha
  cases ha
  have hj' : j < i.size := by
   rw [← hcl]
   rcases Nat.lt_or_ge j cs.length with h' | h'
   · exact h'
   · simp [List.getElem?_eq_none h'] at hj
  rw [hget _ (index_lt (by omega) hj'), Nat.mul_comm a, Nat.mul_add_mod, Nat.mod_eq_of_lt hj']
  exact hcr.2 j x hj
 refine OpOK.value' hrun (.take g _) (h.allocOwned _ _ ⟨0, w.heap.size, i.size, c.toNat⟩ rfl hobj) (.own (by simp [Ghost.take, h.next]) (by simp [maxLen]; omega) ⟨_, _, rfl⟩ fun p hp => ?_)
 simp [Ghost.take, h.next] at hp
 subst hp
 exact ⟨Nat.le_refl _, fun _ => ⟨rfl, by simp only; omega, _, by simp; rfl, fun _ => by simp⟩⟩
end
end Go.AL
set_option linter.unusedVariables false
set_option linter.unusedSimpArgs false
namespace Go.AL
open Go.RowKit

section
variable {P : Program} {B : Nat} {w0 : World} {σ : Store} {g : Ghost} {w : World}

/-! ### Parts put into cells -/
def aFill (cells : List AV) : List (Nat × Nat × AV) → Option (List AV)
 | [] => some cells
 | (off, size, v) :: rest =>
  match v.cellsOf with
  | some cs => if cs.length = size ∧ off + size ≤ cells.length then aFill (aPut cells off cs) rest else none
  | none => none

theorem foldl_set (vs : List Value) : ∀ (off k : Nat) (cells : Array Value), off + k + vs.length ≤ cells.size →
 ((vs.zipIdx k).foldl (fun cs (c, j) => cs.setIfInBounds (off + j) c) cells) = (cells.toList.take (off + k) ++ vs ++ cells.toList.drop (off + k + vs.length)).toArray := by
 induction vs with
 | nil => intro off k cells h; simp
 | cons v vs ih =>
  intro off k cells h
  simp only [List.zipIdx_cons, List.foldl_cons]
  rw [ih off (k + 1) _ (by simp at h ⊢; omega)]
  have e := list_seg_step cells.toList (off + k) v vs (by simp at h ⊢; omega)
  simp only [Array.toList_setIfInBounds, ← Nat.add_assoc]
  congr 1

theorem CellsRel.put {cs new : List AV} {vs us : List Value} {off : Nat} (h : CellsRel g cs vs) (k : CellsRel g new us) (hle : off + new.length ≤ cs.length) :
 CellsRel g (aPut cs off new) (vs.take off ++ us ++ vs.drop (off + us.length)) := by
 have hle' : off + us.length ≤ vs.length := by rw [h.1, k.1]; exact hle
 refine ⟨by rw [aPut_length hle]; simp; have := h.1; omega, fun j c hj => ?_⟩
 rw [show aPut cs off new = cs.take off ++ new ++ cs.drop (off + new.length) from rfl, getElem?_splice cs new off j hle] at hj
 rw [List.getD_eq_getElem?_getD, getElem?_splice vs us off j hle']
 split at hj
 · rw [if_pos (by rw [k.1]; assumption), ← List.getD_eq_getElem?_getD]; exact k.2 _ c hj
 · rw [if_neg (by rw [k.1]; assumption), ← List.getD_eq_getElem?_getD]; exact h.2 _ c hj

theorem fill_rel (place : Nat → Option (Nat × Nat)) : ∀ (parts : List (Nat × Value)) (aparts : List (Nat × Nat × AV)) (cells : List AV) (vs : Array Value) (r : List AV),
 CellsRel g cells vs.toList → parts.length = aparts.length →
 (∀ (k : Nat) (q : Nat × Value) (o : Nat × Nat × AV), parts[k]? = some q → aparts[k]? = some o → place q.1 = some (o.1, o.2.1) ∧ RelV g o.2.2 q.2) →
 aFill cells aparts = some r → ∃ us, Instr.fill place vs parts = some us ∧ CellsRel g r us.toList := by
 intro parts
 induction parts with
 | nil =>
  intro aparts cells vs r hc hl hp hf
  cases aparts with
  | nil => simp [aFill] at hf; subst hf; exact ⟨vs, rfl, hc⟩
  | cons o rest => simp at hl
 | cons q rest ih =>
  intro aparts cells vs r hc hl hp hf
  cases aparts with
  | nil => simp at hl
  | cons o arest =>
   obtain ⟨off, size, av⟩ := o
   obtain ⟨h1, h2⟩ := hp 0 q (off, size, av) rfl rfl
   simp only [aFill] at hf
   split at hf
   · rename_i cs hcs
     split at hf
     · rename_i hcond
       obtain ⟨hlen, hle⟩ := hcond
       have hcr := h2.cellsRel hcs
       have hvsz : q.2.cells.size = size := by rw [← hlen, ← hcr.1]; simp
       have hle2 : off + q.2.cells.size ≤ vs.size := by have := hc.1; simp at this; omega
       have hput := hc.put (off := off) hcr (by omega)
       have hfold := foldl_set q.2.cells.toList off 0 vs (by simpa using hle2)
       have hzip : q.2.cells.zipIdx.foldl (fun cs x => cs.setIfInBounds (off + x.2) x.1) vs = (q.2.cells.toList.zipIdx 0).foldl (fun cs x => cs.setIfInBounds (off + x.2) x.1) vs := by
        rw [← Array.foldl_toList]; simp
       obtain ⟨us, hus, hrel⟩ := ih arest (aPut cells off cs) (vs.toList.take off ++ q.2.cells.toList ++ vs.toList.drop (off + q.2.cells.toList.length)).toArray r (by simpa using hput) (by simpa using hl)
        (fun k q' o' ha hb => hp (k + 1) q' o' (by simpa using ha) (by simpa using hb)) hf
       refine ⟨us, ?_, hrel⟩
       obtain ⟨qi, qv⟩ := q
       simp only at h1 hvsz hle2 hzip hfold hus ⊢
       rw [Instr.fill, h1]
       simp only [hvsz, ne_eq, not_true, false_or, decide_eq_true_eq]
       rw [if_neg (by rw [hvsz] at hle2; simp; omega)]
       have e1 : (qv.cells.zipIdx.foldl (fun cs (x : Value × Nat) => match x with | (c, j) => cs.setIfInBounds (off + j) c) vs) = (vs.toList.take off ++ qv.cells.toList ++ vs.toList.drop (off + qv.cells.toList.length)).toArray := by
        rw [← Nat.add_zero off, ← hfold]
        simpa using hzip
       rw [e1]
       exact hus
     · cases hf
   · cases hf

theorem op_build (h : SR B w0 σ g w) {t : TypeId} {fs : Array Field} {i : TypeInfo} {z : Value} (hu : P.underlying t = some (.struct fs)) (hi : P.info? t = some i) (hz : i.zero = some z)
 {places : Array (Nat × Nat)} (hpl : ∀ w : World, (fs.mapM fun f => Prod.mk f.offset <$> sizeOf f.type).run P w = .ok places w)
 {za : AV} {zc : List AV} (hza : RelV g za z) (hzc : za.cellsOf = some zc) {parts : Array (Nat × Value)} {aparts : List (Nat × Nat × AV)} (hl : parts.size = aparts.length)
 (hp : ∀ (k : Nat) (q : Nat × Value) (o : Nat × Nat × AV), parts[k]? = some q → aparts[k]? = some o → places[q.1]? = some (o.1, o.2.1) ∧ RelV g o.2.2 q.2) {r : List AV} (hf : aFill zc aparts = some r) :
 OpOK P B w0 g w (do pure (.value (← Instr.build t parts))) (.agg r) σ := by
 have hcr := hza.cellsRel hzc
 obtain ⟨us, hus, hrel⟩ := fill_rel (places[·]?) parts.toList aparts zc z.cells r hcr (by simpa using hl) (fun k q o a b => hp k q o (by simpa using a) b) hf
 refine OpOK.value h (v := .agg us) ?_ (by simpa using RelV.ofCells hrel)
 simp [Instr.build, zeroValue, typeInfo, hi, hz, run_underlying hu, hpl, hus]

theorem op_buildA (h : SR B w0 σ g w) {t e : TypeId} {n : Nat} {i ie : TypeInfo} {z : Value} (hu : P.underlying t = some (.array n e)) (hi : P.info? t = some i) (hz : i.zero = some z) (hie : P.info? e = some ie)
 {za : AV} {zc : List AV} (hza : RelV g za z) (hzc : za.cellsOf = some zc) {parts : Array (Nat × Value)} {aparts : List (Nat × Nat × AV)} (hl : parts.size = aparts.length)
 (hp : ∀ (k : Nat) (q : Nat × Value) (o : Nat × Nat × AV), parts[k]? = some q → aparts[k]? = some o → (o.1 = q.1 * ie.size ∧ o.2.1 = ie.size) ∧ RelV g o.2.2 q.2) {r : List AV} (hf : aFill zc aparts = some r) :
 OpOK P B w0 g w (do pure (.value (← Instr.build t parts))) (.agg r) σ := by
 have hcr := hza.cellsRel hzc
 obtain ⟨us, hus, hrel⟩ := fill_rel (fun i => some (i * ie.size, ie.size)) parts.toList aparts zc z.cells r hcr (by simpa using hl) (fun k q o a b => by
  obtain ⟨⟨h1, h2⟩, h3⟩ := hp k q o (by simpa using a) b
  exact ⟨by rw [h1, h2], h3⟩) hf
 refine OpOK.value h (v := .agg us) ?_ (by simpa using RelV.ofCells hrel)
 simp [Instr.build, zeroValue, typeInfo, hi, hz, run_underlying hu, run_sizeOf' hie, hus]

/-! ### Slice literals -/
theorem fill_lit (sz : Nat) : ∀ (parts : List (Nat × Value)) (es : List (List AV)) (k : Nat) (vs : Array Value),
 (∀ (j : Nat) (q : Nat × Value) (e : List AV), parts[j]? = some q → es[j]? = some e → q.1 = k + j ∧ CellsRel g e q.2.cells.toList ∧ e.length = sz) → parts.length = es.length →
 (k + es.length) * sz ≤ vs.size → ∃ us, Instr.fill (fun i => some (i * sz, sz)) vs parts = some us ∧ us.size = vs.size ∧ (∀ q, q < k * sz → us.getD q undef = vs.getD q undef) ∧
  ∀ (i j : Nat) (e : List AV) (c : AV), es[i]? = some e → e[j]? = some c → RelV g c (us.getD ((k + i) * sz + j) undef) ∧ (us.getD ((k + i) * sz + j) undef).oneCell' = true := by
 intro parts
 induction parts with
 | nil =>
  intro es k vs hp hl hle
  cases es with
  | nil => exact ⟨vs, rfl, rfl, fun _ _ => rfl, by simp⟩
  | cons e es => simp at hl
 | cons q rest ih =>
  intro es k vs hp hl hle
  cases es with
  | nil => simp at hl
  | cons e es =>
   obtain ⟨h1, h2, h3⟩ := hp 0 q e rfl rfl
   simp only [Nat.add_zero] at h1
   have hqs : q.2.cells.size = sz := by rw [← h3, ← h2.1]; simp
   have hk : k * sz + sz ≤ vs.size := by
    have : (k + 1) * sz ≤ (k + (e :: es).length) * sz := Nat.mul_le_mul_right _ (by simp)
    rw [Nat.succ_mul] at this
    omega
   have hfold := foldl_set q.2.cells.toList (k * sz) 0 vs (by simp; omega)
   have hvs' : (vs.toList.take (k * sz) ++ q.2.cells.toList ++ vs.toList.drop (k * sz + q.2.cells.toList.length)).toArray.size = vs.size := by
    simp only [List.size_toArray, List.length_append, List.length_take, List.length_drop, Array.length_toList]; omega
   have hget : ∀ n, (vs.toList.take (k * sz) ++ q.2.cells.toList ++ vs.toList.drop (k * sz + q.2.cells.toList.length)).toArray.getD n undef =
    (if k * sz ≤ n ∧ n < k * sz + q.2.cells.toList.length then q.2.cells.toList.getD (n - k * sz) undef else vs.getD n undef) := by
    intro n
    have := getElem?_splice vs.toList q.2.cells.toList (k * sz) n (by simp only [Array.length_toList]; omega)
    rw [Array.getD_eq_getD_getElem?, List.getElem?_toArray, this]
    split
    · rw [List.getD_eq_getElem?_getD]
    · rw [Array.getD_eq_getD_getElem?, Array.getElem?_toList]
   obtain ⟨us, hus, hsz, hkeep, hrel⟩ := ih es (k + 1) (vs.toList.take (k * sz) ++ q.2.cells.toList ++ vs.toList.drop (k * sz + q.2.cells.toList.length)).toArray
    (fun j q' e' ha hb => by
     obtain ⟨x, y, z⟩ := hp (j + 1) q' e' (by simpa using ha) (by simpa using hb)
     exact ⟨by omega, y, z⟩) (by simpa using hl) (by rw [hvs']; simp at hle; rw [show k + 1 + es.length = k + (es.length + 1) from by omega]; exact hle)
   refine ⟨us, ?_, by rw [hsz, hvs'], fun n hn => ?_, fun i j e' c hi hj => ?_⟩
   · obtain ⟨qi, qv⟩ := q
     simp only at h1 hqs hfold hus ⊢
     rw [Instr.fill]
     subst h1
     dsimp only
     rw [if_neg (by rw [hqs]; simp; omega)]
     have hzip : (qv.cells.zipIdx.foldl (fun cs (x : Value × Nat) => match x with | (c, j) => cs.setIfInBounds (qi * sz + j) c) vs) =
      (vs.toList.take (qi * sz) ++ qv.cells.toList ++ vs.toList.drop (qi * sz + qv.cells.toList.length)).toArray := by
      have e2 := hfold
      simp only [Nat.add_zero] at e2
      rw [← e2, ← Array.foldl_toList]
      simp
     rw [hzip]
     exact hus
   · rw [hkeep n (by rw [Nat.succ_mul]; omega), hget n, if_neg (by omega)]
   · match i, hi with
     | 0, hi =>
      simp at hi
      subst hi
      have hj' : j < sz := by
       rw [← h3]
       rcases Nat.lt_or_ge j e.length with h' | h'
       · exact h'
       · simp [List.getElem?_eq_none h'] at hj
      simp only [Nat.add_zero]
      rw [hkeep _ (by rw [Nat.succ_mul]; omega), hget, if_pos (by simp; omega), Nat.add_sub_cancel_left]
      exact h2.2 j c hj
     | i + 1, hi =>
      simp at hi
      have := hrel i j e' c hi hj
      rwa [show k + 1 + i = k + (i + 1) from by omega] at this

theorem run_lit {t e : TypeId} {i : TypeInfo} {z : Value} (ht : P.underlying t = some (.slice e)) (hi : P.info? e = some i) (hz : i.zero = some z) {parts : Array (Nat × Value)} {es : List (List AV)}
 (hp : ∀ (j : Nat) (q : Nat × Value) (x : List AV), parts[j]? = some q → es[j]? = some x → q.1 = j ∧ CellsRel g x q.2.cells.toList ∧ x.length = i.size) (hl : parts.size = es.length) (hle : es.length * i.size ≤ 16777216) :
 ∃ us, (Instr.buildSlice t es.length parts).run P w = .ok (.slice (some ⟨w.heap.size, 0, none⟩) es.length es.length) (w.alloc (.cells us e)) ∧ us.size = es.length * i.size ∧
  ∀ (a j : Nat) (x : List AV) (c : AV), es[a]? = some x → x[j]? = some c → RelV g c (us.getD (a * i.size + j) undef) ∧ (us.getD (a * i.size + j) undef).oneCell' = true := by
 have hkey : ∀ zs : Array Value, ∃ us, Instr.fill (fun k => some (k * i.size, i.size)) ((Array.range (es.length * i.size)).map (zs[· % zs.size]!)) parts.toList = some us ∧ us.size = es.length * i.size ∧
  ∀ (a j : Nat) (x : List AV) (c : AV), es[a]? = some x → x[j]? = some c → RelV g c (us.getD (a * i.size + j) undef) ∧ (us.getD (a * i.size + j) undef).oneCell' = true := by
  intro zs
  obtain ⟨us, h1, h2, h3, h4⟩ := fill_lit (g := g) i.size parts.toList es 0 ((Array.range (es.length * i.size)).map (zs[· % zs.size]!)) (fun j q x a b => by
   obtain ⟨x1, x2, x3⟩ := hp j q x (by simpa using a) b
   exact ⟨by omega, x2, x3⟩) (by simpa using hl) (by simp)
  exact ⟨us, h1, by simpa using h2, fun a j x c p q => by have := h4 a j x c p q; simpa using this⟩
 have hn : ¬ (16777216 < es.length * i.size) := by omega
 by_cases h0 : es.length * i.size = 0
 · obtain ⟨us, h1, h2, h3⟩ := hkey #[]
   refine ⟨us, ?_, h2, h3⟩
   simp [Instr.buildSlice, run_underlying ht, run_sizeOf' hi, h0, newRow]
   simp [h0] at h1
   simp [h1]
 · obtain ⟨us, h1, h2, h3⟩ := hkey z.cells
   refine ⟨us, ?_, h2, h3⟩
   simp [Instr.buildSlice, run_underlying ht, run_sizeOf' hi, h0, hn, newRow, zeroValue, typeInfo, hi, hz, h1]

theorem op_lit_frozen (h : SR B w0 σ g w) {t e : TypeId} {i : TypeInfo} {z : Value} (ht : P.underlying t = some (.slice e)) (hi : P.info? e = some i) (hz : i.zero = some z) {parts : Array (Nat × Value)} {es : List (List AV)}
 (hp : ∀ (j : Nat) (q : Nat × Value) (x : List AV), parts[j]? = some q → es[j]? = some x → q.1 = j ∧ CellsRel g x q.2.cells.toList ∧ x.length = i.size) (hl : parts.size = es.length) (hle : es.length * i.size ≤ 16777216) (hle2 : es.length ≤ 16777216) :
 OpOK P B w0 g w (do pure (.value (← Instr.buildSlice t es.length parts))) (.list es) σ := by
 obtain ⟨us, hrun, hsz, hrel⟩ := run_lit (g := g) (w := w) ht hi hz hp hl hle
 obtain ⟨hS, hE⟩ := h.allocFrozen us e
 refine OpOK.value' hrun hE hS (.list (s := i.size) (cells := us) (by simp [Ghost.freeze]) (fun x hx => ?_) (by omega) (fun a j x c p q => ?_) (fun a j x c p q => ?_) (Nat.le_refl _) (by simp [maxLen]; omega))
 · obtain ⟨j, hj, rfl⟩ := List.getElem_of_mem hx
   have hj2 : j < parts.size := by omega
   exact (hp j _ _ (Array.getElem?_eq_getElem hj2) (List.getElem?_eq_getElem hj)).2.2
 · rw [Nat.zero_add]; exact (hrel a j x c p q).1.ext hE
 · rw [Nat.zero_add]; exact (hrel a j x c p q).2
theorem op_lit_own (h : SR B w0 σ g w) {t e : TypeId} {i : TypeInfo} {z : Value} (ht : P.underlying t = some (.slice e)) (hi : P.info? e = some i) (hz : i.zero = some z) {parts : Array (Nat × Value)} {es : List (List AV)}
 (hp : ∀ (j : Nat) (q : Nat × Value) (x : List AV), parts[j]? = some q → es[j]? = some x → q.1 = j ∧ CellsRel g x q.2.cells.toList ∧ x.length = i.size) (hl : parts.size = es.length) (hle : es.length * i.size ≤ 16777216) (hle2 : es.length ≤ 16777216) :
 OpOK P B w0 g w (do pure (.value (← Instr.buildSlice t es.length parts))) (.own σ.next 0 i.size 0 es.length) (σ.push (.cells e 0 i.size es)) := by
 obtain ⟨us, hrun, hsz, hrel⟩ := run_lit (g := g) (w := w) ht hi hz hp hl hle
 have hobj : ObjRel g (w.alloc (.cells us e)) ⟨0, w.heap.size, i.size, es.length⟩ (.cells e 0 i.size es) := by
  refine ⟨rfl, rfl, Nat.le_refl _, by simp [maxLen]; omega, us, heap_alloc_new w _, hsz, fun x hx => ?_, hrel⟩
  obtain ⟨j, hj, rfl⟩ := List.getElem_of_mem hx
  have hj2 : j < parts.size := by omega
  exact (hp j _ _ (Array.getElem?_eq_getElem hj2) (List.getElem?_eq_getElem hj)).2.2
 refine OpOK.value' hrun (.take g _) (h.allocOwned _ _ ⟨0, w.heap.size, i.size, es.length⟩ rfl hobj) (.own (by simp [Ghost.take, h.next]) (by simp [maxLen]; omega) ⟨_, _, rfl⟩ fun p hp => ?_)
 simp [Ghost.take, h.next] at hp
 subst hp
 exact ⟨Nat.le_refl _, fun _ => ⟨rfl, by simp, _, by simp; rfl, fun _ => by simp⟩⟩

/-! ### Fields of values -/
theorem op_field (h : SR B w0 σ g w) {t : TypeId} {fs : Array Field} {f : Field} {i : TypeInfo} {d : TypeDesc} {n : Nat} (hu : P.underlying t = some (.struct fs)) (hf : fs[n]? = some f)
 (hd : P.underlying f.type = some d) (hi : P.info? f.type = some i) {agg : Option Nat} (ha : agg = if aggD d then some i.size else none)
 {cs : List AV} {v : Value} (hx : RelV g (.agg cs) v) {r : AV} (hr : aLoad agg cs f.offset = some r) : OpOK P B w0 g w (do pure (.value (← Instr.field t v n))) r σ := by
 cases hx with
 | agg hs hc h1 =>
  rename_i arr
  subst ha
  cases hdd : aggD d with
  | false =>
   simp only [hdd, Bool.false_eq_true, if_false, aLoad] at hr
   have hoff : f.offset < cs.length := by
    rcases Nat.lt_or_ge f.offset cs.length with h' | h'
    · exact h'
    · simp [List.getElem?_eq_none h'] at hr
   refine OpOK.value h (v := arr.getD f.offset undef) ?_ (hc _ r hr)
   have hlt : f.offset < arr.size := by omega
   simp [Instr.field, run_underlying hu, hf, asAgg, part, run_isAgg hd, hdd, hlt]
  | true =>
   simp only [hdd, if_true, aLoad] at hr
   split at hr
   · rename_i hle
     cases hr
     refine OpOK.value h (v := .agg (arr.extract f.offset (f.offset + i.size))) ?_ ?_
     · simp [Instr.field, run_underlying hu, hf, asAgg, part, run_isAgg hd, hdd, run_sizeOf' hi]
     · refine .agg (by simp; omega) (fun j c e => ?_) (fun j c e => ?_) <;>
       · rw [List.getElem?_take] at e
         split at e
         · rename_i hj
           rw [List.getElem?_drop] at e
           have e1 := hc _ c e
           have e2 := h1 _ c e
           have hlt : f.offset + j < arr.size := by
            rcases Nat.lt_or_ge (f.offset + j) cs.length with h' | h'
            · omega
            · simp [List.getElem?_eq_none h'] at e
           have hext : (arr.extract f.offset (f.offset + i.size)).getD j undef = arr.getD (f.offset + j) undef := by
            rw [Array.getD_eq_getD_getElem?, Array.getElem?_extract, if_pos (by omega), ← Array.getD_eq_getD_getElem?]
           rw [hext]
           assumption
         · cases e
   · cases hr

theorem op_extract (h : SR B w0 σ g w) {cs : List AV} {v : Value} (hx : RelV g (.tuple cs) v) {n : Nat} {r : AV} (hr : cs[n]? = some r) : OpOK P B w0 g w (do pure (.value (← Instr.extract v n))) r σ := by
 cases hx with
 | tuple hs hc =>
  rename_i arr
  have hn : n < cs.length := by
   rcases Nat.lt_or_ge n cs.length with h' | h'
   · exact h'
   · simp [List.getElem?_eq_none h'] at hr
  have hn2 : n < arr.size := by omega
  refine OpOK.value h (v := arr.getD n undef) ?_ (hc n r hr)
  simp [Instr.extract, hn2]

/-! ### Lengths -/
theorem run_len {t ty : TypeId} {d : TypeDesc} (hu : P.underlying t = some d) {v : Value} {n : Nat} (hv : (∃ s, d = .string ∧ v = .string s ∧ n = s.size) ∨ (∃ e a c, d = .slice e ∧ v = .slice a n c) ∨ (∃ k e, d = .map k e ∧ v = .map none ∧ n = 0)) :
 (Builtin.len_ #[t] ty #[v]).run P w = .ok (.int .i64 n) w := by
 rcases hv with ⟨s, rfl, rfl, rfl⟩ | ⟨e, a, c, rfl, rfl⟩ | ⟨k, e, rfl, rfl, rfl⟩ <;> simp [Builtin.len_, run_underlying hu, goInt]
theorem op_len_str (h : SR B w0 σ g w) {t ty : TypeId} (hu : P.underlying t = some .string) {s : ByteArray} {v : Value} (hx : RelV g (.str s) v) :
 OpOK P B w0 g w (do pure (.value (← Builtin.len_ #[t] ty #[v]))) (.int .i64 s.size) σ := by
 cases hx with
 | str s hs => exact OpOK.value h (run_len hu (.inl ⟨s, rfl, rfl, rfl⟩)) (.int _ _)
theorem op_len_nils (h : SR B w0 σ g w) {t ty e : TypeId} (hu : P.underlying t = some (.slice e)) {v : Value} (hx : RelV g .nils v) :
 OpOK P B w0 g w (do pure (.value (← Builtin.len_ #[t] ty #[v]))) (.int .i64 0) σ := by
 cases hx with
 | nils => exact OpOK.value h (run_len hu (n := 0) (.inr (.inl ⟨e, none, 0, rfl, rfl⟩))) (.int _ _)
theorem op_len_list (h : SR B w0 σ g w) {t ty e : TypeId} (hu : P.underlying t = some (.slice e)) {es : List (List AV)} {v : Value} (hx : RelV g (.list es) v) :
 OpOK P B w0 g w (do pure (.value (← Builtin.len_ #[t] ty #[v]))) (.int .i64 es.length) σ := by
 cases hx with
 | listNil a c => exact OpOK.value h (run_len hu (n := 0) (.inr (.inl ⟨e, a, c, rfl, rfl⟩))) (.int _ _)
 | list => exact OpOK.value h (run_len hu (.inr (.inl ⟨e, _, _, rfl, rfl⟩))) (.int _ _)
theorem op_len_own (h : SR B w0 σ g w) {t ty e : TypeId} (hu : P.underlying t = some (.slice e)) {id ver sz off len : Nat} {v : Value} (hx : RelV g (.own id ver sz off len) v) :
 OpOK P B w0 g w (do pure (.value (← Builtin.len_ #[t] ty #[v]))) (.int .i64 len) σ := by
 cases hx with
 | own hid hlen hv hp =>
  obtain ⟨a, c, rfl⟩ := hv
  exact OpOK.value h (run_len hu (.inr (.inl ⟨e, _, _, rfl, rfl⟩))) (.int _ _)

/-! ### Cuts -/
theorem run_cut_slice {t e : TypeId} {i : TypeInfo} (hu : P.underlying t = some (.slice e)) (hi : P.info? e = some i) {a : Option Addr} {len cap : Nat} {lo hi' : Option Value} {l hh : Nat}
 (hlo : (lo = none ∧ l = 0) ∨ ∃ k, lo = some (.int k l)) (hhi : (hi' = none ∧ hh = len) ∨ ∃ k, hi' = some (.int k hh)) (h1 : l ≤ hh) (h2 : hh ≤ cap) :
 (Instr.sliceAt t (.slice a len cap) lo hi' none).run P w = .ok (.slice (if cap = l then a else a.map (·.add (l * i.size))) (hh - l) (cap - l)) w := by
 rcases hlo with ⟨rfl, rfl⟩ | ⟨k, rfl⟩ <;> rcases hhi with ⟨rfl, rfl⟩ | ⟨k', rfl⟩ <;>
  simp [Instr.sliceAt, run_underlying hu, Instr.slice, Instr.sliceBounds, Instr.sliceBound, asIntOf, run_sizeOf' hi, h1, h2, Nat.le_trans h1 h2]

theorem op_cut_list (h : SR B w0 σ g w) {t e : TypeId} {i : TypeInfo} (hu : P.underlying t = some (.slice e)) (hi : P.info? e = some i) {es : List (List AV)} {v : Value} (hx : RelV g (.list es) v) {lo hi' : Option Value} {l hh : Nat}
 (hsz : ∀ q, q ∈ es → q.length = i.size)
 (hlo : (lo = none ∧ l = 0) ∨ ∃ k, lo = some (.int k l)) (hhi : (hi' = none ∧ hh = es.length) ∨ ∃ k, hi' = some (.int k hh)) (h1 : l ≤ hh) (h2 : hh ≤ es.length) :
 OpOK P B w0 g w (do pure (.value (← Instr.sliceAt t v lo hi' none))) (.list ((es.take hh).drop l)) σ := by
 cases hx with
 | listNil a c =>
  simp at h2
  subst h2
  have : l = 0 := by omega
  subst this
  exact OpOK.value h (run_cut_slice hu hi hlo hhi h1 (Nat.zero_le _)) (by simpa using RelV.listNil _ _)
 | list hΦ hs hb hc h1' hn hcap =>
  rename_i blk off cap s cells
  have hrun := run_cut_slice (P := P) (w := w) hu hi (a := some ⟨blk, off, none⟩) (cap := cap) hlo hhi h1 (by omega)
  have hl : ((es.take hh).drop l).length = hh - l := by simp; omega
  by_cases he : hh - l = 0
  · have : (es.take hh).drop l = [] := List.eq_nil_of_length_eq_zero (by omega)
    rw [this]
    rw [he] at hrun
    exact OpOK.value h hrun (.listNil _ _)
  · have hss : s = i.size := by
     have hm : es ≠ [] := fun e => by subst e; simp at h2; omega
     obtain ⟨q, rest, rfl⟩ := List.exists_cons_of_ne_nil hm
     rw [← hs q (by simp), hsz q (by simp)]
    subst hss
    have hadd : (⟨blk, off, none⟩ : Addr).add (l * i.size) = ⟨blk, off + l * i.size, none⟩ := by unfold Addr.add; split <;> simp_all
    rw [if_neg (by omega)] at hrun
    simp only [Option.map_some, hadd] at hrun
    have hge : ∀ (a : Nat) (x : List AV), ((es.take hh).drop l)[a]? = some x → es[l + a]? = some x := by
     intro a x ha
     rw [List.getElem?_drop, List.getElem?_take] at ha
     split at ha
     · exact ha
     · cases ha
    have key : RelV g (.list ((es.take hh).drop l)) (.slice (some ⟨blk, off + l * i.size, none⟩) ((es.take hh).drop l).length (cap - l)) := by
     refine .list (s := i.size) (cells := cells) hΦ (fun x hm => hs x (List.mem_of_mem_take (List.mem_of_mem_drop hm))) ?_ (fun a j x c ha hj => ?_) (fun a j x c ha hj => ?_) (by omega) (by omega)
     · rw [hl]
       have : (l + (hh - l)) * i.size ≤ es.length * i.size := Nat.mul_le_mul_right _ (by omega)
       rw [Nat.add_mul] at this
       omega
     · have := hc (l + a) j x c (hge a x ha) hj
       rwa [Nat.add_mul, ← Nat.add_assoc] at this
     · have := h1' (l + a) j x c (hge a x ha) hj
       rwa [Nat.add_mul, ← Nat.add_assoc] at this
    rw [hl] at key
    exact OpOK.value h hrun key

theorem op_cut_own (h : SR B w0 σ g w) {t e : TypeId} {i : TypeInfo} (hu : P.underlying t = some (.slice e)) (hi : P.info? e = some i) {id ver off len : Nat} {v : Value} (hx : RelV g (.own id ver i.size off len) v) {lo hi' : Option Value} {l hh : Nat}
 {o : AObj} (ho : σ.get id = some o) (hver : ∀ p, g.pl id = some p → p.ver = ver)
 (hlo : (lo = none ∧ l = 0) ∨ ∃ k, lo = some (.int k l)) (hhi : (hi' = none ∧ hh = len) ∨ ∃ k, hi' = some (.int k hh)) (h1 : l ≤ hh) (h2 : hh ≤ len) :
 OpOK P B w0 g w (do pure (.value (← Instr.sliceAt t v lo hi' none))) (.own id ver i.size (off + l) (hh - l)) σ := by
 cases hx with
 | own hid hlen hv hp =>
  obtain ⟨p, hpp, -⟩ := h.objs id o ho
  obtain ⟨hs, hcap, a, rfl, ha⟩ := (hp p hpp).2 (hver p hpp)
  have hrun := run_cut_slice (P := P) (w := w) hu hi (a := some a) (len := len) (cap := p.cap - off) hlo hhi h1 (by omega)
  refine OpOK.value h hrun (.own hid (by omega) ?_ fun q hq => ⟨(hp q hq).1, fun _ => ?_⟩)
  · split <;> exact ⟨_, _, rfl⟩
  · rw [hpp] at hq
    cases hq
    refine ⟨hs, by omega, ?_⟩
    by_cases hc : p.cap - off = l
    · rw [if_pos hc]
      refine ⟨a, by rw [Nat.sub_sub], fun hcond => ?_⟩
      have : off = 0 ∧ l = 0 ∧ p.cap = 0 := by omega
      obtain ⟨rfl, rfl, _⟩ := this
      simpa using ha (.inl rfl)
    · rw [if_neg hc]
      have ha' := ha (by right; omega)
      subst ha'
      have hadd : (⟨p.blk, off * i.size, none⟩ : Addr).add (l * i.size) = ⟨p.blk, (off + l) * i.size, none⟩ := by rw [Nat.add_mul]; unfold Addr.add; split <;> simp_all
      exact ⟨⟨p.blk, (off + l) * i.size, none⟩, by rw [Option.map_some, hadd, Nat.sub_sub], fun _ => rfl⟩

theorem op_cut_nils (h : SR B w0 σ g w) {t e : TypeId} {i : TypeInfo} (hu : P.underlying t = some (.slice e)) (hi : P.info? e = some i) {v : Value} (hx : RelV g .nils v) {lo hi' : Option Value}
 (hlo : (lo = none) ∨ ∃ k, lo = some (.int k 0)) (hhi : (hi' = none) ∨ ∃ k, hi' = some (.int k 0)) :
 OpOK P B w0 g w (do pure (.value (← Instr.sliceAt t v lo hi' none))) .nils σ := by
 cases hx with
 | nils =>
  have hrun := run_cut_slice (P := P) (w := w) hu hi (a := none) (len := 0) (cap := 0) (l := 0) (hh := 0) (lo := lo) (hi' := hi') (by rcases hlo with rfl | ⟨k, rfl⟩ <;> simp) (by rcases hhi with rfl | ⟨k, rfl⟩ <;> simp) (Nat.le_refl _) (Nat.le_refl _)
  exact OpOK.value h hrun (by simpa using RelV.nils)

theorem op_cut_str (h : SR B w0 σ g w) {t : TypeId} (hu : P.underlying t = some .string) {s : ByteArray} {v : Value} (hx : RelV g (.str s) v) {lo hi' : Option Value} {l hh : Nat}
 (hlo : (lo = none ∧ l = 0) ∨ ∃ k, lo = some (.int k l)) (hhi : (hi' = none ∧ hh = s.size) ∨ ∃ k, hi' = some (.int k hh)) (h1 : l ≤ hh) (h2 : hh ≤ s.size) :
 OpOK P B w0 g w (do pure (.value (← Instr.sliceAt t v lo hi' none))) (.str (s.extract l hh)) σ := by
 cases hx with
 | str s hs =>
  refine OpOK.value h (v := .string (s.extract l hh)) ?_ (.str _ (by simp; omega))
  rcases hlo with ⟨rfl, rfl⟩ | ⟨k, rfl⟩ <;> rcases hhi with ⟨rfl, rfl⟩ | ⟨k', rfl⟩ <;>
   simp [Instr.sliceAt, run_underlying hu, Instr.slice, Instr.sliceBounds, Instr.sliceBound, asIntOf, h1, h2, Nat.le_trans h1 h2]

theorem op_index_str (h : SR B w0 σ g w) {t : TypeId} (hu : P.underlying t = some .string) {s : ByteArray} {v : Value} (hx : RelV g (.str s) v) {k : IntKind} {n : Int} (h0 : 0 ≤ n) {b : UInt8} (hb : s.data.toList[n.toNat]? = some b) :
 OpOK P B w0 g w (do pure (.value (← Instr.index t v (.int k n)))) (.int .u8 b.toNat) σ := by
 cases hx with
 | str s hs =>
  have hlt : n.toNat < s.size := by
   rcases Nat.lt_or_ge n.toNat s.data.toList.length with h' | h'
   · simpa using h'
   · simp [List.getElem?_eq_none h'] at hb
  have hg : s[n.toNat]? = some b := by
   rw [getElem?_pos s n.toNat hlt]
   have : s.data.toList[n.toNat]? = some s[n.toNat] := by
    rw [List.getElem?_eq_getElem (by simpa using hlt)]
    rfl
   rw [this] at hb
   exact hb
  refine OpOK.value h (v := .int .u8 b.toNat) ?_ (.int _ _)
  simp [Instr.index, asIntOf, run_underlying hu, h0, hg]
end
end Go.AL
set_option linter.unusedVariables false
set_option linter.unusedSimpArgs false
namespace Go.AL
open Go.RowKit

inductive K1 where
 | int | str | bool
 deriving DecidableEq
inductive KK where
 | int | str | bool | row (ks : List K1)
 deriving DecidableEq
def K1.fits : K1 → TypeDesc → Bool
 | .int, .int _ => true
 | .str, .string => true
 | .bool, .bool => true
 | _, _ => false
def eq1 : K1 → AV → AV → Option Bool
 | .int, .int k x, .int k' y => if k = k' then some (decide (x = y)) else none
 | .str, .str x, .str y => some (decide (x = y))
 | .bool, .bool x, .bool y => some (decide (x = y))
 | _, _, _ => none
def eqFs : List K1 → List AV → List AV → Option Bool
 | [], [], [] => some true
 | k :: r, x :: a, y :: b => match eq1 k x y, eqFs r a b with | some c, some d => some (c && d) | _, _ => none
 | _, _, _ => none
def KK.fits : KK → TypeDesc → Bool
 | .int, .int _ => true
 | .str, .string => true
 | .bool, .bool => true
 | _, _ => false

def aBin (kd : KK) (op : BinOp) (a b : AV) : Option AV :=
 match kd, a, b with
 | .int, .int k x, .int k' y =>
  if k = k' then
   match op with
   | .add => some (.int k (k.wrap (x + y)))
   | .sub => some (.int k (k.wrap (x - y)))
   | .mul => some (.int k (k.wrap (x * y)))
   | .quo => if y = 0 then none else some (.int k (k.wrap (x.tdiv y)))
   | .rem => if y = 0 then none else some (.int k (x.tmod y))
   | .and => some (.int k (k.wrap (BitVec.ofInt k.bits x &&& BitVec.ofInt k.bits y).toNat))
   | .or => some (.int k (k.wrap (BitVec.ofInt k.bits x ||| BitVec.ofInt k.bits y).toNat))
   | .xor => some (.int k (k.wrap (BitVec.ofInt k.bits x ^^^ BitVec.ofInt k.bits y).toNat))
   | .eql => some (.bool (decide (x = y)))
   | .neq => some (.bool (!decide (x = y)))
   | .lss => some (.bool (decide (x < y)))
   | .leq => some (.bool (decide (x ≤ y)))
   | .gtr => some (.bool (decide (y < x)))
   | .geq => some (.bool (decide (y ≤ x)))
   | .shl => if y < 0 then none else some (.int k (k.wrap (x * 2 ^ min y.toNat k.bits)))
   | .shr => if y < 0 then none else some (.int k (x.fdiv (2 ^ min y.toNat k.bits)))
   | _ => none
  else none
 | .str, .str x, .str y =>
  match op with
  | .add => if x.size + y.size ≤ maxLen then some (.str (x ++ y)) else none
  | .eql => some (.bool (decide (x = y)))
  | .neq => some (.bool (!decide (x = y)))
  | .lss => some (.bool (Op.bytesLess x.toList y.toList))
  | .leq => some (.bool (Op.bytesLess x.toList y.toList || decide (x = y)))
  | .gtr => some (.bool (!(Op.bytesLess x.toList y.toList || decide (x = y))))
  | .geq => some (.bool (!Op.bytesLess x.toList y.toList))
  | _ => none
 | .bool, .bool x, .bool y =>
  match op with
  | .eql => some (.bool (decide (x = y)))
  | .neq => some (.bool (!decide (x = y)))
  | _ => none
 | .row ks, .agg a, .agg b =>
  match op with
  | .eql => (match eqFs ks a b with | some r => some (.bool r) | none => none)
  | .neq => (match eqFs ks a b with | some r => some (.bool (!r)) | none => none)
  | _ => none
 | _, _, _ => none

def AV.scal : AV → Value
 | .int k n => .int k n
 | .str s => .string s
 | .bool b => .bool b
 | _ => undef

inductive NK where
 | ptr | slice | map | func
 deriving DecidableEq
def NK.fits : NK → TypeDesc → Bool
 | .ptr, .pointer _ => true
 | .slice, .slice _ => true
 | .map, .map _ _ => true
 | .func, .func _ _ _ => true
 | _, _ => false

def aNil (k : NK) (x : AV) : Option Bool :=
 match k, x with
 | .ptr, .nilp => some true
 | .ptr, .ptr .. => some false
 | .ptr, .rptr .. => some false
 | .slice, .nils => some true
 | .slice, .own .. => some false
 | .slice, .list (_ :: _) => some false
 | .map, .nilm => some true
 | .map, .map .. => some false
 | .func, .nilf => some true
 | .func, .fn .. => some false
 | _, _ => none

def aNilEq (k : NK) (neg : Bool) (x y : AV) : Option AV :=
 match aNil k x, aNil k y with
 | some true, some b => some (.bool (b != neg))
 | some b, some true => some (.bool (b != neg))
 | _, _ => none

theorem toList_beq (x y : ByteArray) : (x.toList == y.toList) = decide (x = y) := by
 rw [← beq_toListBytes]
 by_cases h : x = y
 · subst h
   simp
   rw [beq_toListBytes]
   simp
 · have : ¬ (x == y) = true := fun hb => by
    rw [beq_toListBytes, ByteArray.toList_eq, ByteArray.toList_eq] at hb
    have hb2 := eq_of_beq hb
    exact h (by cases x; cases y; simp_all [Array.ext_iff, ← Array.toList_inj])
   simp [h]
   simpa using this

section
variable {P : Program} {B : Nat} {w0 : World} {σ : Store} {g : Ghost} {w : World}

theorem run_eqGuard {op : BinOp} {t : TypeId} {x y : Operand} {a b : Value} (ha : ∀ cs, a ≠ .agg cs) (hn : a ≠ .nilIface) : (eqGuard op t x y a b).run P w = .ok () w := by
 cases op <;> cases a <;> first | (simp [eqGuard]; done) | (exact absurd rfl (ha _)) | (exact absurd rfl hn)


theorem run_bin {kd : KK} {op : BinOp} {t : TypeId} {d : TypeDesc} (hu : P.underlying t = some d) (hd : kd.fits d = true) {x y r : AV} {vx vy : Value} (hx : RelV g x vx) (hy : RelV g y vy) (hr : aBin kd op x y = some r) :
    (Go.binOp op t vx vy).run P w = .ok r.scal w ∧ RelV g r r.scal ∧ (∀ cs, vx ≠ .agg cs) ∧ vx ≠ .nilIface := by
  unfold aBin at hr
  split at hr
  · rename_i k a k' b
    cases hx; cases hy
    split at hr
    · rename_i hk
      subst hk
      refine ⟨?_, ?_, by simp, by simp⟩
      · cases op <;> simp only [reduceCtorEq] at hr <;>
          first
          | (split at hr
             · cases hr
             · rename_i hz
               cases hr
               simp [Go.binOp, Op.intDiv, Op.shift, hz, AV.scal]; try rfl)
          | (cases hr; simp [Go.binOp, Op.intArith, Op.intBits, Op.intCmp, AV.scal]; done)
          | (cases hr; simp [Go.binOp, Op.intArith, Op.intBits, Op.intCmp, AV.scal]; rfl)
          | (cases hr; rfl)
      · cases op <;> simp only [reduceCtorEq] at hr <;>
          first
          | (split at hr
             · cases hr
             · cases hr; constructor)
          | (cases hr; constructor)
    · cases hr
  · rename_i a b
    cases hx; cases hy
    refine ⟨?_, ?_, by simp, by simp⟩
    · cases op <;> simp only [reduceCtorEq] at hr <;>
        first
        | (split at hr
           · rename_i hle
             cases hr
             have hn : ¬ (IntKind.i64.max < ((a.size + b.size : Nat) : Int)) := by simp [IntKind.max, IntKind.bits, IntKind.signed, maxLen] at hle ⊢; omega
             simp only [Go.binOp, Op.stringOp, AV.scal, gt_iff_lt, if_neg hn]
             rfl
           · cases hr)
        | (cases hr; simp [Go.binOp, Op.stringOp, toList_beq, AV.scal]; done)
    · cases op <;> simp only [reduceCtorEq] at hr <;>
        first
        | (split at hr
           · rename_i hle
             cases hr
             exact .str _ (by simpa using hle)
           · cases hr)
        | (cases hr; constructor)
  · rename_i a b
    cases hx; cases hy
    have hdb : d = .bool := by cases d <;> simp_all [KK.fits]
    subst hdb
    refine ⟨?_, ?_, by simp, by simp⟩
    · have he : (Op.equal t (.bool a) (.bool b)).run P w = .ok (a == b) w := run_equalIn_bool' w 9999 t a b hu
      have hdec : (a == b) = decide (a = b) := by cases a <;> cases b <;> rfl
      cases op <;> simp only [reduceCtorEq] at hr <;> cases hr
      · show ((do pure (Value.bool (← Op.equal t (.bool a) (.bool b)))) : Sem Value).run P w = _
        rw [Sem.run_bind, he, hdec]; rfl
      · show ((do pure (Value.bool (!(← Op.equal t (.bool a) (.bool b))))) : Sem Value).run P w = _
        rw [Sem.run_bind, he, hdec]; rfl
    · cases op <;> simp only [reduceCtorEq] at hr <;> cases hr <;> constructor
  · cases d <;> simp [KK.fits] at hd
  · cases hr
theorem op_bin (h : SR B w0 σ g w) {kd : KK} {op : BinOp} {t : TypeId} {d : TypeDesc} (hu : P.underlying t = some d) (hd : kd.fits d = true) {ox oy : Operand} {x y r : AV} {vx vy : Value} (hx : RelV g x vx) (hy : RelV g y vy) (hr : aBin kd op x y = some r) :
 OpOK P B w0 g w (do pure (.value (← (do eqGuard op t ox oy vx vy; Go.binOp op t vx vy)))) r σ := by
 obtain ⟨h1, h2, h3, h4⟩ := run_bin (w := w) hu hd hx hy hr
 refine OpOK.value h (v := r.scal) ?_ h2
 rw [Sem.run_bind, run_eqGuard h3 h4]
 exact h1

theorem run_equalIn_nil (n : Nat) {k : NK} {t : TypeId} {d : TypeDesc} (hu : P.underlying t = some d) (hd : k.fits d = true) {x y : AV} {vx vy : Value} (hx : RelV g x vx) (hy : RelV g y vy) {b : Bool}
 (hr : (aNil k x = some true ∧ aNil k y = some b) ∨ (aNil k x = some b ∧ aNil k y = some true)) : (Op.equalIn (n + 1) t vx vy).run P w = .ok b w := by
 have shape : ∀ {z : AV} {v : Value} {c : Bool}, RelV g z v → aNil k z = some c →
  (k = .ptr ∧ ((c = true ∧ v = .pointer none) ∨ (c = false ∧ ∃ a, v = .pointer (some a)))) ∨ (k = .slice ∧ ((c = true ∧ v = .slice none 0 0) ∨ (c = false ∧ ∃ a l m, v = .slice (some a) l m))) ∨
  (k = .map ∧ ((c = true ∧ v = .map none) ∨ (c = false ∧ ∃ r, v = .map (some r)))) ∨ (k = .func ∧ ((c = true ∧ v = .nilFunc) ∨ (c = false ∧ ∃ f a l, v = .func f a l))) := by
  intro z v c hz hc
  unfold aNil at hc
  split at hc <;> simp only [Option.some.injEq, reduceCtorEq] at hc <;> subst hc <;> cases hz <;> simp_all
  case own hid hlen hv hp => obtain ⟨a, c, rfl⟩ := hv; simp
 rcases hr with ⟨a1, a2⟩ | ⟨a1, a2⟩
 · have sx := shape hx a1
   have sy := shape hy a2
   cases k <;> cases d <;> simp [NK.fits] at hd <;> simp at sx sy <;> subst sx <;>
    rcases sy with ⟨rfl, rfl⟩ | ⟨rfl, sy⟩ <;> (try obtain ⟨a, rfl⟩ := sy) <;> (try obtain ⟨l, m, rfl⟩ := sy) <;> (try obtain ⟨a, l, m, rfl⟩ := sy) <;> simp [Op.equalIn, run_underlying hu]
 · have sx := shape hx a1
   have sy := shape hy a2
   cases k <;> cases d <;> simp [NK.fits] at hd <;> simp at sx sy <;> subst sy <;>
    rcases sx with ⟨rfl, rfl⟩ | ⟨rfl, sx⟩ <;> (try obtain ⟨a, rfl⟩ := sx) <;> (try obtain ⟨l, m, rfl⟩ := sx) <;> (try obtain ⟨a, l, m, rfl⟩ := sx) <;> simp [Op.equalIn, run_underlying hu]
def refLike : Value → Bool
 | .pointer _ => true
 | .slice _ _ _ => true
 | .map _ => true
 | .func _ _ _ => true
 | .nilFunc => true
 | _ => false
theorem RelV.ptr_form {id ver i off : Nat} {v : Value} (h : RelV g (.ptr id ver i off) v) : ∃ a, v = .pointer (some a) := by cases h with | ptr hid hp h1 => exact h1
theorem RelV.own_form {id ver sz off len : Nat} {v : Value} (h : RelV g (.own id ver sz off len) v) : ∃ a c, v = .slice (some a) len c := by cases h with | own hid hlen hv hp => exact hv
theorem RelV.map_form {id : Nat} {v : Value} (h : RelV g (.map id) v) : ∃ r, v = .map (some r) := by cases h with | map hid hp h1 => exact h1
theorem RelV.refLike {k : NK} {z : AV} {v : Value} {c : Bool} (hz : RelV g z v) (hc : aNil k z = some c) : refLike v = true := by
 unfold aNil at hc
 split at hc <;> simp only [Option.some.injEq, reduceCtorEq] at hc <;>
  first
  | (obtain ⟨a, rfl⟩ := hz.ptr_form; rfl)
  | (obtain ⟨a, c, rfl⟩ := hz.own_form; rfl)
  | (obtain ⟨a, rfl⟩ := hz.map_form; rfl)
  | (cases hz; rfl)
theorem binOp_eql_ref {t : TypeId} {x y : Value} (hx : refLike x = true) (hy : refLike y = true) : Go.binOp .eql t x y = (do pure (.bool (← Op.equal t x y))) := by
 cases x <;> simp [refLike] at hx <;> cases y <;> simp [refLike] at hy <;> rfl
theorem binOp_neq_ref {t : TypeId} {x y : Value} (hx : refLike x = true) (hy : refLike y = true) : Go.binOp .neq t x y = (do pure (.bool (!(← Op.equal t x y)))) := by
 cases x <;> simp [refLike] at hx <;> cases y <;> simp [refLike] at hy <;> rfl
theorem aNilEq_some {k : NK} {neg : Bool} {x y r : AV} (h : aNilEq k neg x y = some r) : ∃ b, r = .bool (b != neg) ∧ ((aNil k x = some true ∧ aNil k y = some b) ∨ (aNil k x = some b ∧ aNil k y = some true)) := by
 unfold aNilEq at h
 split at h
 · rename_i b h1 h2; cases h; exact ⟨b, rfl, .inl ⟨h1, h2⟩⟩
 · rename_i b hne h1 h2; cases h; exact ⟨b, rfl, .inr ⟨h1, h2⟩⟩
 · cases h
theorem op_nileq (h : SR B w0 σ g w) {k : NK} {neg : Bool} {op : BinOp} (hop : op = if neg then .neq else .eql) {t : TypeId} {d : TypeDesc} (hu : P.underlying t = some d) (hd : k.fits d = true) {ox oy : Operand} {x y r : AV} {vx vy : Value}
 (hx : RelV g x vx) (hy : RelV g y vy) (hr : aNilEq k neg x y = some r) : OpOK P B w0 g w (do pure (.value (← (do eqGuard op t ox oy vx vy; Go.binOp op t vx vy)))) r σ := by
 obtain ⟨b, rfl, hb⟩ := aNilEq_some hr
 have hrx : refLike vx = true := by rcases hb with ⟨a, _⟩ | ⟨a, _⟩ <;> exact hx.refLike a
 have hry : refLike vy = true := by rcases hb with ⟨_, a⟩ | ⟨_, a⟩ <;> exact hy.refLike a
 have he : (Op.equal t vx vy).run P w = .ok b w := run_equalIn_nil 9999 hu hd hx hy hb
 have hg : (eqGuard op t ox oy vx vy).run P w = .ok () w := run_eqGuard (by rintro cs rfl; simp [AL.refLike] at hrx) (by rintro rfl; simp [AL.refLike] at hrx)
 subst hop
 cases neg
 · refine OpOK.value h (v := .bool b) ?_ (by simpa using RelV.bool b)
   rw [Sem.run_bind, hg, Result.andThen_ok]
   simp only [Bool.false_eq_true, if_false, binOp_eql_ref hrx hry, Sem.run_bind, he, Result.andThen_ok, Sem.run_pure]
 · refine OpOK.value h (v := .bool (!b)) ?_ (by simpa using RelV.bool (!b))
   rw [Sem.run_bind, hg, Result.andThen_ok]
   simp only [if_true, binOp_neq_ref hrx hry, Sem.run_bind, he, Result.andThen_ok, Sem.run_pure]

/-! ### Maps -/
def keyEq (kd : KK) (a b : AV) : Option Bool :=
 match kd, a, b with
 | .int, .int k x, .int k' y => if k = k' then some (decide (x = y)) else none
 | .str, .str x, .str y => some (decide (x = y))
 | .bool, .bool x, .bool y => some (decide (x = y))
 | .row ks, .agg a, .agg b => eqFs ks a b
 | _, _, _ => none
def keyOK : KK → AV → Bool
 | .row ks, .agg a => a.length == ks.length
 | .row _, _ => false
 | _, _ => true
def aFind (kd : KK) (k : AV) : List (AV × AV) → Nat → Option (Option (Nat × AV))
 | [], _ => match keyOK kd k with | true => some none | false => none
 | (k', v) :: rest, i =>
  match keyEq kd k k' with
  | some true => some (some (i, v))
  | some false => aFind kd k rest (i + 1)
  | none => none

def findVal (za : AV) : Option (Nat × AV) → AV
 | some (_, v) => v
 | none => za
def mapPut (es : List (AV × AV)) (k x : AV) : Option (Nat × AV) → List (AV × AV)
 | some (n, _) => es.set n (k, x)
 | none => es ++ [(k, x)]

theorem sameNow_rel {kd : KK} {d : TypeDesc} (hd : kd.fits d = true) {a b : AV} {va vb : Value} (ha : RelV g a va) (hb : RelV g b vb) {c : Bool} (h : keyEq kd a b = some c) : Instr.sameNow d va vb = some c := by
 unfold keyEq at h
 split at h
 · split at h
   · rename_i hk; subst hk; cases h; cases ha; cases hb
     cases d <;> simp_all [KK.fits, Instr.sameNow]
     rfl
   · cases h
 · cases h; cases ha; cases hb
   cases d <;> simp_all [KK.fits, Instr.sameNow]
   rw [beq_toListBytes, toList_beq]
 · cases h; cases ha; cases hb
   cases d <;> simp_all [KK.fits, Instr.sameNow]
   rename_i x y; cases x <;> cases y <;> rfl
 · cases d <;> simp [KK.fits] at hd
 · cases h

theorem findNow_rel {kd : KK} {d : TypeDesc} (hd : kd.fits d = true) {k : AV} {vk : Value} (hk : RelV g k vk) : ∀ (es : List (AV × AV)) (entries : List MapEntry) (i : Nat) (r : Option (Nat × AV)),
 entries.length = es.length → (∀ (j : Nat) (a b : AV), es[j]? = some (a, b) → ∃ e : MapEntry, entries[j]? = some e ∧ RelV g a e.key ∧ RelV g b e.val) → aFind kd k es i = some r →
 (r = none ∧ Instr.findNow d vk entries i = some none) ∨ ∃ n v u, r = some (n, v) ∧ Instr.findNow d vk entries i = some (some (n, u)) ∧ RelV g v u ∧ i ≤ n ∧ ∃ e : MapEntry, entries[n - i]? = some e ∧ Instr.sameNow d vk e.key = some true ∧ e.val = u := by
 intro es
 induction es with
 | nil =>
  intro entries i r hl he hf
  have : entries = [] := List.eq_nil_of_length_eq_zero (by simpa using hl)
  subst this
  simp only [aFind] at hf
  split at hf
  · cases hf
    exact .inl ⟨rfl, rfl⟩
  · cases hf
 | cons q rest ih =>
  intro entries i r hl he hf
  obtain ⟨k', v⟩ := q
  cases entries with
  | nil => simp at hl
  | cons e0 erest =>
   obtain ⟨e, he0, hka, hva⟩ := he 0 k' v rfl
   simp at he0
   subst he0
   simp only [aFind] at hf
   split at hf
   · rename_i hq
     cases hf
     refine .inr ⟨i, v, e0.val, rfl, ?_, hva, Nat.le_refl _, e0, by simp, sameNow_rel hd hk hka hq, rfl⟩
     simp [Instr.findNow, sameNow_rel hd hk hka hq]
   · rename_i hq
     have hs := sameNow_rel hd hk hka hq
     rcases ih erest (i + 1) r (by simpa using hl) (fun j a b hj => by
      obtain ⟨e, x, y⟩ := he (j + 1) a b (by simpa using hj)
      exact ⟨e, by simpa using x, y⟩) hf with ⟨h1, h2⟩ | ⟨n, v', u, h1, h2, h3, h4, e, h5, h6, h7⟩
     · exact .inl ⟨h1, by simp [Instr.findNow, hs, h2]⟩
     · refine .inr ⟨n, v', u, h1, by simp [Instr.findNow, hs, h2], h3, by omega, e, ?_, h6, h7⟩
       rw [show n - i = (n - (i + 1)) + 1 from by omega]
       simpa using h5
   · cases hf

/-! ### Structs of plain values -/
def matchF (P : Program) : Nat → List Field → List K1 → Bool
 | _, [], [] => true
 | o, f :: l, k :: r => decide (f.name ≠ "_") && decide (f.offset = o) && (match P.underlying f.type with | some d => k.fits d | none => false) && matchF P (o + 1) l r
 | _, _, _ => false
def arrFits (P : Program) (n : Nat) (e : TypeId) (ks : List K1) : Bool :=
 match P.underlying e, P.info? e with
 | some d, some i => Nat.beq i.size 1 && Nat.beq (P.cellsOf e) 1 && Nat.beq ks.length n && ks.all fun k => k.fits d
 | _, _ => false
def recFits (P : Program) (t : TypeId) (ks : List K1) : Bool :=
 match P.underlying t with
 | some (.struct fs) => !P.stoodInHeld t && !P.eqGuardType P.depth t && matchF P 0 fs.toList ks
 | some (.array n e) => !P.eqGuardType P.depth t && arrFits P n e ks
 | _ => false
theorem arrFits_some {n : Nat} {e : TypeId} {ks : List K1} (h : arrFits P n e ks = true) : ∃ d i, P.underlying e = some d ∧ P.info? e = some i ∧ i.size = 1 ∧ P.cellsOf e = 1 ∧ ks.length = n ∧ ∀ k, k ∈ ks → k.fits d = true := by
 unfold arrFits at h
 split at h
 · rename_i d i hd hi
   simp only [Bool.and_eq_true] at h
   exact ⟨d, i, hd, hi, Nat.eq_of_beq_eq_true h.1.1.1, Nat.eq_of_beq_eq_true h.1.1.2, Nat.eq_of_beq_eq_true h.1.2, fun k hk => List.all_eq_true.1 h.2 k hk⟩
 · cases h
theorem run_part1 {t : TypeId} {d : TypeDesc} {k : K1} (hu : P.underlying t = some d) (hd : k.fits d = true) {xs : Array Value} {o : Nat} (h : o < xs.size) : (part t xs o).run P w = .ok (xs.getD o undef) w := by
 have hag : aggD d = false := by cases k <;> cases d <;> simp_all [K1.fits, aggD]
 simp [part, run_isAgg hu, hag, h]
theorem run_equal1 {t : TypeId} {d : TypeDesc} {k : K1} (hu : P.underlying t = some d) (hd : k.fits d = true) (n : Nat) {x y : AV} {vx vy : Value} (hx : RelV g x vx) (hy : RelV g y vy) {c : Bool} (h : eq1 k x y = some c) : (Op.equalIn (n + 1) t vx vy).run P w = .ok c w := by
 unfold eq1 at h
 split at h
 · split at h
   · rename_i hk
     subst hk
     cases h; cases hx; cases hy
     cases d <;> simp [K1.fits] at hd
     rename_i a b k
     rw [run_equalIn_int w n t _ k a b hu]
     rfl
   · cases h
 · cases h; cases hx; cases hy
   cases d <;> simp [K1.fits] at hd
   rw [run_equalIn_string w n t _ _ hu, toList_beq]
 · cases h; cases hx; cases hy
   cases d <;> simp [K1.fits] at hd
   rename_i a b
   rw [run_equalIn_bool' w n t _ _ hu]
   cases a <;> cases b <;> rfl
 · cases h
theorem run_eqFs {xs ys : Array Value} (n : Nat) : ∀ (fs : List Field) (ks : List K1) (o : Nat) (a b : List AV) (c : Bool), matchF P o fs ks = true → eqFs ks a b = some c → o + a.length = xs.size → o + b.length = ys.size →
 (∀ j c, a[j]? = some c → RelV g c (xs.getD (o + j) undef)) → (∀ j c, b[j]? = some c → RelV g c (ys.getD (o + j) undef)) → (Op.eqFields (n + 1) xs ys fs).run P w = .ok c w
 | [], ks, o, a, b, c, hm, he, ha, hb, ra, rb => by
  cases ks with
  | nil =>
   cases a <;> cases b <;> simp [eqFs] at he
   subst he
   rfl
  | cons k r => simp [matchF] at hm
 | f :: fs, ks, o, a, b, c, hm, he, ha, hb, ra, rb => by
  cases ks with
  | nil => simp [matchF] at hm
  | cons k r =>
   cases a with
   | nil => simp [eqFs] at he
   | cons x a =>
    cases b with
    | nil => simp [eqFs] at he
    | cons y b =>
     simp only [matchF, Bool.and_eq_true, decide_eq_true_eq] at hm
     obtain ⟨⟨⟨h1, h2⟩, h3⟩, h4⟩ := hm
     split at h3
     · rename_i d hu
       have hox : f.offset < xs.size := by simp at ha; omega
       have hoy : f.offset < ys.size := by simp at hb; omega
       have rx : RelV g x (xs.getD f.offset undef) := by have := ra 0 x rfl; rw [h2]; simpa using this
       have ry : RelV g y (ys.getD f.offset undef) := by have := rb 0 y rfl; rw [h2]; simpa using this
       simp only [eqFs] at he
       have step : ∀ q, eq1 k x y = some q → (Op.eqFields (n + 1) xs ys (f :: fs)).run P w = (if q = true then (Op.eqFields (n + 1) xs ys fs).run P w else .ok false w) := by
        intro q hq
        simp only [Op.eqFields, if_pos h1, Sem.run_bind, run_part1 hu h3 hox, run_part1 hu h3 hoy, Result.andThen_ok, run_equal1 hu h3 n rx ry hq]
        cases q <;> simp
       split at he
       · rename_i q q2 hq hq2
         cases he
         rw [step _ hq]
         cases q with
         | false => rfl
         | true =>
         rw [if_pos rfl, Bool.true_and]
         refine run_eqFs n fs r (o + 1) a b q2 h4 hq2 (by simp at ha; omega) (by simp at hb; omega) (fun j c hj => ?_) (fun j c hj => ?_)
         · have := ra (j + 1) c (by simpa using hj); rw [show o + 1 + j = o + (j + 1) by omega]; exact this
         · have := rb (j + 1) c (by simpa using hj); rw [show o + 1 + j = o + (j + 1) by omega]; exact this
       · cases he
     · cases h3
theorem eqFs_len : ∀ {ks : List K1} {a b : List AV} {c : Bool}, eqFs ks a b = some c → a.length = ks.length ∧ b.length = ks.length
 | [], [], [], _, _ => ⟨rfl, rfl⟩
 | k :: ks, x :: a, y :: b, c, h => by
  simp only [eqFs] at h
  split at h
  · rename_i q q2 hq hq2
    have := eqFs_len hq2
    simp [this.1, this.2]
  · cases h
 | [], x :: a, b, _, h => by simp [eqFs] at h
 | [], [], y :: b, _, h => by simp [eqFs] at h
 | k :: ks, [], b, _, h => by simp [eqFs] at h
 | k :: ks, x :: a, [], _, h => by simp [eqFs] at h
theorem run_eqItems1 {d : TypeDesc} {e : TypeId} (hu : P.underlying e = some d) (n : Nat) {xs ys : Array Value} : ∀ (ks : List K1) (o : Nat) (a b : List AV) (c : Bool), (∀ k, k ∈ ks → k.fits d = true) → eqFs ks a b = some c → o + a.length = xs.size → o + b.length = ys.size →
 (∀ j c, a[j]? = some c → RelV g c (xs.getD (o + j) undef)) → (∀ j c, b[j]? = some c → RelV g c (ys.getD (o + j) undef)) → (Op.eqItems (n + 1) e 1 xs ys (List.range' o ks.length)).run P w = .ok c w
 | [], o, a, b, c, hm, he, ha, hb, ra, rb => by
  cases a <;> cases b <;> simp [eqFs] at he
  subst he
  rfl
 | k :: r, o, a, b, c, hm, he, ha, hb, ra, rb => by
  cases a with
  | nil => simp [eqFs] at he
  | cons x a =>
   cases b with
   | nil => simp [eqFs] at he
   | cons y b =>
    have h3 := hm k (by simp)
    have hox : o < xs.size := by simp at ha; omega
    have hoy : o < ys.size := by simp at hb; omega
    have rx : RelV g x (xs.getD o undef) := by have := ra 0 x rfl; simpa using this
    have ry : RelV g y (ys.getD o undef) := by have := rb 0 y rfl; simpa using this
    simp only [eqFs] at he
    split at he
    · rename_i q q2 hq hq2
      cases he
      simp only [List.length_cons, List.range'_succ, Op.eqItems, Nat.mul_one, Sem.run_bind, run_part1 hu h3 hox, run_part1 hu h3 hoy, Result.andThen_ok, run_equal1 hu h3 n rx ry hq]
      cases q with
      | false => simp
      | true =>
       simp only [Bool.not_true, Bool.false_eq_true, if_false, Bool.true_and]
       refine run_eqItems1 hu n r (o + 1) a b q2 (fun k hk => hm k (by simp [hk])) hq2 (by simp at ha; omega) (by simp at hb; omega) (fun j c hj => ?_) (fun j c hj => ?_)
       · have := ra (j + 1) c (by simpa using hj); rw [show o + 1 + j = o + (j + 1) by omega]; exact this
       · have := rb (j + 1) c (by simpa using hj); rw [show o + 1 + j = o + (j + 1) by omega]; exact this
    · cases he
theorem run_equalRec {t : TypeId} {ks : List K1} (hf : recFits P t ks = true) (n : Nat) {a b : List AV} {vx vy : Value} (hx : RelV g (.agg a) vx) (hy : RelV g (.agg b) vy) {c : Bool} (h : eqFs ks a b = some c) : (Op.equalIn (n + 2) t vx vy).run P w = .ok c w := by
 unfold recFits at hf
 split at hf
 · rename_i fs hu
   simp only [Bool.and_eq_true, Bool.not_eq_true'] at hf
   have hfo : P.fieldsOf t = fs := by simp [Program.fieldsOf, hu]
   cases hx with
   | agg hs hc h1 =>
    cases hy with
    | agg hs' hc' h1' =>
     rw [run_equalIn_struct w (n + 1) t _ _ (by rw [hfo]; exact hu) hf.1.1, hfo]
     exact run_eqFs n fs.toList ks 0 a b c hf.2 h (by omega) (by omega) (fun j c hj => by simpa using hc j c hj) (fun j c hj => by simpa using hc' j c hj)
 · rename_i m e hu
   simp only [Bool.and_eq_true, Bool.not_eq_true'] at hf
   obtain ⟨d, i, hd, hi, hs1, hc1, hl, hk⟩ := arrFits_some hf.2
   cases hx with
   | agg hs hc h1 =>
    cases hy with
    | agg hs' hc' h1' =>
     rw [run_equalIn_array w (n + 1) _ _ hu hi, hc1, List.range_eq_range', ← hl]
     exact run_eqItems1 hd n ks 0 a b c hk h (by omega) (by omega) (fun j c hj => by simpa using hc j c hj) (fun j c hj => by simpa using hc' j c hj)
 · cases hf
theorem op_bin_rec (h : SR B w0 σ g w) {ks : List K1} {op : BinOp} {t : TypeId} (hf : recFits P t ks = true) {ox oy : Operand} {x y r : AV} {vx vy : Value} (hx : RelV g x vx) (hy : RelV g y vy) (hr : aBin (.row ks) op x y = some r) :
 OpOK P B w0 g w (do pure (.value (← (do eqGuard op t ox oy vx vy; Go.binOp op t vx vy)))) r σ := by
 cases x with
 | agg a =>
  cases y with
  | agg b =>
   have hgd : P.eqGuardType P.depth t = false := by
    unfold recFits at hf
    split at hf
    · simp only [Bool.and_eq_true, Bool.not_eq_true'] at hf; exact hf.1.2
    · simp only [Bool.and_eq_true, Bool.not_eq_true'] at hf; exact hf.1
    · cases hf
   have hx' := hx
   have hy' := hy
   cases hx with
   | agg hs hc h1 =>
    cases hy with
    | agg hs' hc' h1' =>
     simp only [aBin] at hr
     split at hr
     · split at hr
       · rename_i c hc
         cases hr
         refine OpOK.value h (v := .bool c) ?_ (.bool c)
         rw [Sem.run_bind, run_eqGuard_agg w _ t ox oy _ _ hgd, Result.andThen_ok, run_eql_struct, run_equalRec hf 9998 hx' hy' hc]
         rfl
       · cases hr
     · split at hr
       · rename_i c hc
         cases hr
         refine OpOK.value h (v := .bool (!c)) ?_ (.bool (!c))
         rw [Sem.run_bind, run_eqGuard_agg w _ t ox oy _ _ hgd, Result.andThen_ok, run_neq_struct, run_equalRec hf 9998 hx' hy' hc]
         rfl
       · cases hr
     · cases hr
  | _ => simp [aBin] at hr
 | _ => simp [aBin] at hr
theorem run_checkKey {t : TypeId} {d : TypeDesc} {kd : KK} (hu : P.underlying t = some d) (hd : kd.fits d = true) {v : Value} (n : Nat) (e : Bool) : (Instr.checkKey e (n + 1) t v).run P w = .ok () w := by
 cases d <;> simp [KK.fits] at hd <;> cases v <;> simp [Instr.checkKey, run_underlying hu]

/-! ### Keys -/
def KK.suits (P : Program) (kd : KK) (t : TypeId) : Prop := (∃ d, P.underlying t = some d ∧ kd.fits d = true) ∨ ∃ ks, kd = .row ks ∧ recFits P t ks = true
theorem sameBits1 {k : K1} {x y : AV} {vx vy : Value} (n : Nat) (hx : RelV g x vx) (hy : RelV g y vy) (h : eq1 k x y = some true) : Instr.sameBits n vy vx = true := by
 unfold eq1 at h
 split at h
 · split at h
   · rename_i hk
     subst hk
     cases hx; cases hy
     simp only [Option.some.injEq, decide_eq_true_eq] at h
     simp [Instr.sameBits, h]
   · cases h
 · cases hx; cases hy
   simp only [Option.some.injEq, decide_eq_true_eq] at h
   subst h
   simp [Instr.sameBits, beq_toListBytes, toList_beq]
 · cases hx; cases hy
   simp only [Option.some.injEq, decide_eq_true_eq] at h
   simp [Instr.sameBits, h]
 · cases h
theorem sameBitsFs (n : Nat) : ∀ (ks : List K1) (a b : List AV) (xs ys : List Value), eqFs ks a b = some true → xs.length = a.length → ys.length = b.length → (∀ j c, a[j]? = some c → RelV g c (xs.getD j undef)) → (∀ j c, b[j]? = some c → RelV g c (ys.getD j undef)) →
 ((ys.zip xs).all fun (x, y) => Instr.sameBits n x y) = true ∧ a.length = b.length
 | ks, [], [], xs, ys, h, hx, hy, _, _ => by
  have : xs = [] := List.eq_nil_of_length_eq_zero hx
  subst this
  simp
 | [], x :: a, b, xs, ys, h, hx, hy, _, _ => by simp [eqFs] at h
 | [], [], y :: b, xs, ys, h, hx, hy, _, _ => by simp [eqFs] at h
 | k :: ks, [], y :: b, xs, ys, h, hx, hy, _, _ => by simp [eqFs] at h
 | k :: ks, x :: a, [], xs, ys, h, hx, hy, _, _ => by simp [eqFs] at h
 | k :: ks, x :: a, y :: b, xs, ys, h, hx, hy, ra, rb => by
  cases xs with
  | nil => simp at hx
  | cons vx xs =>
   cases ys with
   | nil => simp at hy
   | cons vy ys =>
    simp only [eqFs] at h
    split at h
    · rename_i q q2 h1 h2
      simp only [Option.some.injEq, Bool.and_eq_true] at h
      obtain ⟨rfl, rfl⟩ := h
      obtain ⟨i1, i2⟩ := sameBitsFs n ks a b xs ys h2 (by simpa using hx) (by simpa using hy) (fun j c hj => by simpa using ra (j + 1) c (by simpa using hj)) (fun j c hj => by simpa using rb (j + 1) c (by simpa using hj))
      refine ⟨?_, by simp [i2]⟩
      simp only [List.zip_cons_cons, List.all_cons, Bool.and_eq_true]
      exact ⟨sameBits1 n (by simpa using ra 0 x rfl) (by simpa using rb 0 y rfl) h1, i1⟩
    · cases h
theorem run_checkFs {xs : Array Value} (ck : TypeId → Value → Sem Unit) : ∀ (fs : List Field) (ks : List K1) (o : Nat), matchF P o fs ks = true → o + fs.length ≤ xs.size → (∀ (k : K1) t d v, P.underlying t = some d → k.fits d = true → (ck t v).run P w = .ok () w) →
 ((forIn fs PUnit.unit fun f _ => if f.name ≠ "_" then do
  let v ← part f.type xs f.offset
  ck f.type v
  pure (ForInStep.yield PUnit.unit)
  else pure (ForInStep.yield PUnit.unit)) : Sem PUnit).run P w = .ok PUnit.unit w
 | [], ks, o, hm, hl, hck => by simp
 | f :: fs, ks, o, hm, hl, hck => by
  cases ks with
  | nil => simp [matchF] at hm
  | cons k r =>
   simp only [matchF, Bool.and_eq_true, decide_eq_true_eq] at hm
   obtain ⟨⟨⟨h1, h2⟩, h3⟩, h4⟩ := hm
   split at h3
   · rename_i d hu
     have hox : f.offset < xs.size := by simp at hl; omega
     have ih := run_checkFs (xs := xs) ck fs r (o + 1) h4 (by simp at hl; omega) hck
     simp only [List.forIn_cons, Sem.run_bind, if_pos h1, run_part1 hu h3 hox, Result.andThen_ok, hck k _ _ _ hu h3, Sem.run_pure]
     exact ih
   · cases h3
theorem run_checkRec {t : TypeId} {ks : List K1} (hf : recFits P t ks = true) {a : List AV} {v : Value} (hx : RelV g (.agg a) v) (hl : a.length = ks.length) (e : Bool) (n : Nat) : (Instr.checkKey e (n + 2) t v).run P w = .ok () w := by
 unfold recFits at hf
 split at hf
 · rename_i fs hu
   simp only [Bool.and_eq_true, Bool.not_eq_true'] at hf
   have hfl : ∀ (l : List Field) (ks : List K1) (o : Nat), matchF P o l ks = true → l.length = ks.length := by
    intro l
    induction l with
    | nil => intro ks o h; cases ks <;> simp [matchF] at h ⊢
    | cons f l ih =>
     intro ks o h
     cases ks with
     | nil => simp [matchF] at h
     | cons k r => simp only [matchF, Bool.and_eq_true] at h; simp [ih r _ h.2]
   have := hfl _ _ _ hf.2
   cases hx with
   | agg hs hc h1 =>
    rename_i arr
    have hck : ∀ (k : K1) t d v, P.underlying t = some d → k.fits d = true → (Instr.checkKey e (n + 1) t v).run P w = .ok () w := fun k t d v hu h3 => by
     cases k <;> cases d <;> simp [K1.fits] at h3 <;> cases v <;> simp [Instr.checkKey, run_underlying hu]
    have := run_checkFs (P := P) (w := w) (xs := arr) (fun t v => Instr.checkKey e (n + 1) t v) fs.toList ks 0 hf.2 (by omega) hck
    generalize hm : n + 1 = m at this hck
    rw [show n + 2 = m + 1 by omega]
    simp only [Instr.checkKey, Sem.run_bind, run_underlying hu, Result.andThen_ok]
    rw [← Array.forIn_toList, this]
    rfl
 · rename_i m e' hu
   simp only [Bool.and_eq_true, Bool.not_eq_true'] at hf
   obtain ⟨d, i, hd, hi, hs1, hc1, hkl, hk⟩ := arrFits_some hf.2
   cases hx with
   | agg hs hc h1 =>
    rename_i arr
    cases ks with
    | nil =>
     simp only [List.length_nil] at hkl
     subst hkl
     simp [Instr.checkKey, run_underlying hu]
    | cons k0 r0 =>
     have hk0 := hk k0 (by simp)
     have hck : ∀ v, (Instr.checkKey e (n + 1) e' v).run P w = .ok () w := fun v => by
      cases k0 <;> cases d <;> simp [K1.fits] at hk0 <;> cases v <;> simp [Instr.checkKey, run_underlying hd]
     generalize hm : n + 1 = q at hck
     rw [show n + 2 = q + 1 by omega]
     simp only [Instr.checkKey, Sem.run_bind, run_underlying hu, Result.andThen_ok, Std.Legacy.Range.forIn_eq_forIn_range', Std.Legacy.Range.size, Nat.sub_zero, Nat.add_one_sub_one, Nat.div_one]
     have hbound : ∀ j, j ∈ List.range' 0 m → j < arr.size := fun j hj => by
      rw [List.mem_range'_1] at hj
      rw [← hkl] at hj
      omega
     generalize List.range' 0 m = is at hbound ⊢
     have key : ∀ is : List Nat, (∀ j, j ∈ is → j < arr.size) → ((forIn is PUnit.unit fun i _ => do
      let v ← part e' arr (i * (← sizeOf e'))
      Instr.checkKey e q e' v
      pure (ForInStep.yield PUnit.unit)) : Sem PUnit).run P w = .ok PUnit.unit w := by
      intro is
      induction is with
      | nil => intro _; simp
      | cons j is ih =>
       intro hb
       simp only [List.forIn_cons, Sem.run_bind, run_sizeOf' hi, hs1, Nat.mul_one, Result.andThen_ok, run_part1 hd hk0 (hb j (by simp)), hck, Sem.run_pure]
       exact ih fun x hx => hb x (by simp [hx])
     rw [key is hbound]
     rfl
 · cases hf
theorem findAsk_rel {kt : TypeId} {ks : List K1} (hf : recFits P kt ks = true) {k : AV} {vk : Value} (hk : RelV g k vk) : ∀ (es : List (AV × AV)) (entries : List MapEntry) (i : Nat) (r : Option (Nat × AV)),
 entries.length = es.length → (∀ (j : Nat) (a b : AV), es[j]? = some (a, b) → ∃ e : MapEntry, entries[j]? = some e ∧ RelV g a e.key ∧ RelV g b e.val) → aFind (.row ks) k es i = some r →
 (r = none ∧ (Instr.findAsking kt vk entries i).run P w = .ok none w) ∨ ∃ n v u, r = some (n, v) ∧ (Instr.findAsking kt vk entries i).run P w = .ok (some (n, u)) w ∧ RelV g v u ∧ i ≤ n ∧ ∃ e : MapEntry, entries[n - i]? = some e ∧ Instr.sameBits 10000 e.key vk = true ∧ e.val = u := by
 intro es
 induction es with
 | nil =>
  intro entries i r hl he hfd
  have : entries = [] := List.eq_nil_of_length_eq_zero (by simpa using hl)
  subst this
  simp only [aFind] at hfd
  split at hfd
  · cases hfd
    exact .inl ⟨rfl, rfl⟩
  · cases hfd
 | cons q rest ih =>
  intro entries i r hl he hfd
  obtain ⟨k', v⟩ := q
  cases entries with
  | nil => simp at hl
  | cons e0 erest =>
   obtain ⟨e, he0, hka, hva⟩ := he 0 k' v rfl
   simp at he0
   subst he0
   have hag : ∀ c, keyEq (.row ks) k k' = some c → (Op.equal kt vk e0.key).run P w = .ok c w ∧ (c = true → Instr.sameBits 10000 e0.key vk = true) := by
    intro c hc
    cases k with
    | agg a =>
     cases k' with
     | agg b =>
      refine ⟨run_equalRec hf 9998 hk hka hc, fun hct => ?_⟩
      subst hct
      generalize e0.key = kv at hka
      cases hk with
      | agg hs hc1 h1 =>
       rename_i xs
       cases hka with
       | agg hs' hc1' h1' =>
        rename_i ys
        obtain ⟨i1, i2⟩ := sameBitsFs 9999 ks a b xs.toList ys.toList hc (by simpa using hs) (by simpa using hs') (fun j c hj => by simpa using hc1 j c hj) (fun j c hj => by simpa using hc1' j c hj)
        simp only [Instr.sameBits, Bool.and_eq_true, beq_iff_eq]
        exact ⟨by omega, i1⟩
     | _ => simp [keyEq] at hc
    | _ => simp [keyEq] at hc
   simp only [aFind] at hfd
   split at hfd
   · rename_i hq
     cases hfd
     obtain ⟨h1, h2⟩ := hag _ hq
     refine .inr ⟨i, v, e0.val, rfl, ?_, hva, Nat.le_refl _, e0, by simp, h2 rfl, rfl⟩
     simp [Instr.findAsking, h1]
   · rename_i hq
     obtain ⟨h1, -⟩ := hag _ hq
     rcases ih erest (i + 1) r (by simpa using hl) (fun j a b hj => by
      obtain ⟨e, x, y⟩ := he (j + 1) a b (by simpa using hj)
      exact ⟨e, by simpa using x, y⟩) hfd with ⟨h3, h2⟩ | ⟨n, v', u, h3, h2, h4, h5, e, h6, h7⟩
     · exact .inl ⟨h3, by simp [Instr.findAsking, h1, h2]⟩
     · refine .inr ⟨n, v', u, h3, by simp [Instr.findAsking, h1, h2], h4, by omega, e, ?_, h7⟩
       rw [show n - i = (n - (i + 1)) + 1 from by omega]
       simpa using h6
   · cases hfd
theorem aFind_ok {ks : List K1} {k : AV} {es : List (AV × AV)} {i : Nat} {r : Option (Nat × AV)} (h : aFind (.row ks) k es i = some r) : ∃ a, k = .agg a ∧ a.length = ks.length := by
 cases es with
 | nil =>
  simp only [aFind] at h
  split at h
  · rename_i hk
    cases k <;> simp [keyOK] at hk
    exact ⟨_, rfl, hk⟩
  · cases h
 | cons q rest =>
  obtain ⟨k', v⟩ := q
  simp only [aFind] at h
  have : ∀ c, keyEq (.row ks) k k' = some c → ∃ a, k = .agg a ∧ a.length = ks.length := by
   intro c hc
   cases k with
   | agg a =>
    cases k' with
    | agg b => exact ⟨a, rfl, (eqFs_len hc).1⟩
    | _ => simp [keyEq] at hc
   | _ => simp [keyEq] at hc
  split at h
  · rename_i hq; exact this _ hq
  · rename_i hq; exact this _ hq
  · cases h
theorem suits_check {kd : KK} {kt : TypeId} (hs : kd.suits P kt) {k : AV} {vk : Value} (hk : RelV g k vk) {es : List (AV × AV)} {r : Option (Nat × AV)} (hf : aFind kd k es 0 = some r) (b : Bool) : (Instr.checkKey b 10000 kt vk).run P w = .ok () w := by
 rcases hs with ⟨d, hu, hd⟩ | ⟨ks, rfl, hr⟩
 · exact run_checkKey hu hd 9999 b
 · obtain ⟨a, rfl, hl⟩ := aFind_ok hf
   exact run_checkRec hr hk hl b 9998
theorem sameBits_of {d : TypeDesc} {kd : KK} (hd : kd.fits d = true) {a b : Value} (n : Nat) (h : Instr.sameNow d b a = some true) : Instr.sameBits n a b = true := by
 cases d <;> cases kd <;> simp [KK.fits] at hd <;> cases a <;> cases b <;> simp [Instr.sameNow, Instr.sameBits] at h ⊢
 all_goals first | (exact ⟨h.1.symm, h.2.symm⟩) | (exact h.symm) | (rw [beq_toListBytes, toList_beq] at h ⊢; simp at h ⊢; exact h.symm)
theorem find_rel {kd : KK} {kt : TypeId} (hs : kd.suits P kt) {k : AV} {vk : Value} (hk : RelV g k vk) {es : List (AV × AV)} {entries : List MapEntry} {r : Option (Nat × AV)}
 (hl : entries.length = es.length) (he : ∀ (j : Nat) (a b : AV), es[j]? = some (a, b) → ∃ e : MapEntry, entries[j]? = some e ∧ RelV g a e.key ∧ RelV g b e.val) (hf : aFind kd k es 0 = some r) :
 (r = none ∧ (Instr.findKey kt vk entries).run P w = .ok none w) ∨ ∃ n v u, r = some (n, v) ∧ (Instr.findKey kt vk entries).run P w = .ok (some (n, u)) w ∧ RelV g v u ∧ ∃ e : MapEntry, entries[n]? = some e ∧ Instr.sameBits 10000 e.key vk = true ∧ e.val = u := by
 rcases hs with ⟨d, hu, hd⟩ | ⟨ks, rfl, hr⟩
 · rcases findNow_rel hd hk es entries 0 r hl he hf with ⟨rfl, hn⟩ | ⟨n, v, u, rfl, hn, hrel, _, e, h5, h6, h7⟩
   · exact .inl ⟨rfl, by simp [Instr.findKey, run_underlying hu, hn]⟩
   · exact .inr ⟨n, v, u, rfl, by simp [Instr.findKey, run_underlying hu, hn], hrel, e, by simpa using h5, sameBits_of hd 10000 h6, h7⟩
 · have hu : ∃ d, P.underlying kt = some d ∧ ∀ e0 erest, Instr.findNow d vk (e0 :: erest) 0 = none := by
    unfold recFits at hr
    split at hr
    · rename_i fs hu; exact ⟨_, hu, fun e0 erest => by simp [Instr.findNow, Instr.sameNow]⟩
    · rename_i n e hu; exact ⟨_, hu, fun e0 erest => by simp [Instr.findNow, Instr.sameNow]⟩
    · cases hr
   obtain ⟨d, hu, hnone⟩ := hu
   have hasked := findAsk_rel (w := w) hr hk es entries 0 r hl he hf
   cases entries with
   | nil =>
    rcases hasked with ⟨rfl, _⟩ | ⟨n, v, u, rfl, h1, _⟩
    · exact .inl ⟨rfl, by simp [Instr.findKey, run_underlying hu, Instr.findNow]⟩
    · simp [Instr.findAsking] at h1
   | cons e0 erest =>
    have hno := hnone e0 erest
    rcases hasked with ⟨rfl, h1⟩ | ⟨n, v, u, rfl, h1, h2, _, e, h3, h4, h5⟩
    · exact .inl ⟨rfl, by simp [Instr.findKey, run_underlying hu, hno, h1]⟩
    · exact .inr ⟨n, v, u, rfl, by simp [Instr.findKey, run_underlying hu, hno, h1], h2, e, by simpa using h3, h4, h5⟩
theorem run_getMap {r : Nat} {es : Array MapEntry} {clock : Nat} (hr : w.heap[r]? = some (.map es clock)) : (getObj r).run P w = .ok (.map es clock) w := by
 simp [getObj, Sem.run, hr]
theorem run_setMap {r : Nat} {es : Array MapEntry} {clock : Nat} (hr : w.heap[r]? = some (.map es clock)) (o : Obj) : (setObj r o).run P w = .ok () { w with heap := w.heap.setIfInBounds r o } := by
 simp [setObj, Sem.run, hr]

theorem op_makeMap (h : SR B w0 σ g w) {t : TypeId} : OpOK P B w0 g w (do pure (.value (← Instr.makeMap t none))) (.map σ.next) (σ.push (.map [])) := by
 refine OpOK.value' (v := .map (some w.heap.size)) (w' := w.alloc (.map #[] 0)) (by simp [Instr.makeMap]) (.take g ⟨0, w.heap.size, 0, 0⟩)
  (h.allocOwned _ _ ⟨0, w.heap.size, 0, 0⟩ rfl ⟨rfl, #[], 0, heap_alloc_new w _, rfl, by simp⟩) (.map (by simp [Ghost.take, h.next]) (fun p hp _ => ?_) ⟨_, rfl⟩)
 simp [Ghost.take, h.next] at hp
 subst hp
 rfl

theorem op_lookup (h : SR B w0 σ g w) {t kt et : TypeId} {kd : KK} (hu : P.underlying t = some (.map kt et)) (hd : kd.suits P kt) {i : TypeInfo} {z : Value} (hi : P.info? et = some i) (hz : i.zero = some z)
 {za : AV} (hza : RelV g za z) {id : Nat} {vm : Value} (hm : RelV g (.map id) vm) {es : List (AV × AV)} (ho : σ.get id = some (.map es)) {k : AV} {vk : Value} (hkv : RelV g k vk) {r : Option (Nat × AV)} (hf : aFind kd k es 0 = some r) (ok : Bool) :
 OpOK P B w0 g w (do pure (.value (← Instr.lookup t vm vk ok))) (if ok then .tuple [findVal za r, .bool r.isSome] else findVal za r) σ := by
 obtain ⟨p, hp, hv0, entries, clock, h2, h3, h4⟩ := h.objs id _ ho
 cases hm with
 | map hid hmm h1 =>
  have := hmm p hp hv0
  subst this
  have hfr := find_rel (w := w) hd hkv (entries := entries.toList) (by simpa using h3) (fun j a b hj => by obtain ⟨e, x, y⟩ := h4 j a b hj; exact ⟨e, by simpa using x, y⟩) hf
  have hck : ∀ b, (Instr.checkKey b 10000 kt vk).run P w = .ok () w := fun b => suits_check hd hkv hf b
  have hfin : ∀ u : Value, ∀ a : AV, ∀ c : Bool, RelV g a u → RelV g (if ok then .tuple [a, .bool c] else a) (if ok then .tuple #[u, .bool c] else u) := by
   intro u a c hau
   cases ok
   · exact hau
   · refine .tuple rfl (fun j x hj => ?_)
     match j, hj with
     | 0, hj => simp at hj; subst hj; simpa using hau
     | 1, hj => simp at hj; subst hj; simpa using RelV.bool c
     | j + 2, hj => simp at hj
  rcases hfr with ⟨rfl, hn⟩ | ⟨n, v, u, rfl, hn, hrel, _⟩
  · refine OpOK.value h (v := if ok then .tuple #[z, .bool false] else z) ?_ (hfin z za false hza)
    simp [Instr.lookup, run_underlying hu, run_getMap h2, hck, hn, zeroValue, typeInfo, hi, hz]
  · refine OpOK.value h (v := if ok then .tuple #[u, .bool true] else u) ?_ (hfin u v true hrel)
    simp [Instr.lookup, run_underlying hu, run_getMap h2, hck, hn]

theorem heap_setObj {r : Nat} {o x : Obj} (hr : w.heap[r]? = some x) : (w.heap.setIfInBounds r o)[r]? = some o := by
 have := (Array.getElem?_eq_some_iff.1 hr).1
 simp [this]

theorem op_mapset (h : SR B w0 σ g w) {t kt et : TypeId} {kd : KK} (hu : P.underlying t = some (.map kt et)) (hd : kd.suits P kt)
 {id : Nat} {vm : Value} (hm : RelV g (.map id) vm) {es : List (AV × AV)} (ho : σ.get id = some (.map es)) {k x : AV} {vk vx : Value} (hkv : RelV g k vk) (hxv : RelV g x vx) {r : Option (Nat × AV)} (hf : aFind kd k es 0 = some r) :
 OpOK P B w0 g w (do Instr.mapUpdate t vm vk vx; pure .skip) .junk (σ.upd id (.map (mapPut es k x r))) := by
 obtain ⟨p, hp, hv0, entries, clock, h2, h3, h4⟩ := h.objs id _ ho
 cases hm with
 | map hid hmm h1 =>
  have := hmm p hp hv0
  subst this
  have hfr := find_rel (w := w) hd hkv (entries := entries.toList) (by simpa using h3) (fun j a b hj => by obtain ⟨e, x, y⟩ := h4 j a b hj; exact ⟨e, by simpa using x, y⟩) hf
  have hck : ∀ b, (Instr.checkKey b 10000 kt vk).run P w = .ok () w := fun b => suits_check hd hkv hf b
  have hwr : ∀ (es' : List (AV × AV)) (entries' : Array MapEntry) (clock' : Nat), entries'.size = es'.length →
   (∀ (i : Nat) (k v : AV), es'[i]? = some (k, v) → ∃ e : MapEntry, entries'[i]? = some e ∧ RelV g k e.key ∧ RelV g v e.val) →
   SR B w0 (σ.upd id (.map es')) g { w with heap := w.heap.setIfInBounds p.blk (.map entries' clock') } := by
   intro es' entries' clock' hl hall
   refine h.write hp (by simp) rfl rfl rfl (fun j hj hne => ?_) ⟨hv0, entries', clock', heap_setObj h2, hl, hall⟩
   simp [Array.getElem?_setIfInBounds, Ne.symm hne]
  rcases hfr with ⟨rfl, hn⟩ | ⟨n, v, u, rfl, hn, hrel, e, he1, hsb, he3⟩
  · simp only [mapPut]
    refine OpOK.skip (w' := { w with heap := w.heap.setIfInBounds p.blk (.map (entries.push { key := vk, val := vx, born := clock }) (clock + 1)) }) ?_ (.refl g)
     (hwr _ _ _ (by simp [h3]) (fun i a b hi => ?_))
    · simp [Instr.mapUpdate, run_underlying hu, run_getMap h2, hck, hn, run_setMap h2]
    · by_cases hlt : i < es.length
      · rw [List.getElem?_append_left hlt] at hi
        obtain ⟨e, x1, x2⟩ := h4 i a b hi
        exact ⟨e, by rw [Array.getElem?_push_lt (by omega)]; rw [← x1, Array.getElem?_eq_getElem (by omega)], x2⟩
      · have : i = es.length := by
         rcases Nat.lt_or_ge i (es.length + 1) with h' | h'
         · omega
         · rw [List.getElem?_eq_none (by simp; omega)] at hi; cases hi
        subst this
        simp at hi
        obtain ⟨rfl, rfl⟩ := hi
        exact ⟨{ key := vk, val := vx, born := clock }, by rw [← h3]; simp, hkv, hxv⟩
  · simp only [mapPut]
    simp only [Array.getElem?_toList] at he1
    refine OpOK.skip (w' := { w with heap := w.heap.setIfInBounds p.blk (.map (entries.modify n fun e => { e with key := vk, val := vx }) clock) }) ?_ (.refl g)
     (hwr _ _ _ (by simp [h3]) (fun i a b hi => ?_))
    · have hlt : n < entries.size := (Array.getElem?_eq_some_iff.1 he1).1
      have he1' : entries[n] = e := (Array.getElem?_eq_some_iff.1 he1).2
      simp [Instr.mapUpdate, run_underlying hu, run_getMap h2, hck, hn, run_setMap h2, Instr.keyThatStays, hlt, he1', hsb]
    · by_cases hin : i = n
      · subst hin
        have hlt : i < es.length := by have := (Array.getElem?_eq_some_iff.1 he1).1; omega
        rw [List.getElem?_set_self hlt] at hi
        cases hi
        refine ⟨_, by rw [Array.getElem?_modify, if_pos rfl, he1]; rfl, hkv, hxv⟩
      · rw [List.getElem?_set_ne (Ne.symm hin)] at hi
        obtain ⟨e, x1, x2⟩ := h4 i a b hi
        exact ⟨e, by rw [Array.getElem?_modify, if_neg (Ne.symm hin)]; exact x1, x2⟩

def mapDel (es : List (AV × AV)) : Option (Nat × AV) → List (AV × AV)
 | some (n, _) => es.eraseIdx n
 | none => es
theorem op_mapdel (h : SR B w0 σ g w) {t t2 ty kt et : TypeId} {kd : KK} (hu : P.underlying t = some (.map kt et)) (hd : kd.suits P kt)
 {id : Nat} {vm : Value} (hm : RelV g (.map id) vm) {es : List (AV × AV)} (ho : σ.get id = some (.map es)) {k : AV} {vk : Value} (hkv : RelV g k vk) {r : Option (Nat × AV)} (hf : aFind kd k es 0 = some r) :
 OpOK P B w0 g w (do pure (.value (← Builtin.delete_ #[t, t2] ty #[vm, vk]))) (.tuple []) (σ.upd id (.map (mapDel es r))) := by
 obtain ⟨p, hp, hv0, entries, clock, h2, h3, h4⟩ := h.objs id _ ho
 cases hm with
 | map hid hmm h1 =>
  have := hmm p hp hv0
  subst this
  have hfr := find_rel (w := w) hd hkv (entries := entries.toList) (by simpa using h3) (fun j a b hj => by obtain ⟨e, x, y⟩ := h4 j a b hj; exact ⟨e, by simpa using x, y⟩) hf
  have hck : ∀ b, (Instr.checkKey b 10000 kt vk).run P w = .ok () w := fun b => suits_check hd hkv hf b
  have hwr : ∀ (es' : List (AV × AV)) (entries' : Array MapEntry) (clock' : Nat), entries'.size = es'.length →
   (∀ (i : Nat) (k v : AV), es'[i]? = some (k, v) → ∃ e : MapEntry, entries'[i]? = some e ∧ RelV g k e.key ∧ RelV g v e.val) →
   SR B w0 (σ.upd id (.map es')) g { w with heap := w.heap.setIfInBounds p.blk (.map entries' clock') } := by
   intro es' entries' clock' hl hall
   refine h.write hp (by simp) rfl rfl rfl (fun j hj hne => ?_) ⟨hv0, entries', clock', heap_setObj h2, hl, hall⟩
   simp [Array.getElem?_setIfInBounds, Ne.symm hne]
  rcases hfr with ⟨rfl, hn⟩ | ⟨n, v, u, rfl, hn, hrel, e, he1, hsb, he3⟩
  · simp only [mapDel]
    refine OpOK.value' (v := .tuple #[]) (w' := { w with heap := w.heap.setIfInBounds p.blk (.map entries clock) }) ?_ (.refl g) (hwr _ _ _ h3 h4) (.tuple rfl (by simp))
    simp [Builtin.delete_, run_underlying hu, run_getMap h2, hck, hn, run_setMap h2]
  · simp only [mapDel]
    have hlt : n < entries.size := by simp only [Array.getElem?_toList] at he1; exact (Array.getElem?_eq_some_iff.1 he1).1
    have htl : (entries.eraseIdxIfInBounds n).toList = entries.toList.eraseIdx n := by
     rw [Array.eraseIdxIfInBounds, dif_pos hlt, Array.toList_eraseIdx]
    refine OpOK.value' (v := .tuple #[]) (w' := { w with heap := w.heap.setIfInBounds p.blk (.map (entries.eraseIdxIfInBounds n) clock) }) ?_ (.refl g) (hwr _ _ _ ?_ (fun i a b hi => ?_)) (.tuple rfl (by simp))
    · simp [Builtin.delete_, run_underlying hu, run_getMap h2, hck, hn, run_setMap h2]
    · rw [← Array.length_toList, htl, List.length_eraseIdx, List.length_eraseIdx, Array.length_toList, h3]
    · rw [← Array.getElem?_toList, htl]
      rw [List.getElem?_eraseIdx] at hi ⊢
      split at hi
      · rename_i hin
        obtain ⟨e, x, y⟩ := h4 i a b hi
        exact ⟨e, by rw [if_pos hin]; simpa using x, y⟩
      · rename_i hin
        obtain ⟨e, x, y⟩ := h4 (i + 1) a b hi
        exact ⟨e, by rw [if_neg hin]; simpa using x, y⟩
theorem op_len_map (h : SR B w0 σ g w) {t ty kt et : TypeId} (hu : P.underlying t = some (.map kt et)) {id : Nat} {v : Value} (hx : RelV g (.map id) v) {es : List (AV × AV)} (ho : σ.get id = some (.map es)) :
 OpOK P B w0 g w (do pure (.value (← Builtin.len_ #[t] ty #[v]))) (.int .i64 es.length) σ := by
 obtain ⟨p, hp, hv0, entries, clock, h2, h3, h4⟩ := h.objs id _ ho
 cases hx with
 | map hid hmm h1 =>
  have := hmm p hp hv0
  subst this
  refine OpOK.value h (v := .int .i64 es.length) ?_ (.int _ _)
  simp [Builtin.len_, run_underlying hu, run_getMap h2, goInt, h3]

/-! ### Bytes -/
def bytesOf : List (List AV) → Option (List Int)
 | [] => some []
 | [.int .u8 n] :: r => match bytesOf r with | some l => some (n :: l) | none => none
 | _ => none
def bytesStr (ns : List Int) : ByteArray := ns.foldl (fun r n => r.push (UInt8.ofNat n.toNat)) ByteArray.empty
theorem bytesStr_size (ns : List Int) : (bytesStr ns).size = ns.length := by
 have : ∀ (ns : List Int) (s : ByteArray), (ns.foldl (fun r n => r.push (UInt8.ofNat n.toNat)) s).size = s.size + ns.length := by
  intro ns
  induction ns with
  | nil => intro s; simp
  | cons n ns ih => intro s; simp only [List.foldl_cons, ih, ByteArray.size_push, List.length_cons]; omega
 have h := this ns ByteArray.empty
 simpa [bytesStr] using h
theorem bytesOf_news : ∀ {es : List (List AV)} {news : List Value} {ns : List Int}, ElemsRel g 1 es news → bytesOf es = some ns → news = ns.map (Value.int .u8) ∧ ns.length = es.length := by
 intro es
 induction es with
 | nil =>
  intro news ns hr h
  simp [bytesOf] at h
  subst h
  have := hr.1
  simp at this
  subst this
  exact ⟨rfl, rfl⟩
 | cons e es ih =>
  intro news ns hr h
  unfold bytesOf at h
  split at h
  · rename_i heq; cases heq
  · rename_i n r heq
    cases heq
    split at h
    · rename_i l hl
      cases h
      obtain ⟨h1, h2, h3⟩ := hr
      cases news with
      | nil => simp at h1
      | cons v news =>
       have hv := (h3 0 0 _ _ rfl rfl).1
       simp at hv
       cases hv
       obtain ⟨i1, i2⟩ := ih (news := news) ⟨by simp at h1 ⊢; omega, fun e he => h2 e (by simp [he]), fun i j e c hi hj => by
        have hj0 : j < 1 := by have := (List.getElem?_eq_some_iff.mp hj).1; have := h2 e (List.mem_cons_of_mem _ (List.mem_of_getElem? hi)); omega
        have := h3 (i + 1) j e c (by simpa using hi) hj
        rw [show (i + 1) * 1 + j = (i * 1 + j) + 1 by omega] at this
        simpa using this⟩ hl
       exact ⟨by rw [i1]; rfl, by simp [i2]⟩
    · cases h
  · cases h
theorem op_bytes (h : SR B w0 σ g w) {src dst e : TypeId} (hs : P.underlying src = some (.slice e)) (he : P.underlying e = some (.int .u8)) (hd : P.underlying dst = some .string) {x : AV} {v : Value} (hx : RelV g x v)
 {es : List (List AV)} (hes : elemsOf σ 1 x = some es) (h1 : ∀ q, q ∈ es → q.length = 1) {ns : List Int} (hb : bytesOf es = some ns) : OpOK P B w0 g w (do pure (.value (← convert src dst v))) (.str (bytesStr ns)) σ := by
 obtain ⟨ao, c, news, rfl, hrel, hnone, hml, hcell⟩ := slice_src h hx hes h1
 obtain ⟨rfl, hl⟩ := bytesOf_news hrel hb
 refine OpOK.value h (v := .string (bytesStr ns)) ?_ (.str _ (by rw [bytesStr_size]; omega))
 rw [run_convert_bytes_string w src dst e ao _ _ hs he hd]
 cases ao with
 | none =>
  have := hnone rfl
  subst this
  simp [bytesOf] at hb
  subst hb
  simp [Conv.bytesToString]
  rfl
 | some ad =>
  have hld : (loadCells ad es.length).run P w = .ok (ns.map (Value.int .u8)).toArray w := by
   have := run_loadCells_list (P := P) w ad (ns.map (Value.int .u8)) (fun j v hv => hcell ad rfl j v hv)
   simpa [hl] using this
  rw [run_bytesToString w ad es.length c ns hld]
  rfl
end
end Go.AL
set_option linter.unusedVariables false
set_option linter.unusedSimpArgs false
namespace Go.AL
open Go.RowKit

def strEs (s : ByteArray) : List (List AV) := s.data.toList.map fun b => [.int .u8 b.toNat]
theorem strEs_len (s : ByteArray) : (strEs s).length = s.size := by
 rw [strEs, List.length_map, Array.length_toList]; rfl
section
variable {P : Program} {B : Nat} {w0 : World} {σ : Store} {g : Ghost} {w : World}
theorem strEs_rel (s : ByteArray) : ElemsRel g 1 (strEs s) (Lib.strCells s) := by
 refine ⟨by rw [Lib.strCells_length, strEs_len]; omega, fun e he => ?_, fun i j e c hi hj => ?_⟩
 · simp only [strEs, List.mem_map] at he
   obtain ⟨b, _, rfl⟩ := he
   rfl
 · simp only [strEs, List.getElem?_map, Option.map_eq_some_iff] at hi
   obtain ⟨b, hb, rfl⟩ := hi
   have hj0 : j = 0 := by
    rcases Nat.eq_zero_or_pos j with h | h
    · exact h
    · rw [List.getElem?_eq_none (by simp; omega)] at hj; cases hj
   subst hj0
   simp only [List.getElem?_cons_zero, Option.some.injEq] at hj
   subst hj
   have : (Lib.strCells s).getD (i * 1 + 0) undef = .int .u8 b.toNat := by
    simp only [Nat.mul_one, Nat.add_zero, Lib.strCells, List.getD_eq_getElem?_getD, List.getElem?_map, hb, Option.map_some, Option.getD_some]
   rw [this]
   exact ⟨.int _ _, rfl⟩
theorem run_append_str (base : Nat) (t u ty e : TypeId) (i : TypeInfo) (ht : P.underlying t = some (.slice e)) (hu : P.underlying u = some .string) (hi : P.info? e = some i) (hz : i.zero = some (.int .u8 0))
 (hsize : i.size = 1) (hby : i.bytes = 1) (v : Value) (n : Nat) (xs : List Value) (hown : w.ownsRow base e 1 v n xs) (s : ByteArray)
 (h63 : n + s.size ≤ maxLen) (hbytes : n + s.size ≤ 140737488355328) (hbase : base ≤ w.heap.size) :
 ∃ v' w', (Builtin.append_ #[t, u] ty #[v, .string s]).run P w = .ok v' w' ∧ w'.ownsRow base e 1 v' (n + s.size) (xs ++ Lib.strCells s) ∧ w.grownBy w' v.ownBlock ∧
  (v' = .slice none 0 0 ↔ v = .slice none 0 0 ∧ s.size = 0) ∧ (v'.ownBlock = v.ownBlock ∨ v'.ownBlock = some w.heap.size) ∧ (v = .slice none 0 0 → s.size = 0 → w' = w) := by
 have hsmall : n + s.size ≤ 9223372036854775807 := by simp only [maxLen] at h63; omega
 have hxl : xs.length = n := by simpa using hown.1
 have hlen : (xs ++ Lib.strCells s).length = (n + s.size) * 1 := by rw [List.length_append, hxl, Lib.strCells_length, Nat.mul_one]
 have grown : ∀ (old : Nat), old < n + s.size → ∀ (row : Option Nat),
  (w.drew.alloc (.cells (xs.toArray ++ (Lib.strCells s).toArray ++ Builtin.zeroCells (Value.int .u8 0).cells (grownCap w (n + s.size) old e - (n + s.size))) e)).ownsRow base e 1
   (.slice (some ⟨w.heap.size, 0, none⟩) (n + s.size) (grownCap w (n + s.size) old e)) (n + s.size) (xs ++ Lib.strCells s) ∧
  w.grownBy (w.drew.alloc (.cells (xs.toArray ++ (Lib.strCells s).toArray ++ Builtin.zeroCells (Value.int .u8 0).cells (grownCap w (n + s.size) old e - (n + s.size))) e)) row := by
  intro old ho row
  have hge := grownCap_ge w (n + s.size) old e
  have hcm : grownCap w (n + s.size) old e ≤ maxLen := grownCap_le_maxLen w (n + s.size) old e h63
  refine ⟨⟨hlen, .inr ⟨w.heap.size, _, _, rfl, hbase, heap_alloc_new w.drew _, hge, hcm, ?_, ?_⟩⟩, ⟨rfl, rfl, rfl, by simp, fun k hk _ => heap_alloc_old w.drew _ k hk⟩⟩
  · have hz1 : (Value.int IntKind.u8 0).cells.size = 1 := rfl
    simp only [Array.size_append, List.size_toArray, size_zeroCells, hz1, hxl, Lib.strCells_length]
    omega
  · simp only [Array.toList_append, List.append_assoc]
    rw [← List.append_assoc, ← hlen]
    exact List.take_left
 rcases hown.2 with ⟨rfl, rfl⟩ | ⟨g, cap, cur, rfl, hbg, hg, hnc, hcm, hcs, htake⟩
 · have hx : xs = [] := List.eq_nil_of_length_eq_zero hxl
   subst hx
   by_cases hm : s.size = 0
   · have hn : Lib.strCells s = [] := List.eq_nil_of_length_eq_zero (by rw [Lib.strCells_length]; exact hm)
     refine ⟨.slice none 0 0, w, ?_, by rw [hm, hn]; exact World.ownsRow_nil w base e 1, ⟨rfl, rfl, rfl, Nat.le_refl _, fun _ _ _ => rfl⟩, by simp [hm], .inl rfl, fun _ _ => rfl⟩
     have hf := Lib.run_firstCells_string (P := P) w 1 s
     rw [hm] at hf
     simp [Builtin.append_, run_underlying ht, run_underlying hu, sizeOf, typeInfo, hi, hsize, Builtin.lenOf, hm, hf]
   · have hr := run_append_nil_string (P := P) w t u ty e i (.int .u8 0) ht hu hi hz s (by omega) (by omega) (by rw [hby]; omega)
     have hgr := grown 0 (by omega) (Value.ownBlock (.slice none 0 0))
     simp only [Nat.zero_add, List.nil_append, Array.empty_append] at hgr ⊢
     have e1 : (s.data.map fun b => Value.int .u8 b.toNat) = (Lib.strCells s).toArray := by
      apply Array.ext'
      simp [Lib.strCells]
     rw [e1] at hr
     exact ⟨_, _, hr, hgr.1, hgr.2, by simp [hm], .inr rfl, fun _ h => absurd h hm⟩
 · by_cases hroom : n + s.size ≤ cap
   · have hcs' : cur.size = cap := by simpa using hcs
     have hr := Lib.run_append_room_string (P := P) w t u ty e i ht hu hi hsize g n cap cur hg s hroom (by omega)
     refine ⟨_, _, hr, ⟨hlen, .inr ⟨g, cap, _, rfl, hbg, setRow_heap w g cur _ e _ hg, hroom, hcm, ?_, ?_⟩⟩, ⟨rfl, rfl, rfl, by simp, fun k _ hk => setRow_other w g k _ (fun e => hk (by simp [Value.ownBlock, e]))⟩, by simp, .inl rfl, fun h => by cases h⟩
     · simp only [List.size_toArray, List.length_append, List.length_take, List.length_drop, Array.length_toList, Lib.strCells_length]
       omega
     · have ht' : cur.toList.take n = xs := by simpa using htake
       rw [ht', ← hlen]
       exact List.take_left
   · have holds : ∀ j u, xs[j]? = some u → w.cell? ((⟨g, 0, none⟩ : Addr).add j) = some u := hown.cells (g := g) rfl
     have hr := Lib.run_append_grow_string (P := P) w t u ty e i (.int .u8 0) ht hu hi hz ⟨g, 0, none⟩ n cap xs (by rw [hsize]; simpa using hxl) holds s (by omega) (by omega) (by rw [hby]; exact growslice_fits (by omega) (by omega))
     have hgr := grown cap (by omega) (Value.ownBlock (.slice (some ⟨g, 0, none⟩) n cap))
     exact ⟨_, _, hr, hgr.1, hgr.2, by simp, .inr rfl, fun h => by cases h⟩
theorem op_row_new (h : SR B w0 σ g w) {e : TypeId} {sz : Nat} {s : Sem Value} {es : List (List AV)} {xs : List Value} {v' : Value} {w' : World} (hrun : s.run P w = .ok v' w') (hown : w'.ownsRow B e sz v' es.length xs) (hrel : ElemsRel g sz es xs)
 (hgrow : w.grownBy w' none) (hne : ¬ v' = .slice none 0 0) (hblk : v'.ownBlock = none ∨ v'.ownBlock = some w.heap.size) (hml : es.length ≤ maxLen) :
 OpOK P B w0 g w (do pure (.value (← s))) (.own σ.next 0 sz 0 es.length) (σ.push (.cells e 0 sz es)) := by
 rcases hown.2 with ⟨hv, _⟩ | ⟨gb, cap, cur, rfl, hbg, hg, hnc, hcm, hcs, htake⟩
 · exact absurd hv hne
 · have hgb : gb = w.heap.size := by
    rcases hblk with hb2 | hb2 <;> simp [Value.ownBlock] at hb2
    exact hb2
   have hlt : w.heap.size < w'.heap.size := by have := (Array.getElem?_eq_some_iff.1 hg).1; omega
   have hobj : ObjRel g w' ⟨0, gb, sz, cap⟩ (.cells e 0 sz es) := ObjRel.ofOwns (base := B) hg hcs hcm hnc htake hrel
   have hSR : SR B w0 (σ.push (.cells e 0 sz es)) (g.take ⟨0, gb, sz, cap⟩) w' := by
    have he' := Ext.take g ⟨0, gb, sz, cap⟩
    refine ⟨h.below.trans ⟨hgrow.os, hgrow.tape, hgrow.output, hgrow.size, fun k hk => hgrow.block k (by have := h.size; omega) (by simp)⟩, by have := h.size; have := hgrow.size; omega,
     fun b cells hb2 => ?_, by show g.next + 1 = σ.next + 1; rw [h.next], fun id y hy => ?_, fun id id' q q' hq hq' hb2 => ?_, fun id q hq => ?_, fun id q hq => ?_⟩
    · obtain ⟨t2, fr, hh, hpt⟩ := h.phi b cells hb2
      exact ⟨t2, fr, by rw [hgrow.block b (Array.getElem?_eq_some_iff.1 hh).1 (by simp)]; exact hh, hpt⟩
    · rw [Store.get_push] at hy
      by_cases hid : id = σ.next
      · subst hid
        simp only [if_true, Option.some.injEq] at hy
        subst hy
        exact ⟨_, by simp [Ghost.take, h.next], hobj.ext he'⟩
      · simp only [hid, if_false] at hy
        obtain ⟨q, hq, hqr⟩ := h.objs id y hy
        have : id ≠ g.next := by rw [h.next]; exact hid
        exact ⟨q, by simp only [Ghost.take, this, if_false]; exact hq, (hqr.world (hgrow.block q.blk (h.fresh id q hq).2.1 (by simp))).ext he'⟩
    · simp only [Ghost.take] at hq hq'
      split at hq
      · rename_i a1
        split at hq'
        · rename_i a2; rw [a1, a2]
        · cases hq
          have := (h.fresh id' q' hq').2.1
          simp only at hb2
          omega
      · split at hq'
        · cases hq'
          have := (h.fresh id q hq).2.1
          simp only at hb2
          omega
        · exact h.inj id id' q q' hq hq' hb2
    · simp only [Ghost.take] at hq ⊢
      split at hq
      · cases hq; simp only [hgb]; exact h.phi_none
      · exact h.apart id q hq
    · simp only [Ghost.take] at hq ⊢
      split at hq
      · rename_i a1
        cases hq
        exact ⟨hbg, by simp only; omega, by omega⟩
      · obtain ⟨a, b, c'⟩ := h.fresh id q hq
        exact ⟨a, by omega, by omega⟩
   refine OpOK.value' hrun (Ext.take g _) hSR (.own (by simp [Ghost.take, h.next]) (by omega) ⟨_, _, rfl⟩ fun p hp => ?_)
   simp [Ghost.take, h.next] at hp
   subst hp
   exact ⟨Nat.le_refl _, fun _ => ⟨rfl, by simp only; omega, _, by simp; rfl, fun _ => by simp⟩⟩
theorem op_appends_nil (h : SR B w0 σ g w) {t u ty e : TypeId} {i : TypeInfo} (ht : P.underlying t = some (.slice e)) (hu : P.underlying u = some .string) (hi : P.info? e = some i) (hz : i.zero = some (.int .u8 0)) (hsize : i.size = 1) (hby : i.bytes = 1)
 {s : ByteArray} (hs : s.size ≤ maxLen) (hb : s.size ≤ 140737488355328) :
 OpOK P B w0 g w (do pure (.value (← Builtin.append_ #[t, u] ty #[.slice none 0 0, .string s])))
  (if s.size = 0 then .nils else .own σ.next 0 1 0 s.size) (if s.size = 0 then σ else σ.push (.cells e 0 1 (strEs s))) := by
 obtain ⟨v', w', hrun, hown, hgrow, hnil, hblk, hsame⟩ := run_append_str (P := P) (w := w) B t u ty e i ht hu hi hz hsize hby (.slice none 0 0) 0 [] (World.ownsRow_nil w B e 1) s (by omega) (by omega) h.size
 by_cases h0 : s.size = 0
 · rw [if_pos h0, if_pos h0]
   have hv := hnil.2 ⟨rfl, h0⟩
   have hw := hsame rfl h0
   subst hv hw
   exact OpOK.value h hrun .nils
 · rw [if_neg h0, if_neg h0]
   have hne : ¬ v' = .slice none 0 0 := fun hv => h0 (hnil.1 hv).2
   simp only [Nat.zero_add, List.nil_append] at hown
   rw [← strEs_len s] at hown
   have := op_row_new (σ := σ) (es := strEs s) h hrun hown (strEs_rel s) hgrow hne hblk (by rw [strEs_len]; exact hs)
   rwa [strEs_len] at this
theorem op_appends_own (h : SR B w0 σ g w) {t u ty e : TypeId} {i : TypeInfo} (ht : P.underlying t = some (.slice e)) (hu : P.underlying u = some .string) (hi : P.info? e = some i) (hz : i.zero = some (.int .u8 0)) (hsize : i.size = 1) (hby : i.bytes = 1)
 {id ver len : Nat} {vs : Value} (hs : RelV g (.own id ver 1 0 len) vs) {es0 : List (List AV)} (ho : σ.get id = some (.cells e ver 1 es0)) (hle : len ≤ es0.length)
 {s : ByteArray} (hb : len + s.size ≤ 140737488355328) (hb2 : len + s.size ≤ maxLen) :
 OpOK P B w0 g w (do pure (.value (← Builtin.append_ #[t, u] ty #[vs, .string s])))
  (.own id (ver + 1) 1 0 (len + s.size)) (σ.upd id (.cells e (ver + 1) 1 (es0.take len ++ strEs s))) := by
 obtain ⟨p, hp, hobj⟩ := h.objs id _ ho
 obtain ⟨cells, c1, c2, c3, c4, c5, c6, c7⟩ := hobj.elems
 have hel := c7 len hle
 cases hs with
 | own hid hlen hv hpp =>
  obtain ⟨q1, q2, a, rfl, ha⟩ := (hpp p hp).2 c4
  have ha := ha (.inl rfl)
  subst ha
  simp only [Nat.zero_mul, Nat.sub_zero, Nat.zero_add, Nat.mul_one] at *
  have htl : (es0.take len).length = len := by simp; omega
  have hlenx : (cells.toList.take len).length = len := by have := hel.1; rw [htl] at this; omega
  have hown0 : w.ownsRow B e 1 (.slice (some ⟨p.blk, 0, none⟩) len p.cap) len (cells.toList.take len) :=
   ⟨by omega, .inr ⟨p.blk, p.cap, cells, rfl, (h.fresh id p hp).1, c1, by omega, c3, by omega, by rw [Nat.mul_one]⟩⟩
  obtain ⟨v', w', hrun, hown, hgrow, hnil, hblk, -⟩ := run_append_str (P := P) (w := w) B t u ty e i ht hu hi hz hsize hby _ len _ hown0 s hb2 hb h.size
  have hne : ¬ v' = .slice none 0 0 := fun hv' => by have := hnil.1 hv'; simp at this
  rcases hown.2 with ⟨hv', _⟩ | ⟨gb, cap, cur, rfl, hbg, hg, hnc, hcm, hcs, htake⟩
  · exact absurd hv' hne
  · have hlen2 : (es0.take len ++ strEs s).length = len + s.size := by rw [List.length_append, htl, strEs_len]
    have hobj' : ObjRel g w' ⟨ver + 1, gb, 1, cap⟩ (.cells e (ver + 1) 1 (es0.take len ++ strEs s)) :=
     ObjRel.ofOwns (base := B) hg hcs hcm (by rw [hlen2]; exact hnc) (by rw [hlen2]; exact htake) (hel.append (strEs_rel s))
    have hgbs : gb = p.blk ∨ w.heap.size ≤ gb := by
     rcases hblk with hb3 | hb3 <;> simp [Value.ownBlock] at hb3
     · exact .inl hb3
     · exact .inr (by omega)
    have hv2 : p.ver < (⟨ver + 1, gb, 1, cap⟩ : Place).ver := by simp only; omega
    have hm := Ext.move (p := ⟨ver + 1, gb, 1, cap⟩) hp hv2
    refine OpOK.value' hrun hm (h.moved hp hv2 hgbs (Array.getElem?_eq_some_iff.1 hg).1 hgrow.size hgrow.os hgrow.tape hgrow.output
     (fun k hk hkne => hgrow.block k hk (by simp [Value.ownBlock]; exact hkne)) (hobj'.ext hm)) (.own hid (by omega) ⟨_, _, rfl⟩ fun q hq => ?_)
    simp [Ghost.move] at hq
    subst hq
    exact ⟨Nat.le_refl _, fun _ => ⟨rfl, by simp only; omega, _, by simp; rfl, fun _ => by simp⟩⟩
theorem SR.freezeAt (h : SR B w0 σ g w) {b : Nat} (hB : B ≤ b) (hp : ∀ id p, g.pl id = some p → p.blk ≠ b) (hΦ : g.Φ b = none) (n : Nat) : SR B w0 σ g (w.freeze ⟨b, 0, none⟩ n) := by
 have hblk : ∀ k, k ≠ b → (w.freeze ⟨b, 0, none⟩ n).heap[k]? = w.heap[k]? := by
  intro k hk
  unfold World.freeze
  split
  · rfl
  · simp only [Array.getElem?_modify]
    rw [if_neg (by omega)]
 have hsize : (w.freeze ⟨b, 0, none⟩ n).heap.size = w.heap.size := by
  unfold World.freeze
  split
  · rfl
  · simp
 refine ⟨Lib.below_freeze h.below (p := ⟨b, 0, none⟩) hB n, by rw [hsize]; exact h.size, fun k c hc => ?_, h.next, fun id o ho => ?_, h.inj, h.apart, fun id p hp => ?_⟩
 · obtain ⟨t, fr, h1, h2⟩ := h.phi k c hc
   exact ⟨t, fr, by rw [hblk k (by rintro rfl; rw [hΦ] at hc; cases hc)]; exact h1, h2⟩
 · obtain ⟨p, h1, h2⟩ := h.objs id o ho
   exact ⟨p, h1, h2.world (hblk _ (hp id p h1))⟩
 · rw [hsize]; exact h.fresh id p hp
theorem ptr_addr (h : SR B w0 σ g w) {id ver ty sz k off : Nat} {es : List (List AV)} (ho : σ.get id = some (.cells ty ver sz es)) {v : Value} (hv : RelV g (.ptr id ver k off) v) :
 ∃ p cells, g.pl id = some p ∧ v = .pointer (some ⟨p.blk, k * sz + off, none⟩) ∧ w.heap[p.blk]? = some (.cells cells ty (0, 0)) ∧ cells.size = p.cap * sz ∧ es.length ≤ p.cap ∧ p.sz = sz := by
 obtain ⟨p, hp, h1, h2, h3, h4, cells, h5, h6, h7, h8⟩ := h.objs id _ ho
 cases hv with
 | ptr hid hpp h9 =>
  refine ⟨p, cells, hp, ?_, h5, h6, h3, h2⟩
  rw [(hpp p hp).2 h1, h2]
theorem op_uptr (h : SR B w0 σ g w) {src dst t : TypeId} {j : TypeInfo} (hs : P.underlying src = some (.pointer t)) (hd : P.underlying dst = some .unsafePointer) (ht : P.info? t = some j) (hj : j.size ≠ 0)
 {id ver ty sz k off : Nat} {es : List (List AV)} (ho : σ.get id = some (.cells ty ver sz es)) (hk : k < es.length) (hoff : off < sz) {v : Value} (hv : RelV g (.ptr id ver k off) v) :
 OpOK P B w0 g w (do pure (.value (← convert src dst v))) (.ptr id ver k off) σ := by
 obtain ⟨p, cells, hp, rfl, h5, h6, h3, -⟩ := ptr_addr h ho hv
 refine OpOK.value h (Lib.run_to_unsafe (P := P) w ⟨p.blk, k * sz + off, none⟩ hs hd ht hj (e := ty) (cells := cells.size) (by simp [World.shape?, h5]) ?_) hv
 show k * sz + off < cells.size
 rw [h6]
 have : (k + 1) * sz ≤ p.cap * sz := Nat.mul_le_mul_right _ (by omega)
 rw [Nat.add_mul] at this
 omega
theorem rowAt_more {p : Program} {fits : TypeId → Bool} {d : Nat} {e : TypeId} {c : Nat} (hc : 1 ≤ c) (h : rowAt p fits d e 1 0 1 = true) : rowAt p fits d e c 0 1 = true := by
 cases d with
 | zero => cases h
 | succ d =>
  simp only [rowAt] at h ⊢
  split at h
  · cases h
  · rename_i hs
    simp only [Nat.zero_div, Nat.zero_mod, Nat.zero_add, Nat.le_refl, decide_true, Bool.true_and, Nat.lt_one_iff, beq_self_eq_true] at h ⊢
    have h1 : decide (1 ≤ c) = true := by simpa using hc
    have h2 : decide (0 < c) = true := by simp; omega
    rw [h1, h2]
    simpa [hs] using h
theorem liesAt_more {p : Program} {d : Nat} {e u : TypeId} {c : Nat} (hc : 1 ≤ c) (hu : ∀ m e', p.underlying u ≠ some (.array m e')) (h : liesAt p d e 1 0 u 1 = true) : liesAt p d e c 0 u 1 = true := by
 cases d with
 | zero => cases h
 | succ d =>
  simp only [liesAt] at h ⊢
  rw [Bool.or_eq_true] at h ⊢
  rcases h with h | h
  · exact .inl (rowAt_more hc h)
  · cases h
theorem op_ufrom (h : SR B w0 σ g w) {src dst u : TypeId} {j : TypeInfo} (hs : P.underlying src = some .unsafePointer) (hd : P.underlying dst = some (.pointer u)) (hj : P.info? u = some j) (hu : ∀ m e', P.underlying u ≠ some (.array m e'))
 {id ver ty sz : Nat} {es : List (List AV)} (ho : σ.get id = some (.cells ty ver sz es)) (hes : es ≠ []) (hsz : P.cellsOf ty = sz) (hsz0 : sz ≠ 0) (hl : liesAt P P.depth ty 1 0 u 1 = true) {v : Value} (hv : RelV g (.ptr id ver 0 0) v) :
 OpOK P B w0 g w (do pure (.value (← convert src dst v))) (.ptr id ver 0 0) σ := by
 obtain ⟨p, cells, hp, rfl, h5, h6, h3, -⟩ := ptr_addr h ho hv
 refine OpOK.value h (Lib.run_from_unsafe (P := P) w ⟨p.blk, 0 * sz + 0, none⟩ hs hd hj (e := ty) (cells := cells.size) (by simp [World.shape?, h5]) ?_) hv
 have hlen : 0 < es.length := by cases es with | nil => exact absurd rfl hes | cons a l => simp
 have hdiv : cells.size / P.cellsOf ty = p.cap := by rw [h6, hsz]; exact Nat.mul_div_cancel _ (by omega)
 show liesAt P P.depth ty (cells.size / P.cellsOf ty) (0 * sz + 0) u 1 = true
 rw [hdiv, Nat.zero_mul, Nat.zero_add]
 exact liesAt_more (by omega) hu hl
theorem op_ptrsame (h : SR B w0 σ g w) {neg : Bool} {op : BinOp} (hop : op = if neg then .neq else .eql) {t te : TypeId} {j : TypeInfo} (hp : P.underlying t = some (.pointer te)) (hte : P.info? te = some j) {ox oy : Operand}
 {id ver ty sz k off : Nat} {es : List (List AV)} (ho : σ.get id = some (.cells ty ver sz es)) {vx vy : Value} (hx : RelV g (.ptr id ver k off) vx) (hy : RelV g (.ptr id ver k off) vy) :
 OpOK P B w0 g w (do pure (.value (← (do eqGuard op t ox oy vx vy; Go.binOp op t vx vy)))) (.bool (!neg)) σ := by
 obtain ⟨p, cells, hpl, rfl, -⟩ := ptr_addr h ho hx
 obtain ⟨p', cells', hpl', rfl, -⟩ := ptr_addr h ho hy
 rw [hpl] at hpl'
 cases hpl'
 have hg : (eqGuard op t ox oy (.pointer (some ⟨p.blk, k * sz + off, none⟩)) (.pointer (some ⟨p.blk, k * sz + off, none⟩))).run P w = .ok () w := run_eqGuard (by rintro cs ⟨⟩) (by rintro ⟨⟩)
 have he : ∀ d : Nat, (Op.equalIn (d + 1) t (.pointer (some ⟨p.blk, k * sz + off, none⟩)) (.pointer (some ⟨p.blk, k * sz + off, none⟩))).run P w = .ok true w := fun d => by
  simp [Op.equalIn, run_underlying hp, sizeOf, typeInfo, hte, run_sameAddr_same]
 subst hop
 cases neg
 · refine OpOK.value h (v := .bool true) ?_ (.bool true)
   rw [Sem.run_bind, hg, Result.andThen_ok]
   simp only [Bool.false_eq_true, if_false, binOp]
   simp [Op.equal, Op.maxDepth, he 9999]
 · refine OpOK.value h (v := .bool false) ?_ (.bool false)
   rw [Sem.run_bind, hg, Result.andThen_ok]
   simp only [if_true]
   exact Lib.run_neq_ptr_same w _ hp hte
theorem op_sdata (h : SR B w0 σ g w) {ts : Array TypeId} {ty id ver sz len t : Nat} {es : List (List AV)} (ho : σ.get id = some (.cells t ver sz es)) (hlen : 0 < len) {v : Value} (hv : RelV g (.own id ver sz 0 len) v) :
 OpOK P B w0 g w (do pure (.value (← Builtin.unsafeSliceData_ ts ty #[v]))) (.ptr id ver 0 0) σ := by
 obtain ⟨p, hp, h1, h2, h3, h4, cells, h5, h6, h7, h8⟩ := h.objs id _ ho
 cases hv with
 | own hid hl hv hpp =>
  obtain ⟨q1, q2, a, rfl, ha⟩ := (hpp p hp).2 h1
  have ha := ha (.inl rfl)
  subst ha
  have hc : p.cap - 0 ≠ 0 := by omega
  refine OpOK.value h (v := .pointer (some ⟨p.blk, 0 * sz, none⟩)) (by rw [Nat.zero_mul]; have := Lib.run_unsafeSliceData_row (P := P) w ts ty ⟨p.blk, 0, none⟩ len (p.cap - 0) hc; simpa using this) (.ptr hid (fun q hq => ?_) ⟨_, rfl⟩)
  rw [hp] at hq
  cases hq
  exact ⟨by omega, fun _ => by simp⟩
theorem op_sdata_nil (h : SR B w0 σ g w) {ts : Array TypeId} {ty : TypeId} {v : Value} (hv : RelV g .nils v) : OpOK P B w0 g w (do pure (.value (← Builtin.unsafeSliceData_ ts ty #[v]))) .nilp σ := by
 cases hv
 exact OpOK.value h (v := .pointer none) (Lib.run_unsafeSliceData_nil w ts ty 0 0) .nilp
def byteU : List AV → Option UInt8
 | [.int .u8 i] => if 0 ≤ i ∧ i < 256 then some (UInt8.ofNat i.toNat) else none
 | _ => none
def bytesU : List (List AV) → Option (List UInt8)
 | [] => some []
 | e :: r => match byteU e, bytesU r with | some b, some l => some (b :: l) | _, _ => none
theorem byteU_some {e : List AV} {b : UInt8} (h : byteU e = some b) : e = [.int .u8 (b.toNat : Int)] := by
 unfold byteU at h
 split at h
 · rename_i i
   split at h
   · rename_i hi
     cases h
     obtain ⟨n, rfl⟩ := Int.eq_ofNat_of_zero_le hi.1
     have : n < 256 := by omega
     simp only [Int.toNat_natCast]
     have e : (UInt8.ofNat n).toNat = n := by simp; omega
     rw [e]
   · cases h
 · cases h
theorem bytesU_some : ∀ {es : List (List AV)} {l : List UInt8}, bytesU es = some l → l.length = es.length ∧ ∀ (j : Nat) (x : UInt8), l[j]? = some x → es[j]? = some [.int .u8 (x.toNat : Int)]
 | [], l, h => by simp only [bytesU, Option.some.injEq] at h; subst h; simp
 | e :: r, l, h => by
  simp only [bytesU] at h
  split at h
  · rename_i b l' hb hl
    cases h
    obtain ⟨h1, h2⟩ := bytesU_some hl
    refine ⟨by simp [h1], fun j x hj => ?_⟩
    match j, hj with
    | 0, hj => simp at hj; subst hj; simp [byteU_some hb]
    | j + 1, hj => simpa using h2 j x (by simpa using hj)
  · cases h
theorem op_ustr (h : SR B w0 σ g w) {pt it ty e : TypeId} (hp : P.underlying pt = some (.pointer e)) (hc : P.cellsOf e = 1) {id ver n : Nat} {es : List (List AV)} (ho : σ.get id = some (.cells e ver 1 es)) (hn : n ≤ es.length) {l : List UInt8} (hl : bytesU (es.take n) = some l) (hn0 : 0 < n)
 (hs : n ≤ maxLen) {v : Value} (hv : RelV g (.ptr id ver 0 0) v) :
 OpOK P B w0 g w (do pure (.value (← Builtin.unsafeString_ #[pt, it] ty #[v, .int .i64 (n : Int)]))) (.str ⟨⟨l⟩⟩) (σ.drop id) := by
 obtain ⟨p, cells, hpl, rfl, h5, h6, h3, -⟩ := ptr_addr h ho hv
 obtain ⟨q1, q2⟩ := bytesU_some hl
 have hlen : l.length = n := by rw [q1, List.length_take]; omega
 obtain ⟨p', hp', _, _, _, _, cells', h5', h6', h7, h8⟩ := h.objs id _ ho
 rw [hpl] at hp'
 cases hp'
 rw [h5] at h5'
 cases h5'
 have hrun := Lib.run_unsafeString_row (P := P) w pt it ty e hp hc p.blk cells.size (by simp [World.shape?, h5]) l (by intro hh; subst hh; simp at hlen; omega) (by rw [hlen, h6]; omega) (by rw [hlen]; simp only [maxLen] at hs; omega)
  (fun j x hj => by
   have h9 := q2 j x hj
   rw [List.getElem?_take] at h9
   split at h9
   · have h10 := (h8 j 0 _ _ h9 rfl).1
     have hj2 : j < cells.size := by
      have := (List.getElem?_eq_some_iff.1 h9).1
      rw [h6]; omega
     rw [show j * 1 + 0 = j by omega] at h10
     have hadd : (⟨p.blk, 0, none⟩ : Addr).add j = ⟨p.blk, j, none⟩ := by unfold Addr.add; split <;> simp_all
     rw [hadd, cell_of_row w p.blk _ cells e (0, 0) h5]
     have h11 : cells[j]? = some cells[j] := Array.getElem?_eq_getElem hj2
     rw [h11]
     rw [Array.getD_eq_getD_getElem?, h11] at h10
     simp only [Option.getD_some] at h10
     generalize cells[j] = c at h10 h11 ⊢
     cases h10
     rfl
   · cases h9)
 have hf := h.forget id
 have hS : SR B w0 (σ.drop id) (g.forget id) (w.freeze ⟨p.blk, 0, none⟩ l.length) := hf.freezeAt (h.fresh id p hpl).1 (fun j q hq => by
  simp only [Ghost.forget] at hq
  split at hq
  · cases hq
  · rename_i hj
    intro hb
    exact hj (h.inj j id q p hq hpl hb)) (h.apart id p hpl) _
 rw [← hlen, show (0 * 1 + 0 : Nat) = 0 from rfl]
 exact OpOK.value' hrun (Ext.forget g id) hS (.str _ (by show l.length ≤ maxLen; rw [hlen]; exact hs))
theorem op_ustr_nil (h : SR B w0 σ g w) {pt it ty : TypeId} {v : Value} (hv : RelV g .nilp v) : OpOK P B w0 g w (do pure (.value (← Builtin.unsafeString_ #[pt, it] ty #[v, .int .i64 0]))) (.str .empty) σ := by
 cases hv
 exact OpOK.value h (Lib.run_unsafeString_none (P := P) w pt it ty none) (.str _ (Nat.zero_le _))
end
end Go.AL
set_option linter.unusedVariables false
set_option linter.unusedSimpArgs false
namespace Go.AL
open Go.RowKit

inductive AX where
 | t (i : Nat)
 | c (v : AV)
def AX.ev (tm : Nat → AV) : AX → AV
 | .t i => tm i
 | .c v => v

inductive LK where
 | str | slice | map
 deriving DecidableEq

inductive AOp where
 | move (x : AX)
 | pick (c a b : AX)
 | new (ty : Nat) (x : AX)
 | build (zero : List AV) (parts : List (Nat × Nat × AX))
 | lit (own : Bool) (ty sz : Nat) (xs : List AX)
 | load (agg : Option Nat) (x : AX)
 | store (sz : Nat) (a x : AX)
 | nilck (x : AX)
 | bin (kd : KK) (op : BinOp) (x y : AX)
 | nileq (k : NK) (neg : Bool) (x y : AX)
 | not (x : AX)
 | neg (x : AX)
 | conv (k : IntKind) (x : AX)
 | same (x : AX)
 | mkfn (f : Fn) (first captured : List AX)
 | mkmap
 | mkslice (ty sz bytes : Nat) (zero : List AV) (l c : AX)
 | cut (k : LK) (sz : Nat) (x : AX) (lo hi : Option AX)
 | faddr (off : Nat) (x : AX)
 | field (off : Nat) (agg : Option Nat) (x : AX)
 | iaddr (sz : Nat) (x i : AX)
 | index (x i : AX)
 | lookup (kd : KK) (zero : AV) (ok : Bool) (m k : AX)
 | mapset (kd : KK) (m k x : AX)
 | extract (x : AX) (i : Nat)
 | len (k : LK) (x : AX)
 | append (ty sz bytes : Nat) (s x : AX)
 | min2 (x y : AX)
 | bstr (x : AX)
 | max2 (x y : AX)
 | mapdel (kd : KK) (m k : AX)
 | call (f : FuncId) (args : List AX)
 | callv (f : AX) (args : List AX)
 | uptr (x : AX)
 | ufrom (tys : List (Nat × Nat)) (x : AX)
 | ptreq (neg : Bool) (x y : AX)
 | sdata (sz : Nat) (x : AX)
 | ustr (ty : Nat) (p n : AX)
 | appends (ty : Nat) (s x : AX)

def litEs (sz : Nat) : List AV → Option (List (List AV))
 | [] => some []
 | v :: r =>
  match v.cellsOf with
  | some cs => if cs.length = sz then (match litEs sz r with | some es => some (cs :: es) | none => none) else none
  | none => none

def bound (dflt : Int) : Option AV → Option Int
 | none => some dflt
 | some (.int _ n) => some n
 | _ => none

def AOp.eff (op : AOp) (tm : Nat → AV) (σ : Store) : Option (AV × Store) :=
 match op with
 | .move x => some (x.ev tm, σ)
 | .pick c a b => match c.ev tm with | .bool t => some (if t then a.ev tm else b.ev tm, σ) | _ => none
 | .new ty x => match (x.ev tm).cellsOf with | some cs => some (.ptr σ.next 0 0 0, σ.push (.cells ty 0 cs.length [cs])) | none => none
 | .build zc parts => match aFill zc (parts.map fun p => (p.1, p.2.1, p.2.2.ev tm)) with | some r => some (.agg r, σ) | none => none
 | .lit own ty sz xs =>
  match litEs sz (xs.map (·.ev tm)) with
  | some es => if own then some (.own σ.next 0 sz 0 es.length, σ.push (.cells ty 0 sz es)) else some (.list es, σ)
  | none => none
 | .load agg x =>
  match x.ev tm with
  | .ptr id ver k off =>
   match σ.get id with
   | some (.cells _ v _ es) => if v = ver then (match es[k]? with | some e => (match aLoad agg e off with | some r => some (r, σ) | none => none) | none => none) else none
   | _ => none
  | .rptr cs off => match aLoad agg cs off with | some r => some (r, σ) | none => none
  | _ => none
 | .store sz a x =>
  match a.ev tm with
  | .ptr id ver k off =>
   match (x.ev tm).cellsOf with
   | some cs =>
    match σ.get id with
    | some (.cells ty v s es) => if v = ver ∧ cs.length = sz then (match es[k]? with | some e => if off + cs.length ≤ e.length then some (.junk, σ.upd id (.cells ty ver s (es.set k (aPut e off cs)))) else none | none => none) else none
    | _ => none
   | none => none
  | _ => none
 | .nilck x => match x.ev tm with | .ptr a b c d => some (.ptr a b c d, σ) | .rptr a b => some (.rptr a b, σ) | .fn (.func f) a b => some (.fn (.func f) a b, σ) | _ => none
 | .bin kd op x y => match aBin kd op (x.ev tm) (y.ev tm) with | some r => some (r, σ) | none => none
 | .nileq k ng x y => match aNilEq k ng (x.ev tm) (y.ev tm) with | some r => some (r, σ) | none => none
 | .not x => match x.ev tm with | .bool b => some (.bool (!b), σ) | _ => none
 | .neg x => match x.ev tm with | .int k n => some (.int k (k.wrap (0 - n)), σ) | _ => none
 | .conv k x => match x.ev tm with | .int _ n => some (.int k (k.wrap n), σ) | _ => none
 | .same x => match x.ev tm with | .str s => some (.str s, σ) | _ => none
 | .mkfn f first captured => some (.fn f (first.map (·.ev tm)) (captured.map (·.ev tm)), σ)
 | .mkmap => some (.map σ.next, σ.push (.map []))
 | .mkslice ty sz bytes zc l c =>
  match l.ev tm, c.ev tm with
  | .int _ l, .int _ c => if 0 ≤ l ∧ l ≤ c ∧ (bytes : Int) * c ≤ 281474976710656 ∧ c ≤ 9223372036854775807 then some (.own σ.next 0 sz 0 l.toNat, σ.push (.cells ty 0 sz (List.replicate l.toNat zc))) else none
  | _, _ => none
 | .cut k sz x lo hi =>
  match k, x.ev tm with
  | .str, .str s =>
   match bound 0 (lo.map (·.ev tm)), bound s.size (hi.map (·.ev tm)) with
   | some l, some h => if 0 ≤ l ∧ l ≤ h ∧ h ≤ s.size then some (.str (s.extract l.toNat h.toNat), σ) else none
   | _, _ => none
  | .slice, .list es =>
   match bound 0 (lo.map (·.ev tm)), bound es.length (hi.map (·.ev tm)) with
   | some l, some h => if 0 ≤ l ∧ l ≤ h ∧ h ≤ es.length ∧ (∀ q, q ∈ es → q.length = sz) then some (.list ((es.take h.toNat).drop l.toNat), σ) else none
   | _, _ => none
  | .slice, .nils =>
   match bound 0 (lo.map (·.ev tm)), bound 0 (hi.map (·.ev tm)) with
   | some l, some h => if l = 0 ∧ h = 0 then some (.nils, σ) else none
   | _, _ => none
  | .slice, .own id ver s off ln =>
   match bound 0 (lo.map (·.ev tm)), bound ln (hi.map (·.ev tm)) with
   | some l, some h =>
    match σ.get id with
    | some (.cells _ v _ _) => if v = ver ∧ s = sz ∧ 0 ≤ l ∧ l ≤ h ∧ h ≤ ln then some (.own id ver s (off + l.toNat) (h.toNat - l.toNat), σ) else none
    | _ => none
   | _, _ => none
  | _, _ => none
 | .faddr off x =>
  match x.ev tm with
  | .ptr id ver k o => match σ.get id with | some (.cells _ v _ _) => if v = ver then some (.ptr id ver k (o + off), σ) else none | _ => none
  | .rptr cs o => some (.rptr cs (o + off), σ)
  | _ => none
 | .field off agg x => match x.ev tm with | .agg cs => (match aLoad agg cs off with | some r => some (r, σ) | none => none) | _ => none
 | .iaddr sz x i =>
  match i.ev tm with
  | .int _ n =>
   match x.ev tm with
   | .list es => if 0 ≤ n then (match es[n.toNat]? with | some c => if c.length = sz then some (.rptr c 0, σ) else none | none => none) else none
   | .own id ver s off ln => match σ.get id with | some (.cells _ v _ _) => if v = ver ∧ s = sz ∧ 0 ≤ n ∧ n < ln then some (.ptr id ver (off + n.toNat) 0, σ) else none | _ => none
   | _ => none
  | _ => none
 | .index x i =>
  match x.ev tm, i.ev tm with
  | .str s, .int _ n => if 0 ≤ n then (match s.data.toList[n.toNat]? with | some b => some (.int .u8 b.toNat, σ) | none => none) else none
  | _, _ => none
 | .lookup kd za ok m k =>
  match m.ev tm with
  | .map id =>
   match σ.get id with
   | some (.map es) =>
    match aFind kd (k.ev tm) es 0 with
    | some r => some (if ok then .tuple [findVal za r, .bool r.isSome] else findVal za r, σ)
    | none => none
   | _ => none
  | _ => none
 | .mapset kd m k x =>
  match m.ev tm with
  | .map id =>
   match σ.get id with
   | some (.map es) =>
    match aFind kd (k.ev tm) es 0 with
    | some r => some (.junk, σ.upd id (.map (mapPut es (k.ev tm) (x.ev tm) r)))
    | none => none
   | _ => none
  | _ => none
 | .extract x i => match x.ev tm with | .tuple vs => (match vs[i]? with | some r => some (r, σ) | none => none) | _ => none
 | .len k x =>
  match k, x.ev tm with
  | .str, .str s => some (.int .i64 s.size, σ)
  | .slice, .list es => some (.int .i64 es.length, σ)
  | .slice, .nils => some (.int .i64 0, σ)
  | .slice, .own _ _ _ _ ln => some (.int .i64 ln, σ)
  | .map, .map id => match σ.get id with | some (.map es) => some (.int .i64 es.length, σ) | _ => none
  | _, _ => none
 | .append ty sz bytes s x =>
  match elemsOf σ sz (x.ev tm) with
  | some es =>
   match s.ev tm with
   | .nils => if (∀ q, q ∈ es → q.length = sz) ∧ es.length * bytes ≤ 140737488355328 then some (if es = [] then .nils else .own σ.next 0 sz 0 es.length, if es = [] then σ else σ.push (.cells ty 0 sz es)) else none
   | .own id ver s off ln =>
    match σ.get id with
    | some (.cells t v z es0) => if (v = ver ∧ s = sz ∧ off = 0 ∧ t = ty ∧ z = sz ∧ ln ≤ es0.length) ∧ (∀ q, q ∈ es → q.length = sz) ∧ (ln + es.length) * bytes ≤ 140737488355328 ∧ ln + es.length ≤ maxLen then
     some (.own id (ver + 1) sz 0 (ln + es.length), σ.upd id (.cells ty (ver + 1) sz (es0.take ln ++ es))) else none
    | _ => none
   | _ => none
  | none => none
 | .bstr x =>
  match elemsOf σ 1 (x.ev tm) with
  | some es => if ∀ q, q ∈ es → q.length = 1 then (match bytesOf es with | some ns => some (.str (bytesStr ns), σ) | none => none) else none
  | none => none
 | .mapdel kd m k =>
  match m.ev tm with
  | .map id =>
   match σ.get id with
   | some (.map es) =>
    match aFind kd (k.ev tm) es 0 with
    | some r => some (.tuple [], σ.upd id (.map (mapDel es r)))
    | none => none
   | _ => none
  | _ => none
 | .max2 x y => match x.ev tm, y.ev tm with | .int k a, .int _ b => some (.int k (if a < b then b else a), σ) | _, _ => none
 | .min2 x y => match x.ev tm, y.ev tm with | .int k a, .int _ b => some (.int k (if b < a then b else a), σ) | _, _ => none
 | .call _ _ => none
 | .callv _ _ => none
 | .uptr x =>
  match x.ev tm with
  | .ptr id ver k off => match σ.get id with | some (.cells _ v s es) => if v = ver ∧ k < es.length ∧ off < s then some (.ptr id ver k off, σ) else none | _ => none
  | _ => none
 | .ufrom tys x =>
  match x.ev tm with
  | .ptr id ver k off => match σ.get id with | some (.cells ty v s es) => if v = ver ∧ k = 0 ∧ off = 0 ∧ 0 < es.length ∧ (ty, s) ∈ tys then some (.ptr id ver 0 0, σ) else none | _ => none
  | _ => none
 | .ptreq ng x y =>
  match x.ev tm, y.ev tm with
  | .ptr id ver k off, .ptr id' ver' k' off' => match σ.get id with | some (.cells _ v _ _) => if v = ver ∧ id = id' ∧ ver = ver' ∧ k = k' ∧ off = off' then some (.bool (!ng), σ) else none | _ => none
  | u, v => match aNilEq .ptr ng u v with | some r => some (r, σ) | none => none
 | .sdata sz x =>
  match x.ev tm with
  | .nils => some (.nilp, σ)
  | .own id ver s off ln => match σ.get id with | some (.cells _ v _ _) => if v = ver ∧ s = sz ∧ off = 0 ∧ 0 < ln then some (.ptr id ver 0 0, σ) else none | _ => none
  | _ => none
 | .ustr ty p n =>
  match p.ev tm, n.ev tm with
  | .nilp, .int .i64 m => if m = 0 then some (.str .empty, σ) else none
  | .ptr id ver k off, .int .i64 m =>
   match σ.get id with
   | some (.cells t v s es) => if (v = ver ∧ k = 0 ∧ off = 0 ∧ t = ty ∧ s = 1) ∧ 0 < m ∧ m.toNat ≤ es.length ∧ m.toNat ≤ maxLen then (match bytesU (es.take m.toNat) with | some l => some (.str ⟨⟨l⟩⟩, σ.drop id) | none => none) else none
   | _ => none
  | _, _ => none
 | .appends ty s x =>
  match x.ev tm with
  | .str b =>
   match s.ev tm with
   | .nils => if b.size ≤ 140737488355328 then some (if b.size = 0 then .nils else .own σ.next 0 1 0 b.size, if b.size = 0 then σ else σ.push (.cells ty 0 1 (strEs b))) else none
   | .own id ver s off ln =>
    match σ.get id with
    | some (.cells t v z es0) => if (v = ver ∧ s = 1 ∧ off = 0 ∧ t = ty ∧ z = 1 ∧ ln ≤ es0.length) ∧ ln + b.size ≤ 140737488355328 ∧ ln + b.size ≤ maxLen then
     some (.own id (ver + 1) 1 0 (ln + b.size), σ.upd id (.cells ty (ver + 1) 1 (es0.take ln ++ strEs b))) else none
    | _ => none
   | _ => none
  | _ => none

/-! ### Resolving -/
def absScalar : Value → Option AV
 | .bool b => some (.bool b)
 | .int k n => some (.int k n)
 | .string s => if s.size ≤ maxLen then some (.str s) else none
 | .pointer none => some .nilp
 | .slice none 0 0 => some .nils
 | .map none => some .nilm
 | .nilFunc => some .nilf
 | _ => none
def absScalars : List Value → Option (List AV)
 | [] => some []
 | v :: r => match absScalar v, absScalars r with | some a, some l => some (a :: l) | _, _ => none
def absConst : Value → Option AV
 | .agg cs => match absScalars cs.toList with | some l => some (.agg l) | none => none
 | .nilIface => some .junk
 | v => absScalar v
def absX : Operand → Option AX
 | .tmp t => some (.t t)
 | .const v => match absConst v with | some a => some (.c a) | none => none
 | .func f => some (.c (.fn (.func f) [] []))
 | .global _ => none
def absXs : List Operand → Option (List AX)
 | [] => some []
 | o :: r => match absX o, absXs r with | some a, some l => some (a :: l) | _, _ => none

theorem absScalar_rel {g : Ghost} {v : Value} {a : AV} (h : absScalar v = some a) : RelV g a v ∧ a.isCell = true := by
 unfold absScalar at h
 split at h
 case h_3 s =>
  split at h
  · rename_i hs; cases h; exact ⟨.str _ hs, rfl⟩
  · cases h
 all_goals first | (cases h; exact ⟨by constructor, rfl⟩) | (cases h; done)
theorem absScalars_rel {g : Ghost} : ∀ {vs : List Value} {l : List AV}, absScalars vs = some l → CellsRel g l vs := by
 intro vs
 induction vs with
 | nil => intro l h; simp [absScalars] at h; subst h; exact ⟨rfl, by simp⟩
 | cons v r ih =>
  intro l h
  simp only [absScalars] at h
  split at h
  · rename_i a l' ha hl'
    cases h
    have h1 := absScalar_rel (g := g) ha
    have h2 := ih hl'
    refine ⟨by simp [h2.1], fun j c hj => ?_⟩
    match j, hj with
    | 0, hj => simp at hj; subst hj; exact ⟨by simpa using h1.1, by simpa using h1.1.one h1.2⟩
    | j + 1, hj => have := h2.2 j c (by simpa using hj); simpa using this
  · cases h
theorem absConst_rel {g : Ghost} {v : Value} {a : AV} (h : absConst v = some a) : RelV g a v := by
 unfold absConst at h
 split at h
 · rename_i cs
   split at h
   · rename_i l hl
     cases h
     have := RelV.ofCells (absScalars_rel (g := g) hl)
     simpa using this
   · cases h
 · cases h; exact .junk _
 · exact (absScalar_rel h).1

def RelT (g : Ghost) (n : Nat) (tm : Nat → AV) (a : Act) : Prop := a.tmps.size = n ∧ a.defers = [] ∧ ∀ i, RelV g (tm i) (a.tmps.getD i undef)
theorem RelT.ext {g g' : Ghost} (he : Ext g g') {n : Nat} {tm : Nat → AV} {a : Act} (h : RelT g n tm a) : RelT g' n tm a := ⟨h.1, h.2.1, fun i => (h.2.2 i).ext he⟩

theorem absX_rel {g : Ghost} {n : Nat} {tm : Nat → AV} {a : Act} (h : RelT g n tm a) {o : Operand} {x : AX} (hx : absX o = some x) : RelV g (x.ev tm) (a.eval o) := by
 cases o with
 | tmp t => simp [absX] at hx; subst hx; exact h.2.2 t
 | const v =>
  simp only [absX] at hx
  split at hx
  · rename_i a' ha; cases hx; exact absConst_rel ha
  · cases hx
 | global gg => simp [absX] at hx
 | func f => simp [absX] at hx; subst hx; exact .fn rfl rfl (by simp) (by simp)
theorem absXs_rel {g : Ghost} {n : Nat} {tm : Nat → AV} {a : Act} (h : RelT g n tm a) : ∀ {os : List Operand} {xs : List AX}, absXs os = some xs →
 os.length = xs.length ∧ ∀ (j : Nat) (x : AX), xs[j]? = some x → RelV g (x.ev tm) ((os.map a.eval).getD j undef) := by
 intro os
 induction os with
 | nil => intro xs hx; simp [absXs] at hx; subst hx; simp
 | cons o r ih =>
  intro xs hx
  simp only [absXs] at hx
  split at hx
  · rename_i x l h1 h2
    cases hx
    obtain ⟨i1, i2⟩ := ih h2
    refine ⟨by simp [i1], fun j y hj => ?_⟩
    match j, hj with
    | 0, hj => simp at hj; subst hj; simpa using absX_rel h h1
    | j + 1, hj => have := i2 j y (by simpa using hj); simpa using this
  · cases hx

def KK.of : TypeDesc → Option KK
 | .int _ => some .int
 | .string => some .str
 | .bool => some .bool
 | _ => none
theorem KK.of_fits {d : TypeDesc} {k : KK} (h : KK.of d = some k) : k.fits d = true := by
 unfold KK.of at h; split at h <;> first | (cases h; rfl) | (cases h; done)
def NK.of : TypeDesc → Option NK
 | .pointer _ => some .ptr
 | .slice _ => some .slice
 | .map _ _ => some .map
 | .func _ _ _ => some .func
 | _ => none
theorem NK.of_fits {d : TypeDesc} {k : NK} (h : NK.of d = some k) : k.fits d = true := by
 unfold NK.of at h; split at h <;> first | (cases h; rfl) | (cases h; done)

def sliceInfo (P : Program) (t : TypeId) : Option (TypeId × TypeInfo × Value) :=
 match P.underlying t with
 | some (.slice e) => match P.info? e with | some i => (match i.zero with | some z => if z.cells.size = i.size ∧ 0 < i.size then some (e, i, z) else none | none => none) | none => none
 | _ => none
theorem sliceInfo_some {P : Program} {t e : TypeId} {i : TypeInfo} {z : Value} (h : sliceInfo P t = some (e, i, z)) : P.underlying t = some (.slice e) ∧ P.info? e = some i ∧ i.zero = some z ∧ z.cells.size = i.size ∧ 0 < i.size := by
 unfold sliceInfo at h
 split at h
 · rename_i e' hu
   split at h
   · rename_i i' hi
     split at h
     · rename_i z' hz
       split at h
       · rename_i hc; cases h; exact ⟨hu, hi, hz, hc.1, hc.2⟩
       · cases h
     · cases h
   · cases h
 · cases h
def aggOf (P : Program) (t : TypeId) : Option (Option Nat × TypeDesc × TypeInfo) :=
 match P.underlying t, P.info? t with
 | some d, some i => some (if aggD d then some i.size else none, d, i)
 | _, _ => none
theorem aggOf_some {P : Program} {t : TypeId} {agg : Option Nat} {d : TypeDesc} {i : TypeInfo} (h : aggOf P t = some (agg, d, i)) : P.underlying t = some d ∧ P.info? t = some i ∧ agg = if aggD d then some i.size else none := by
 unfold aggOf at h
 split at h
 · rename_i d' i' h1 h2; cases h; exact ⟨h1, h2, rfl⟩
 · cases h
def fieldOf (P : Program) (t : TypeId) (n : Nat) : Option Field :=
 match P.underlying t with
 | some (.struct fs) => fs[n]?
 | _ => none
theorem fieldOf_some {P : Program} {t : TypeId} {n : Nat} {f : Field} (h : fieldOf P t n = some f) : ∃ fs, P.underlying t = some (.struct fs) ∧ fs[n]? = some f := by
 unfold fieldOf at h
 split at h
 · rename_i fs hu; exact ⟨fs, hu, h⟩
 · cases h
def zeroOf (P : Program) (t : TypeId) : Option (TypeInfo × Value × AV) :=
 match P.info? t with
 | some i => match i.zero with | some z => (match absConst z with | some a => some (i, z, a) | none => none) | none => none
 | none => none
theorem zeroOf_some {P : Program} {t : TypeId} {i : TypeInfo} {z : Value} {a : AV} (h : zeroOf P t = some (i, z, a)) : P.info? t = some i ∧ i.zero = some z ∧ absConst z = some a := by
 unfold zeroOf at h
 split at h
 · rename_i i' hi
   split at h
   · rename_i z' hz
     split at h
     · rename_i a' ha; cases h; exact ⟨hi, hz, ha⟩
     · cases h
   · cases h
 · cases h
def K1.of : TypeDesc → Option K1
 | .int _ => some .int
 | .string => some .str
 | .bool => some .bool
 | _ => none
def k1s (P : Program) : List Field → Option (List K1)
 | [] => some []
 | f :: l => match P.underlying f.type with | some d => (match K1.of d, k1s P l with | some k, some r => some (k :: r) | _, _ => none) | none => none
def rowKK (P : Program) (t : TypeId) : Option (List K1) :=
 match P.underlying t with
 | some (.struct fs) => match k1s P fs.toList with | some ks => if recFits P t ks = true then some ks else none | none => none
 | some (.array n e) => (match P.underlying e with | some d => (match K1.of d with | some k => if recFits P t (List.replicate n k) = true then some (List.replicate n k) else none | none => none) | none => none)
 | _ => none
theorem rowKK_some {P : Program} {t : TypeId} {ks : List K1} (h : rowKK P t = some ks) : recFits P t ks = true := by
 unfold rowKK at h
 split at h
 · split at h
   · split at h
     · rename_i hr; cases h; exact hr
     · cases h
   · cases h
 · split at h
   · split at h
     · split at h
       · rename_i hr; cases h; exact hr
       · cases h
     · cases h
   · cases h
 · cases h
def kkOf (P : Program) (t : TypeId) : Option KK :=
 match P.underlying t with
 | some d => match KK.of d with | some k => some k | none => (match rowKK P t with | some ks => some (.row ks) | none => none)
 | none => none
theorem kkOf_some {P : Program} {t : TypeId} {k : KK} (h : kkOf P t = some k) : k.suits P t := by
 unfold kkOf at h
 split at h
 · rename_i d hd
   split at h
   · rename_i k' hk; cases h; exact .inl ⟨d, hd, KK.of_fits hk⟩
   · split at h
     · rename_i ks hr; cases h; exact .inr ⟨ks, rfl, rowKK_some hr⟩
     · cases h
 · cases h
def mapInfo (P : Program) (t : TypeId) : Option (TypeId × TypeId × KK) :=
 match P.underlying t with
 | some (.map kt et) => match kkOf P kt with | some k => some (kt, et, k) | none => none
 | _ => none
theorem mapInfo_some {P : Program} {t kt et : TypeId} {k : KK} (h : mapInfo P t = some (kt, et, k)) : P.underlying t = some (.map kt et) ∧ k.suits P kt := by
 unfold mapInfo at h
 split at h
 · rename_i kt' et' hu
   split at h
   · rename_i k' hk; cases h; exact ⟨hu, kkOf_some hk⟩
   · cases h
 · cases h
def places (P : Program) : List Field → Option (List (Nat × Nat))
 | [] => some []
 | f :: r => match P.info? f.type, places P r with | some i, some l => some ((f.offset, i.size) :: l) | _, _ => none
theorem places_some {P : Program} : ∀ {fs : List Field} {l : List (Nat × Nat)}, places P fs = some l → ∀ w : World, (fs.mapM fun f => (Prod.mk f.offset <$> sizeOf f.type : Sem (Nat × Nat))).run P w = .ok l w := by
 intro fs
 induction fs with
 | nil => intro l h w; simp [places] at h; subst h; rfl
 | cons f r ih =>
  intro l h w
  simp only [places] at h
  split at h
  · rename_i i l' hi hl
    cases h
    simp [List.mapM_cons, run_sizeOf' hi, ih hl w]
  · cases h
def absParts (pl : List (Nat × Nat)) : List (Nat × Operand) → Option (List (Nat × Nat × AX))
 | [] => some []
 | (k, o) :: r => match pl[k]?, absX o, absParts pl r with | some p, some x, some l => some ((p.1, p.2, x) :: l) | _, _, _ => none
theorem absParts_some {g : Ghost} {n : Nat} {tm : Nat → AV} {a : Act} (h : RelT g n tm a) {pl : List (Nat × Nat)} : ∀ {parts : List (Nat × Operand)} {l : List (Nat × Nat × AX)}, absParts pl parts = some l →
 parts.length = l.length ∧ ∀ (k : Nat) (q : Nat × Operand) (o : Nat × Nat × AX), parts[k]? = some q → l[k]? = some o → pl[q.1]? = some (o.1, o.2.1) ∧ RelV g (o.2.2.ev tm) (a.eval q.2) := by
 intro parts
 induction parts with
 | nil => intro l hl; simp [absParts] at hl; subst hl; simp
 | cons q r ih =>
  intro l hl
  obtain ⟨k, o⟩ := q
  simp only [absParts] at hl
  split at hl
  · rename_i p x l' h1 h2 h3
    cases hl
    obtain ⟨i1, i2⟩ := ih h3
    refine ⟨by simp [i1], fun j q o' hq ho => ?_⟩
    match j, hq, ho with
    | 0, hq, ho => simp at hq ho; subst hq; subst ho; exact ⟨h1, absX_rel h h2⟩
    | j + 1, hq, ho => exact i2 j q o' (by simpa using hq) (by simpa using ho)
  · cases hl

def absOX : Option Operand → Option (Option AX)
 | none => some none
 | some o => match absX o with | some x => some (some x) | none => none

def ownB (own : List Nat) : Option Nat → Bool
 | some d => own.contains d
 | none => false

def ptrT (P : Program) : TypeDesc → AX → AX → Bool
 | .pointer te, .t _, .t _ => (P.info? te).isSome
 | _, _, _ => false
theorem ptrT_some {P : Program} {d : TypeDesc} {x y : AX} (h : ptrT P d x y = true) : ∃ te j, d = .pointer te ∧ P.info? te = some j := by
 unfold ptrT at h
 split at h
 · rename_i te _ _
   obtain ⟨j, hj⟩ := Option.isSome_iff_exists.1 h
   exact ⟨te, j, rfl, hj⟩
 · cases h
def headIs (P : Program) (t u : TypeId) : Bool := t == u || (match P.underlying t with | some (.struct fs) => fs.size == 1 && (match fs[0]? with | some f => f.type == u | none => false) | _ => false)
def liesTys (P : Program) (u : TypeId) : List (Nat × Nat) := (List.range P.types.size).filterMap fun t => if (headIs P t u && (P.cellsOf t != 0 && liesAt P P.depth t 1 0 u 1)) = true then some (t, P.cellsOf t) else none
theorem liesTys_mem {P : Program} {u : TypeId} {t c : Nat} (h : (t, c) ∈ liesTys P u) : P.cellsOf t = c ∧ c ≠ 0 ∧ liesAt P P.depth t 1 0 u 1 = true := by
 simp only [liesTys, List.mem_filterMap] at h
 obtain ⟨t', _, h2⟩ := h
 split at h2
 · rename_i hc
   simp only [Bool.and_eq_true, bne_iff_ne, ne_eq] at hc
   cases h2
   exact ⟨rfl, hc.2.1, hc.2.2⟩
 · cases h2
def byteSlice (P : Program) (t : TypeId) : Option TypeId :=
 match P.underlying t with
 | some (.slice e) => match P.info? e with | some i => if i.size = 1 ∧ i.bytes = 1 then (match i.zero with | some (.int .u8 z) => if z = 0 then some e else none | _ => none) else none | none => none
 | _ => none
theorem byteSlice_some {P : Program} {t e : TypeId} (h : byteSlice P t = some e) : ∃ i, P.underlying t = some (.slice e) ∧ P.info? e = some i ∧ i.size = 1 ∧ i.bytes = 1 ∧ i.zero = some (.int .u8 0) := by
 unfold byteSlice at h
 split at h
 · rename_i e' hu
   split at h
   · rename_i i hi
     split at h
     · rename_i hs
       split at h
       · rename_i z hz
         split at h
         · rename_i h0; subst h0; cases h; exact ⟨i, hu, hi, hs.1, hs.2, hz⟩
         · cases h
       · cases h
     · cases h
   · cases h
 · cases h
def resolveOp (P : Program) (own : List Nat) (dst : Option Nat) (op : Op) : Option AOp :=
 match op with
 | .move x => match absX x with | some x => some (.move x) | none => none
 | .assign x => match absX x with | some x => some (.move x) | none => none
 | .pick c a b => match absX c, absX a, absX b with | some c, some a, some b => some (.pick c a b) | _, _, _ => none
 | .alloc e => match zeroOf P e with | some (_, _, za) => some (.new e (.c za)) | none => none
 | .box e x => match absX x with | some x => some (.new e x) | none => none
 | .build t parts =>
  match zeroOf P t, P.underlying t with
  | some (_, _, za), some (.struct fs) =>
   match za.cellsOf, places P fs.toList with
   | some zc, some pl => match absParts pl parts.toList with | some l => some (.build zc l) | none => none
   | _, _ => none
  | some (_, _, za), some (.array n e) =>
   (match za.cellsOf, P.info? e with
   | some zc, some ie => (match absParts ((List.range n).map fun k => (k * ie.size, ie.size)) parts.toList with | some l => some (.build zc l) | none => none)
   | _, _ => none)
  | _, _ => none
 | .buildSlice t len parts =>
  match sliceInfo P t with
  | some (e, i, _) =>
   if parts.size = len ∧ len * i.size ≤ 16777216 ∧ len ≤ 16777216 ∧ parts.toList.map (·.1) = List.range len then
    match absXs (parts.toList.map (·.2)) with | some xs => some (.lit (ownB own dst) e i.size xs) | none => none
   else none
  | none => none
 | .load t a => match aggOf P t, absX a with | some (agg, _, _), some a => some (.load agg a) | _, _ => none
 | .store t a x => match P.info? t, absX a, absX x with | some i, some a, some x => some (.store i.size a x) | _, _, _ => none
 | .nilCheck x => match absX x with | some x => some (.nilck x) | none => none
 | .binOp op t x y _ =>
  match P.underlying t, absX x, absX y with
  | some d, some x, some y =>
   match KK.of d with
   | some k => some (.bin k op x y)
   | none =>
    match NK.of d, op with
    | some k, .eql => some (if ptrT P d x y = true then .ptreq false x y else .nileq k false x y)
    | some k, .neq => some (if ptrT P d x y = true then .ptreq true x y else .nileq k true x y)
    | none, .eql => match rowKK P t with | some ks => some (.bin (.row ks) .eql x y) | none => none
    | none, .neq => match rowKK P t with | some ks => some (.bin (.row ks) .neq x y) | none => none
    | _, _ => none
  | _, _, _ => none
 | .unOp op _ x =>
  match op, absX x with
  | .not, some x => some (.not x)
  | .neg, some x => some (.neg x)
  | _, _ => none
 | .convert src dst x =>
  match P.underlying src, P.underlying dst, absX x with
  | some (.int _), some (.int k), some x => some (.conv k x)
  | some .string, some .string, some x => some (.same x)
  | some (.slice e), some .string, some x => match P.underlying e with | some (.int .u8) => some (.bstr x) | _ => none
  | some (.pointer t), some .unsafePointer, some x => match P.info? t with | some j => if j.size ≠ 0 then some (.uptr x) else none | none => none
  | some .unsafePointer, some (.pointer u), some x => match P.info? u, P.underlying u with | some _, some (.struct _) => some (.ufrom (liesTys P u) x) | _, _ => none
  | _, _, _ => none
 | .makeFunc fn first captured => match absXs first.toList, absXs captured.toList with | some a, some b => some (.mkfn fn a b) | _, _ => none
 | .makeMap _ none => some .mkmap
 | .makeSlice t l c =>
  match sliceInfo P t, absX l, absX c with
  | some (e, i, z), some l, some c => match absConst z with | some za => (match za.cellsOf with | some zc => some (.mkslice e i.size i.bytes zc l c) | none => none) | none => none
  | _, _, _ => none
 | .slice t x lo hi none =>
  match absX x, absOX lo, absOX hi with
  | some x, some lo, some hi =>
   match P.underlying t with
   | some .string => some (.cut .str 1 x lo hi)
   | _ => match sliceInfo P t with | some (_, i, _) => some (.cut .slice i.size x lo hi) | none => none
  | _, _, _ => none
 | .fieldAddr t x n =>
  match fieldOf P t n, absX x with
  | some f, some x => match P.info? f.type with | some i => if i.size ≠ 0 then some (.faddr f.offset x) else none | none => none
  | _, _ => none
 | .field t x n =>
  match fieldOf P t n, absX x with
  | some f, some x => match aggOf P f.type with | some (agg, _, _) => some (.field f.offset agg x) | none => none
  | _, _ => none
 | .indexAddr t x ix => match sliceInfo P t, absX x, absX ix with | some (_, i, _), some x, some ix => some (.iaddr i.size x ix) | _, _, _ => none
 | .index t x ix => match P.underlying t, absX x, absX ix with | some .string, some x, some ix => some (.index x ix) | _, _, _ => none
 | .lookup t m k ok =>
  match mapInfo P t, absX m, absX k with
  | some (_, et, kd), some m, some k => match zeroOf P et with | some (_, _, za) => some (.lookup kd za ok m k) | none => none
  | _, _, _ => none
 | .mapUpdate t m k x => match mapInfo P t, absX m, absX k, absX x with | some (_, _, kd), some m, some k, some x => some (.mapset kd m k x) | _, _, _, _ => none
 | .insert t m k x => match mapInfo P t, absX m, absX k, absX x with | some (_, _, kd), some m, some k, some x => some (.mapset kd m k x) | _, _, _, _ => none
 | .extract x i => match absX x with | some x => some (.extract x i) | none => none
 | .call { callee := .builtin .len, args, argTypes } =>
  match args.toList, argTypes.toList with
  | [x], [t] =>
   match absX x, P.underlying t with
   | some x, some .string => some (.len .str x)
   | some x, some (.slice _) => some (.len .slice x)
   | some x, some (.map _ _) => some (.len .map x)
   | _, _ => none
  | _, _ => none
 | .call { callee := .builtin .append, args, argTypes } =>
  match args.toList, argTypes.toList with
  | [s, x], [t, t'] =>
   if t = t' then
    match sliceInfo P t, absX s, absX x with
    | some (e, i, _), some s, some x => some (.append e i.size i.bytes s x)
    | _, _, _ => none
   else
    match byteSlice P t, P.underlying t', absX s, absX x with
    | some e, some .string, some s, some x => some (.appends e s x)
    | _, _, _, _ => none
  | _, _ => none
 | .call { callee := .builtin .unsafeSliceData, args, argTypes } =>
  match args.toList, argTypes.toList with
  | [x], [t] => match sliceInfo P t, absX x with | some (_, i, _), some x => some (.sdata i.size x) | _, _ => none
  | _, _ => none
 | .call { callee := .builtin .unsafeString, args, argTypes } =>
  match args.toList, argTypes.toList with
  | [p, n], [pt, it] =>
   match P.underlying pt, absX p, absX n with
   | some (.pointer e), some p, some n => if P.cellsOf e = 1 then some (.ustr e p n) else none
   | _, _, _ => none
  | _, _ => none
 | .call { callee := .builtin .min, args, argTypes } =>
  match args.toList with
  | [x, y] => match absX x, absX y with | some x, some y => some (.min2 x y) | _, _ => none
  | _ => none
 | .call { callee := .builtin .max, args, argTypes } =>
  match args.toList with
  | [x, y] => match absX x, absX y with | some x, some y => some (.max2 x y) | _, _ => none
  | _ => none
 | .call { callee := .builtin .delete, args, argTypes } =>
  match args.toList, argTypes.toList with
  | [m, k], [t, t'] => match mapInfo P t, absX m, absX k with | some (_, _, kd), some m, some k => some (.mapdel kd m k) | _, _, _ => none
  | _, _ => none
 | .call { callee := .value (.func f), args, argTypes } => match absXs args.toList with | some xs => some (.call f xs) | none => none
 | .call { callee := .value f, args, argTypes } => match absX f, absXs args.toList with | some f, some xs => some (.callv f xs) | _, _ => none
 | _ => none
end Go.AL
set_option linter.unusedVariables false
set_option linter.unusedSimpArgs false
namespace Go.AL
open Go.RowKit

section
variable {P : Program} {B : Nat} {w0 : World} {σ : Store} {g : Ghost} {w : World}

theorem OpOK.pure {r : AV} {v : Value} (h : SR B w0 σ g w) (hr : RelV g r v) : OpOK P B w0 g w (Pure.pure (.value v)) r σ :=
 ⟨.value v, w, g, rfl, .refl g, h, .inl ⟨v, rfl, hr⟩⟩

theorem SR.ver {σ : Store} {g : Ghost} {w : World} (h : SR B w0 σ g w) {id ver ty sz : Nat} {es : List (List AV)} (ho : σ.get id = some (.cells ty ver sz es)) : ∀ p, g.pl id = some p → p.ver = ver := by
 intro p hp
 obtain ⟨q, hq, h1, -⟩ := h.objs id _ ho
 rw [hp] at hq
 cases hq
 exact h1

theorem bound_some {n : Nat} {tm : Nat → AV} {a : Act} (hT : RelT g n tm a) {o : Option Operand} {x : Option AX} (hx : absOX o = some x) {d l : Int} (hb : bound d (x.map (·.ev tm)) = some l) :
 (o.map a.eval = none ∧ l = d) ∨ ∃ k, o.map a.eval = some (.int k l) := by
 cases o with
 | none => simp [absOX] at hx; subst hx; simp [bound] at hb; exact .inl ⟨rfl, hb.symm⟩
 | some o =>
  simp only [absOX] at hx
  split at hx
  · rename_i y hy
    cases hx
    have hr := absX_rel hT hy
    simp only [Option.map_some] at hb ⊢
    generalize a.eval o = v at hr
    cases hv : y.ev tm <;> rw [hv] at hb hr <;> simp [bound] at hb
    subst hb
    cases hr
    exact .inr ⟨_, rfl⟩
  · cases hx

theorem litEs_some {sz : Nat} : ∀ {avs : List AV} {es : List (List AV)}, litEs sz avs = some es → avs.length = es.length ∧ ∀ (j : Nat) (v : AV) (e : List AV), avs[j]? = some v → es[j]? = some e → v.cellsOf = some e ∧ e.length = sz := by
 intro avs
 induction avs with
 | nil => intro es h; simp [litEs] at h; subst h; simp
 | cons v r ih =>
  intro es h
  simp only [litEs] at h
  split at h
  · rename_i cs hcs
    split at h
    · rename_i hl
      split at h
      · rename_i es' hes
        cases h
        obtain ⟨i1, i2⟩ := ih hes
        refine ⟨by simp [i1], fun j u e hu he => ?_⟩
        match j, hu, he with
        | 0, hu, he => simp at hu he; subst hu; subst he; exact ⟨hcs, hl⟩
        | j + 1, hu, he => exact i2 j u e (by simpa using hu) (by simpa using he)
      · cases h
    · cases h
  · cases h

theorem sound_lit (h : SR B w0 σ g w) {n : Nat} {tm : Nat → AV} {a : Act} (hT : RelT g n tm a) {t e : TypeId} {i : TypeInfo} {z : Value} (hs : sliceInfo P t = some (e, i, z)) {parts : Array (Nat × Operand)} {xs : List AX}
 (hc : parts.size * i.size ≤ 16777216) (hc2 : parts.size ≤ 16777216) (hidx : parts.toList.map (·.1) = List.range parts.size) (hxs : absXs (parts.toList.map (·.2)) = some xs) {es : List (List AV)} (hes : litEs i.size (xs.map (·.ev tm)) = some es) :
 OpOK P B w0 g w (do Pure.pure (.value (← Instr.buildSlice t parts.size (parts.map fun (i, x) => (i, a.eval x))))) (.list es) σ ∧
 OpOK P B w0 g w (do Pure.pure (.value (← Instr.buildSlice t parts.size (parts.map fun (i, x) => (i, a.eval x))))) (.own σ.next 0 i.size 0 es.length) (σ.push (.cells e 0 i.size es)) := by
 obtain ⟨hu, hi, hz, hzs, hsz⟩ := sliceInfo_some hs
 obtain ⟨l1, l2⟩ := absXs_rel hT hxs
 obtain ⟨m1, m2⟩ := litEs_some hes
 have hlen : es.length = parts.size := by rw [← m1]; simp [← l1]
 have hp : ∀ (j : Nat) (q : Nat × Value) (x : List AV), (parts.map fun (i, x) => (i, a.eval x))[j]? = some q → es[j]? = some x → q.1 = j ∧ CellsRel g x q.2.cells.toList ∧ x.length = i.size := by
  intro j q x hq hx
  have hj : j < es.length := by
   rcases Nat.lt_or_ge j es.length with h' | h'
   · exact h'
   · simp [List.getElem?_eq_none h'] at hx
  have hjp : j < parts.size := by omega
  have hjx : j < xs.length := by rw [← l1]; simpa using hjp
  have hpj : parts[j]? = some parts[j] := Array.getElem?_eq_getElem hjp
  rw [Array.getElem?_map, hpj] at hq
  simp only [Option.map_some, Option.some.injEq] at hq
  subst hq
  have hjj : parts[j].1 = j := by
   have := congrArg (·[j]?) hidx
   simp [hjp] at this
   exact this
  have hxj : xs[j]? = some xs[j] := List.getElem?_eq_getElem hjx
  have hrel := l2 j xs[j] hxj
  have hget : ((parts.toList.map (·.2)).map a.eval).getD j undef = a.eval parts[j].2 := by
   simp [List.getD_eq_getElem?_getD, hjp]
  rw [hget] at hrel
  obtain ⟨q1, q2⟩ := m2 j (xs[j].ev tm) x (by simp [hxj]) hx
  exact ⟨hjj, hrel.cellsRel q1, q2⟩
 have hsz' : (parts.map fun (i, x) => (i, a.eval x)).size = es.length := by simp [hlen]
 have e1 := op_lit_frozen (P := P) h hu hi hz hp hsz' (by rw [hlen]; exact hc) (by omega)
 have e2 := op_lit_own (P := P) h hu hi hz hp hsz' (by rw [hlen]; exact hc) (by omega)
 rw [hlen] at e1 e2
 rw [hlen]
 exact ⟨e1, e2⟩

theorem sound_append (h : SR B w0 σ g w) {t ty e : TypeId} {i : TypeInfo} {z : Value} (hs : sliceInfo P t = some (e, i, z)) {s x : AX} {tm : Nat → AV} {vs vx : Value} (hvs : RelV g (s.ev tm) vs) (hvx : RelV g (x.ev tm) vx) {r : AV} {σ' : Store}
 (he : (AOp.append e i.size i.bytes s x).eff tm σ = some (r, σ')) : OpOK P B w0 g w (do Pure.pure (.value (← Builtin.append_ #[t, t] ty #[vs, vx]))) r σ' := by
 obtain ⟨hu, hi, hz, hzs, hsz⟩ := sliceInfo_some hs
 simp only [AOp.eff] at he
 split at he
 · rename_i es hes
   split at he
   · rename_i hsn
     rw [hsn] at hvs
     split at he
     · rename_i hc
       cases he
       cases hvs
       exact op_append_nil h hu hi hz hzs hsz hvx hes hc.1 hc.2
     · cases he
   · rename_i id ver sz off ln hso
     rw [hso] at hvs
     split at he
     · rename_i t' v z' es0 ho
       split at he
       · rename_i hc
         obtain ⟨⟨rfl, rfl, rfl, rfl, rfl, hle⟩, h2, h3, h4⟩ := hc
         cases he
         exact op_append_own h hu hi hz hzs hsz hvs ho hle hvx hes h2 h3 h4
       · cases he
     · cases he
   · cases he
 · cases he

theorem sound_cut (h : SR B w0 σ g w) {n : Nat} {tm : Nat → AV} {a : Act} (hT : RelT g n tm a) {t : TypeId} {ox : Operand} {lo hi : Option Operand} {x : AX} {lo' hi' : Option AX} (hx : absX ox = some x) (hlo : absOX lo = some lo') (hhi : absOX hi = some hi')
 {k : LK} {sz : Nat} (hk : (k = .str ∧ P.underlying t = some .string) ∨ (k = .slice ∧ ∃ e i z, sliceInfo P t = some (e, i, z) ∧ sz = i.size)) {r : AV} {σ' : Store} (he : (AOp.cut k sz x lo' hi').eff tm σ = some (r, σ')) :
 OpOK P B w0 g w (do Pure.pure (.value (← Instr.sliceAt t (a.eval ox) (lo.map a.eval) (hi.map a.eval) none))) r σ' := by
 have hrx := absX_rel hT hx
 simp only [AOp.eff] at he
 split at he
 · rename_i s hs
   rw [hs] at hrx
   have hu : P.underlying t = some .string := by
    rcases hk with ⟨_, hu⟩ | ⟨hk, _⟩
    · exact hu
    · cases hk
   split at he
   · rename_i l hh hl hhh
     split at he
     · rename_i hc
       cases he
       obtain ⟨c1, c2, c3⟩ := hc
       obtain ⟨l, rfl⟩ := Int.eq_ofNat_of_zero_le c1
       obtain ⟨hh, rfl⟩ := Int.eq_ofNat_of_zero_le (Int.le_trans c1 c2)
       refine op_cut_str h hu hrx ?_ ?_ (by omega) (by omega)
       · rcases bound_some hT hlo hl with ⟨a1, a2⟩ | ⟨k, a1⟩
         · exact .inl ⟨a1, by omega⟩
         · exact .inr ⟨k, by simpa using a1⟩
       · rcases bound_some hT hhi hhh with ⟨a1, a2⟩ | ⟨k, a1⟩
         · exact .inl ⟨a1, by omega⟩
         · exact .inr ⟨k, by simpa using a1⟩
     · cases he
   · cases he
 all_goals (first | (cases he; done) | skip)
 all_goals
  rename_i hs
  obtain ⟨e, i, z, hsi, rfl⟩ : ∃ e i z, sliceInfo P t = some (e, i, z) ∧ sz = i.size := by
   rcases hk with ⟨hk, _⟩ | ⟨_, hk⟩
   · cases hk
   · exact hk
  obtain ⟨hu, hi2, hz, hzs, hsz⟩ := sliceInfo_some hsi
  rw [hs] at hrx
  split at he
  rotate_left
  · cases he
 · rename_i l hh hl hhh
   split at he
   · rename_i hc
     cases he
     obtain ⟨c1, c2, c3, c4⟩ := hc
     obtain ⟨l, rfl⟩ := Int.eq_ofNat_of_zero_le c1
     obtain ⟨hh, rfl⟩ := Int.eq_ofNat_of_zero_le (Int.le_trans c1 c2)
     refine op_cut_list h hu hi2 hrx c4 ?_ ?_ (by omega) (by omega)
     · rcases bound_some hT hlo hl with ⟨a1, a2⟩ | ⟨k, a1⟩
       · exact .inl ⟨a1, by omega⟩
       · exact .inr ⟨k, by simpa using a1⟩
     · rcases bound_some hT hhi hhh with ⟨a1, a2⟩ | ⟨k, a1⟩
       · exact .inl ⟨a1, by omega⟩
       · exact .inr ⟨k, by simpa using a1⟩
   · cases he
 · rename_i l hh hl hhh
   split at he
   · rename_i hc
     cases he
     obtain ⟨rfl, rfl⟩ := hc
     refine op_cut_nils h hu hi2 hrx ?_ ?_
     · rcases bound_some hT hlo hl with ⟨a1, a2⟩ | ⟨k, a1⟩
       · exact .inl a1
       · exact .inr ⟨k, a1⟩
     · rcases bound_some hT hhi hhh with ⟨a1, a2⟩ | ⟨k, a1⟩
       · exact .inl a1
       · exact .inr ⟨k, a1⟩
   · cases he
 · rename_i l hh hl hhh
   split at he
   · rename_i ty v z' es0 ho
     split at he
     · rename_i hc
       obtain ⟨rfl, rfl, c1, c2, c3⟩ := hc
       cases he
       obtain ⟨l, rfl⟩ := Int.eq_ofNat_of_zero_le c1
       obtain ⟨hh, rfl⟩ := Int.eq_ofNat_of_zero_le (Int.le_trans c1 c2)
       refine op_cut_own h hu hi2 hrx ho (h.ver ho) ?_ ?_ (by omega) (by omega)
       · rcases bound_some hT hlo hl with ⟨a1, a2⟩ | ⟨k, a1⟩
         · exact .inl ⟨a1, by omega⟩
         · exact .inr ⟨k, by simpa using a1⟩
       · rcases bound_some hT hhi hhh with ⟨a1, a2⟩ | ⟨k, a1⟩
         · exact .inl ⟨a1, by omega⟩
         · exact .inr ⟨k, by simpa using a1⟩
     · cases he
   · cases he
end
end Go.AL
