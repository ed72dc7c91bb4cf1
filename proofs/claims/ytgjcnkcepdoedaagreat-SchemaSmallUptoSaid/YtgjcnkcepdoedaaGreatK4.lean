/- A part of the proof of the claim (no condition of its own). -/
import Derived.Test.YtgjcnkcepdoedaaGreatK3
open Nat renaming reduceEqDiff → Za, reduceAdd → Zb, reduceLeDiff → Zc
open Int renaming reduceEq → Zd, reduceLT → Ze, reduceLE → Zf, reduceNeg → Zg, reduceAdd → Zh, reduceSub → Zi, reduceToNat → Zj
set_option linter.unusedVariables false
set_option linter.unusedSimpArgs false
namespace Go.AL
open Go.RowKit

theorem FrzL.get {σ : Store} {fl : Nat} : ∀ {l m : List AV}, FrzL σ fl l m → m.length = l.length ∧ ∀ (j : Nat) (c : AV), m[j]? = some c → ∃ a, l[j]? = some a
 | _, _, .nil _ => ⟨rfl, fun j c h => by simp at h⟩
 | _, _, .cons h t => by
  obtain ⟨h1, h2⟩ := t.get
  refine ⟨by simp [h1], fun j c hj => ?_⟩
  match j, hj with
  | 0, _ => exact ⟨_, rfl⟩
  | j + 1, hj => simpa using h2 j c (by simpa using hj)
theorem FrzLL.len {σ : Store} {fl : Nat} : ∀ {l m : List (List AV)}, FrzLL σ fl l m → m.length = l.length ∧ ∀ (i : Nat) (e' : List AV), m[i]? = some e' → ∃ e, l[i]? = some e ∧ e'.length = e.length
 | _, _, .nil _ => ⟨rfl, fun j c h => by simp at h⟩
 | _, _, .cons h t => by
  obtain ⟨h1, h2⟩ := t.len
  refine ⟨by simp [h1], fun j c hj => ?_⟩
  match j, hj with
  | 0, hj => simp at hj; subst hj; exact ⟨_, rfl, h.get.1⟩
  | j + 1, hj => simpa using h2 j c (by simpa using hj)
theorem flat1_two {fl : Nat} (hn : fl ≠ 1) {p : Prop} (H1 : 2 ≤ fl → p) : flat1 fl ≠ 1 ∧ (2 ≤ flat1 fl → p) := by
 match fl, hn, H1 with
 | 0, _, _ => exact ⟨Nat.zero_ne_one, fun h => absurd h (by decide)⟩
 | 1, hn, _ => exact absurd rfl hn
 | k + 2, _, H1 => exact ⟨(by decide : (2 : Nat) ≠ 1), fun _ => H1 (by omega)⟩
section
variable {B : Nat} {w0 : World} {σ : Store} {g gt : Ghost} {w : World}
mutual
theorem Frz.rel (hS : SR B w0 σ g w) (H2 : ∀ id ty ver sz es p, σ.get id = some (.cells ty ver sz es) → g.pl id = some p → ∃ cells fr, w.heap[p.blk]? = some (.cells cells ty fr) ∧ gt.Φ p.blk = some cells ∧ gt.vis p.blk = none) :
 ∀ {fl : Nat} {a b : AV}, Frz σ fl a b → fl ≠ 1 → (2 ≤ fl → ∀ b c, g.Φ b = some c ∧ g.vis b = none → gt.Φ b = some c ∧ gt.vis b = none) → ∀ {x : Value}, RelV g a x → RelV gt b x
 | _, _, _, .junk fl, _, _, x, h => .junk x
 | _, _, _, .bool fl b, _, _, x, h => by cases h; exact .bool b
 | _, _, _, .int fl k n, _, _, x, h => by cases h; exact .int k n
 | _, _, _, .str fl s, _, _, x, h => by cases h with | str s hs => exact .str s hs
 | _, _, _, .nilp fl, _, _, x, h => by cases h; exact .nilp
 | _, _, _, .nils fl, _, _, x, h => by cases h; exact .nils
 | _, _, _, .nilm fl, _, _, x, h => by cases h; exact .nilm
 | _, _, _, .nilf fl, _, _, x, h => by cases h; exact .nilf
 | _, _, _, .rptr off hf, hn, H1, x, h => by
  cases h with
  | rptr hΦ hb hc h1 =>
   obtain ⟨k1, k2⟩ := hf.get
   refine .rptr (H1 (Nat.le_refl _) _ _ hΦ) (by omega) (fun j c hj => ?_) (fun j c hj => ?_)
   · exact FrzL.rel hS H2 hf (by omega) (fun _ => H1 (Nat.le_refl _)) (fun j c hj => hc j c hj) j c hj
   · obtain ⟨a, ha⟩ := k2 j c hj
     exact h1 j a ha
 | _, _, _, .listNil fl, _, _, x, h => by
  cases h with
  | listNil a c => exact .listNil a c
  | list _ _ _ _ _ _ _ => exact .listNil _ _
 | _, _, _, .list1 hf, hn, _, x, h => absurd rfl hn
 | _, _, _, .list2 hf, hn, H1, x, h => by
  cases h with
  | listNil a c =>
   have := hf.len.1
   have : _ = [] := List.eq_nil_of_length_eq_zero this
   subst this
   exact .listNil a c
  | list hΦ hs hb hc h1 hn' hcap =>
   obtain ⟨k1, k2⟩ := hf.len
   rw [← k1]
   refine .list (H1 (Nat.le_refl _) _ _ hΦ) (fun e he => ?_) (by rw [k1]; exact hb) (fun i j e c hi hj => ?_) (fun i j e c hi hj => ?_) (by rw [k1]; exact hn') hcap
   · obtain ⟨i, hi⟩ := List.getElem?_of_mem he
     obtain ⟨e0, h3, h4⟩ := k2 i e hi
     rw [h4]; exact hs e0 (List.mem_of_getElem? h3)
   · exact FrzLL.rel hS H2 hf (by omega) (fun _ => H1 (Nat.le_refl _)) (fun i j e c hi hj => hc i j e c hi hj) i j e c hi hj
   · obtain ⟨e0, h3, h4⟩ := k2 i e hi
     have hj2 : j < e0.length := by rw [← h4]; exact (List.getElem?_eq_some_iff.1 hj).1
     exact h1 i j e0 _ h3 (List.getElem?_eq_getElem hj2)
 | fl, _, _, .own (id := id) (ver := ver) (sz := sz) (off := off) (len := len) (ty := ty) (es := es) (es' := es') hg hl hf, hn, H1, x, h => by
  obtain ⟨p, hp, h1, h2, h3, h4, cells, h5, h6, h7, h8⟩ := hS.objs id _ hg
  obtain ⟨cells', fr, h9, h10⟩ := H2 id ty ver sz es p hg hp
  rw [h5] at h9
  cases h9
  cases h with
  | own hid' hlen hv hr =>
   obtain ⟨-, hr⟩ := hr p hp
   obtain ⟨hsz, hcap, a, rfl, ha⟩ := hr h1
   obtain ⟨k1, k2⟩ := hf.len
   have hle : ((es.drop off).take len).length = len := by simp; omega
   rw [hle] at k1
   by_cases hl0 : len = 0
   · subst hl0
     have : es' = [] := List.eq_nil_of_length_eq_zero k1
     subst this
     exact .listNil _ _
   · have ha' := ha (by right; omega)
     subst ha'
     have hge : ∀ i e, ((es.drop off).take len)[i]? = some e → es[off + i]? = some e := by
      intro i e hi
      rw [List.getElem?_take] at hi
      split at hi
      · rw [List.getElem?_drop] at hi; exact hi
      · cases hi
     obtain ⟨hfl, hfl2⟩ := flat1_two hn H1
     rw [show (len : Nat) = es'.length from k1.symm]
     refine .list (s := sz) (cells := cells) h10 (fun e he => ?_) ?_ (fun i j e c hi hj => ?_) (fun i j e c hi hj => ?_) (by rw [k1]; omega) (by omega)
     · obtain ⟨i, hi⟩ := List.getElem?_of_mem he
       obtain ⟨e0, q1, q2⟩ := k2 i e hi
       rw [q2]
       exact h7 e0 (List.mem_of_mem_drop (List.mem_of_mem_take (List.mem_of_getElem? q1)))
     · rw [k1, h6, ← Nat.add_mul]; exact Nat.mul_le_mul_right _ hcap
     · refine FrzLL.rel (off := off * sz) (s := sz) (cells := cells) hS H2 hf hfl hfl2 (fun i j e c hi hj => ?_) i j e c hi hj
       have := (h8 (off + i) j e c (hge i e hi) hj).1
       rw [Nat.add_mul] at this
       exact this
     · obtain ⟨e0, q1, q2⟩ := k2 i e hi
       have hj2 : j < e0.length := by rw [← q2]; exact (List.getElem?_eq_some_iff.1 hj).1
       have := (h8 (off + i) j e0 _ (hge i e0 q1) (List.getElem?_eq_getElem hj2)).2
       rw [Nat.add_mul] at this
       exact this
 | fl, _, _, .agg hf, hn, H1, x, h => by
  cases h with
  | agg hsz hc h1 =>
   obtain ⟨k1, k2⟩ := hf.get
   obtain ⟨hfl, hfl2⟩ := flat1_two hn H1
   refine .agg (by omega) (fun j c hj => ?_) (fun j c hj => ?_)
   · have := FrzL.rel (o := 0) hS H2 hf hfl hfl2 (fun j c hj => by have := hc j c hj; rwa [Nat.zero_add]) j c hj
     rwa [Nat.zero_add] at this
   · obtain ⟨a, ha⟩ := k2 j c hj
     exact h1 j a ha
 | fl, _, _, .tuple hf, hn, H1, x, h => by
  cases h with
  | tuple hsz hc =>
   obtain ⟨k1, k2⟩ := hf.get
   obtain ⟨hfl, hfl2⟩ := flat1_two hn H1
   refine .tuple (by omega) (fun j c hj => ?_)
   have := FrzL.rel (o := 0) hS H2 hf hfl hfl2 (fun j c hj => by have := hc j c hj; rwa [Nat.zero_add]) j c hj
   rwa [Nat.zero_add] at this
theorem FrzL.rel (hS : SR B w0 σ g w) (H2 : ∀ id ty ver sz es p, σ.get id = some (.cells ty ver sz es) → g.pl id = some p → ∃ cells fr, w.heap[p.blk]? = some (.cells cells ty fr) ∧ gt.Φ p.blk = some cells ∧ gt.vis p.blk = none) :
 ∀ {fl : Nat} {l m : List AV}, FrzL σ fl l m → fl ≠ 1 → (2 ≤ fl → ∀ b c, g.Φ b = some c ∧ g.vis b = none → gt.Φ b = some c ∧ gt.vis b = none) → ∀ {o : Nat} {cells : Array Value}, (∀ (j : Nat) (c : AV), l[j]? = some c → RelV g c (cells.getD (o + j) undef)) →
  ∀ (j : Nat) (c : AV), m[j]? = some c → RelV gt c (cells.getD (o + j) undef)
 | _, _, _, .nil _, _, _, o, cells, _, j, c, hj => by simp at hj
 | _, _, _, .cons ha t, hn, H1, o, cells, hc, j, c, hj => by
  match j, hj with
  | 0, hj =>
   simp at hj; subst hj
   exact Frz.rel hS H2 ha hn H1 (hc 0 _ rfl)
  | j + 1, hj =>
   have := FrzL.rel (o := o + 1) (cells := cells) hS H2 t hn H1 (fun j c hj => by have := hc (j + 1) c (by simpa using hj); rwa [show o + 1 + j = o + (j + 1) by omega]) j c (by simpa using hj)
   rwa [show o + 1 + j = o + (j + 1) by omega] at this
theorem FrzLL.rel (hS : SR B w0 σ g w) (H2 : ∀ id ty ver sz es p, σ.get id = some (.cells ty ver sz es) → g.pl id = some p → ∃ cells fr, w.heap[p.blk]? = some (.cells cells ty fr) ∧ gt.Φ p.blk = some cells ∧ gt.vis p.blk = none) :
 ∀ {fl : Nat} {l m : List (List AV)}, FrzLL σ fl l m → fl ≠ 1 → (2 ≤ fl → ∀ b c, g.Φ b = some c ∧ g.vis b = none → gt.Φ b = some c ∧ gt.vis b = none) → ∀ {off s : Nat} {cells : Array Value}, (∀ (i j : Nat) (e : List AV) (c : AV), l[i]? = some e → e[j]? = some c → RelV g c (cells.getD (off + i * s + j) undef)) →
  ∀ (i j : Nat) (e : List AV) (c : AV), m[i]? = some e → e[j]? = some c → RelV gt c (cells.getD (off + i * s + j) undef)
 | _, _, _, .nil _, _, _, off, s, cells, _, i, j, e, c, hi, hj => by simp at hi
 | _, _, _, .cons ha t, hn, H1, off, s, cells, hc, i, j, e, c, hi, hj => by
  match i, hi with
  | 0, hi =>
   simp at hi; subst hi
   have := FrzL.rel (o := off) (cells := cells) hS H2 ha hn H1 (fun j c hj => by have := hc 0 j _ c rfl hj; simpa using this) j c hj
   simpa using this
  | i + 1, hi =>
   have := FrzLL.rel (off := off + s) (s := s) (cells := cells) hS H2 t hn H1 (fun i j e c hi hj => by have := hc (i + 1) j e c (by simpa using hi) hj; rwa [show off + s + i * s + j = off + (i + 1) * s + j by rw [Nat.add_mul]; omega]) i j e c (by simpa using hi) hj
   rwa [show off + s + i * s + j = off + (i + 1) * s + j by rw [Nat.add_mul]; omega] at this
end
end
mutual
theorem NoId.rel {g gt : Ghost} (H1 : ∀ b c, g.Φ b = some c ∧ g.vis b = none → gt.Φ b = some c ∧ gt.vis b = none) : ∀ {a : AV}, NoId a → ∀ {x : Value}, RelV g a x → RelV gt a x
 | _, .junk, x, h => .junk x
 | _, .bool b, x, h => by cases h; exact .bool b
 | _, .int k n, x, h => by cases h; exact .int k n
 | _, .str s, x, h => by cases h with | str s hs => exact .str s hs
 | _, .nilp, x, h => by cases h; exact .nilp
 | _, .nils, x, h => by cases h; exact .nils
 | _, .nilm, x, h => by cases h; exact .nilm
 | _, .nilf, x, h => by cases h; exact .nilf
 | _, .rptr off hf, x, h => by
  cases h with
  | rptr hΦ hb hc h1 => exact .rptr (H1 _ _ hΦ) hb (fun j c hj => NoIdL.rel H1 hf (fun j c hj => hc j c hj) j c hj) h1
 | _, .list hf, x, h => by
  cases h with
  | listNil a c => exact .listNil a c
  | list hΦ hs hb hc h1 hn' hcap => exact .list (H1 _ _ hΦ) hs hb (fun i j e c hi hj => NoIdLL.rel H1 hf (fun i j e c hi hj => hc i j e c hi hj) i j e c hi hj) h1 hn' hcap
 | _, .fn i ha hc, x, h => by
  cases h with
  | fn hf hc1 h1 h2 =>
   refine .fn hf hc1 (fun j c hj => ?_) (fun j c hj => ?_)
   · have := NoIdL.rel (o := 0) H1 ha (fun j c hj => by have := h1 j c hj; rwa [Nat.zero_add]) j c hj
     rwa [Nat.zero_add] at this
   · have := NoIdL.rel (o := 0) H1 hc (fun j c hj => by have := h2 j c hj; rwa [Nat.zero_add]) j c hj
     rwa [Nat.zero_add] at this
 | _, .agg hf, x, h => by
  cases h with
  | agg hsz hc h1 =>
   refine .agg hsz (fun j c hj => ?_) h1
   have := NoIdL.rel (o := 0) H1 hf (fun j c hj => by have := hc j c hj; rwa [Nat.zero_add]) j c hj
   rwa [Nat.zero_add] at this
 | _, .tuple hf, x, h => by
  cases h with
  | tuple hsz hc =>
   refine .tuple hsz (fun j c hj => ?_)
   have := NoIdL.rel (o := 0) H1 hf (fun j c hj => by have := hc j c hj; rwa [Nat.zero_add]) j c hj
   rwa [Nat.zero_add] at this
theorem NoIdL.rel {g gt : Ghost} (H1 : ∀ b c, g.Φ b = some c ∧ g.vis b = none → gt.Φ b = some c ∧ gt.vis b = none) : ∀ {l : List AV}, NoIdL l → ∀ {o : Nat} {cells : Array Value}, (∀ (j : Nat) (c : AV), l[j]? = some c → RelV g c (cells.getD (o + j) undef)) →
 ∀ (j : Nat) (c : AV), l[j]? = some c → RelV gt c (cells.getD (o + j) undef)
 | _, .nil, o, cells, _, j, c, hj => by simp at hj
 | _, .cons ha t, o, cells, hc, j, c, hj => by
  match j, hj with
  | 0, hj =>
   simp at hj; subst hj
   exact NoId.rel H1 ha (hc 0 _ rfl)
  | j + 1, hj =>
   have := NoIdL.rel (o := o + 1) (cells := cells) H1 t (fun j c hj => by have := hc (j + 1) c (by simpa using hj); rwa [show o + 1 + j = o + (j + 1) by omega]) j c (by simpa using hj)
   rwa [show o + 1 + j = o + (j + 1) by omega] at this
theorem NoIdLL.rel {g gt : Ghost} (H1 : ∀ b c, g.Φ b = some c ∧ g.vis b = none → gt.Φ b = some c ∧ gt.vis b = none) : ∀ {l : List (List AV)}, NoIdLL l → ∀ {off s : Nat} {cells : Array Value}, (∀ (i j : Nat) (e : List AV) (c : AV), l[i]? = some e → e[j]? = some c → RelV g c (cells.getD (off + i * s + j) undef)) →
 ∀ (i j : Nat) (e : List AV) (c : AV), l[i]? = some e → e[j]? = some c → RelV gt c (cells.getD (off + i * s + j) undef)
 | _, .nil, off, s, cells, _, i, j, e, c, hi, hj => by simp at hi
 | _, .cons ha t, off, s, cells, hc, i, j, e, c, hi, hj => by
  match i, hi with
  | 0, hi =>
   simp at hi; subst hi
   have := NoIdL.rel (o := off) (cells := cells) H1 ha (fun j c hj => by have := hc 0 j _ c rfl hj; simpa using this) j c hj
   simpa using this
  | i + 1, hi =>
   have := NoIdLL.rel (off := off + s) (s := s) (cells := cells) H1 t (fun i j e c hi hj => by have := hc (i + 1) j e c (by simpa using hi) hj; rwa [show off + s + i * s + j = off + (i + 1) * s + j by rw [Nat.add_mul]; omega]) i j e c (by simpa using hi) hj
   rwa [show off + s + i * s + j = off + (i + 1) * s + j by rw [Nat.add_mul]; omega] at this
end

/-! ### A call of its own, at any store -/
open Classical in
def Live (σ : Store) (g : Ghost) (b : Nat) : Prop := ∃ id o p, σ.get id = some o ∧ g.pl id = some p ∧ p.blk = b
theorem live_lt {B : Nat} {w0 : World} {σ : Store} {g : Ghost} {w : World} (h : SR B w0 σ g w) {b : Nat} (hb : Live σ g b) : B ≤ b ∧ b < w.heap.size := by
 obtain ⟨id, o, p, h1, h2, rfl⟩ := hb
 exact ⟨(h.fresh id p h2).1, (h.fresh id p h2).2.1⟩
theorem live_phi {B : Nat} {w0 : World} {σ : Store} {g : Ghost} {w : World} (h : SR B w0 σ g w) {b : Nat} (hb : Live σ g b) : g.Φ b = none := by
 obtain ⟨id, o, p, h1, h2, rfl⟩ := hb
 exact h.apart id p h2
def cellsAt (w : World) (b : Nat) : Option (Array Value × TypeId) := match w.heap[b]? with | some (.cells c t _) => some (c, t) | _ => none
theorem cellsAt_of {w : World} {b : Nat} {c : Array Value} {t : TypeId} {fr : Nat × Nat} (h : w.heap[b]? = some (.cells c t fr)) : cellsAt w b = some (c, t) := by rw [cellsAt, h]
theorem live_cells {B : Nat} {w0 : World} {σ : Store} {g : Ghost} {w : World} (h : SR B w0 σ g w) {b : Nat} (hb : Live σ g b) {c : Array Value} {t : TypeId} (hc : cellsAt w b = some (c, t)) : w.heap[b]? = some (.cells c t (0, 0)) := by
 obtain ⟨id, o, p, h1, h2, rfl⟩ := hb
 obtain ⟨p', hp', ho⟩ := h.objs id o h1
 rw [h2] at hp'
 cases hp'
 cases o with
 | cells ty ver sz es =>
  obtain ⟨_, _, _, _, cells, h5, _⟩ := ho
  rw [cellsAt_of h5] at hc
  cases hc
  exact h5
 | map es =>
  obtain ⟨_, entries, clock, h5, _⟩ := ho
  rw [cellsAt, h5] at hc
  cases hc
open Classical in
noncomputable def backG (σ σ' : Store) (g g' : Ghost) (w' : World) (old : Nat → Prop) (gΦ : Nat → Option (Array Value)) (gv : Nat → Option TypeId) : Ghost where
 Φ := fun b => if old b then gΦ b else if Live σ' g' b then (cellsAt w' b).map (·.1) else g'.Φ b
 vis := fun b => if old b then gv b else if Live σ' g' b then none else g'.vis b
 pl := fun id => if (σ.get id).isSome = true then g.pl id else none
 next := g.next
section
variable {B : Nat} {w0 : World} {σ σ' : Store} {g g' : Ghost} {w w' : World} {old : Nat → Prop} {gΦ : Nat → Option (Array Value)} {gv : Nat → Option TypeId}
theorem backG_new (hS' : SR w.heap.size w σ' g' w') (hold : ∀ b, old b → b < w.heap.size) : ∀ id ty ver sz es p, σ'.get id = some (.cells ty ver sz es) → g'.pl id = some p →
 ∃ cells fr, w'.heap[p.blk]? = some (.cells cells ty fr) ∧ (backG σ σ' g g' w' old gΦ gv).Φ p.blk = some cells ∧ (backG σ σ' g g' w' old gΦ gv).vis p.blk = none := by
 intro id ty ver sz es p h1 h2
 obtain ⟨p', hp', _, _, _, _, cells, h5, _⟩ := hS'.objs id _ h1
 rw [h2] at hp'
 cases hp'
 have hl : Live σ' g' p.blk := ⟨id, _, p, h1, h2, rfl⟩
 have hn : ¬ old p.blk := fun ho => by have := hold _ ho; have := (live_lt hS' hl).1; omega
 refine ⟨cells, _, h5, ?_, ?_⟩
 · simp only [backG, if_neg hn, if_pos hl, cellsAt_of h5, Option.map]
 · simp only [backG, if_neg hn, if_pos hl]
theorem backG_ok (hS : SR B w0 σ g w) (hS' : SR w.heap.size w σ' g' w') (hold : ∀ b, old b → b < w.heap.size)
 (hl : ∀ b, Live σ g b → old b ∧ gΦ b = none) (hg : ∀ b c, g.Φ b = some c → (old b → gΦ b = some c ∧ gv b = g.vis b) ∧ (¬ old b → g'.Φ b = some c ∧ g'.vis b = g.vis b))
 (hp : ∀ b c, old b → gΦ b = some c → ∃ t fr, w.heap[b]? = some (.cells c t fr) ∧ ∀ ty, gv b = some ty → t = ty ∧ fr = (0, 0)) :
 SR B w0 σ (backG σ σ' g g' w' old gΦ gv) w' ∧ Ext g (backG σ σ' g g' w' old gΦ gv) := by
 have hb := hS'.below
 have hblk : ∀ k, k < w.heap.size → w'.heap[k]? = w.heap[k]? := hb.block
 have nl : ∀ b c, g.Φ b = some c → ¬ old b → ¬ Live σ' g' b := fun b c h1 h2 h3 => by
  have := ((hg b c h1).2 h2).1
  rw [live_phi hS' h3] at this
  cases this
 have he : Ext g (backG σ σ' g g' w' old gΦ gv) := by
  refine ⟨fun b c h => ?_, fun b c h => ?_, Nat.le_refl _, fun id p' hid hp' => ?_⟩
  · by_cases ho : old b
    · simp only [backG, if_pos ho]; exact ((hg b c h).1 ho).1
    · simp only [backG, if_neg ho, if_neg (nl b c h ho)]; exact ((hg b c h).2 ho).1
  · by_cases ho : old b
    · simp only [backG, if_pos ho]; exact ((hg b c h).1 ho).2
    · simp only [backG, if_neg ho, if_neg (nl b c h ho)]; exact ((hg b c h).2 ho).2
  · simp only [backG] at hp'
    split at hp'
    · exact ⟨p', hp', .inl rfl⟩
    · cases hp'
 refine ⟨⟨hS.below.trans (hb.mono hS.size), Nat.le_trans hS.size hS'.size, fun b c h => ?_, hS.next, fun id o h => ?_, fun id id' p p' h h' hbb => ?_, fun id p h => ?_, fun id p h => ?_⟩, he⟩
 · by_cases ho : old b
   · simp only [backG, if_pos ho] at h ⊢
     obtain ⟨t, fr, h1, h2⟩ := hp b c ho h
     exact ⟨t, fr, by rw [hblk b (hold b ho)]; exact h1, h2⟩
   · by_cases hv : Live σ' g' b
     · simp only [backG, if_neg ho, if_pos hv] at h ⊢
       cases hc : cellsAt w' b with
       | none => rw [hc] at h; cases h
       | some q =>
        obtain ⟨c', t⟩ := q
        rw [hc] at h
        cases h
        exact ⟨t, (0, 0), live_cells hS' hv hc, fun ty hty => by cases hty⟩
     · simp only [backG, if_neg ho, if_neg hv] at h ⊢
       exact hS'.phi b c h
 · obtain ⟨p, h1, h2⟩ := hS.objs id o h
   refine ⟨p, by simp only [backG, h, Option.isSome_some, if_true]; exact h1, (h2.ext he).world (hblk _ (hS.fresh id p h1).2.1)⟩
 · simp only [backG] at h h'
   split at h
   · split at h'
     · exact hS.inj id id' p p' h h' hbb
     · cases h'
   · cases h
 · simp only [backG] at h
   split at h
   · rename_i hs
     obtain ⟨o, ho⟩ := Option.isSome_iff_exists.1 hs
     obtain ⟨h1, h2⟩ := hl p.blk ⟨id, o, p, ho, h, rfl⟩
     simp only [backG, if_pos h1, h2]
   · cases h
 · simp only [backG] at h
   split at h
   · obtain ⟨h1, h2, h3⟩ := hS.fresh id p h
     exact ⟨h1, Nat.lt_of_lt_of_le h2 hS'.size, h3⟩
   · cases h
end
theorem NoIdL.get : ∀ {l : List AV}, NoIdL l → ∀ (j : Nat) (c : AV), l[j]? = some c → NoId c
 | _, .nil, j, c, h => by simp at h
 | _, .cons h t, j, c, hj => by
  match j, hj with
  | 0, hj => simp at hj; subst hj; exact h
  | j + 1, hj => exact t.get j c (by simpa using hj)
open Classical in
theorem calls_a {P : Program} {f : FuncId} {args : List AV} {v : AV} (hn : NoIdL args) (h : ACalls P f args Store.empty fun x s => Frz s 2 x v) (σ : Store) : ACalls P f args σ fun x s => x = v ∧ s = σ := by
 intro B w0 g w vs hS hl hrel
 let g2 : Ghost := { Φ := fun b => if Live σ g b then (cellsAt w b).map (·.1) else g.Φ b, vis := fun b => if Live σ g b then (cellsAt w b).map (·.2) else g.vis b, pl := fun _ => none, next := 0 }
 have hnl : ∀ b c, g.Φ b = some c → ¬ Live σ g b := fun b c h1 h2 => by rw [live_phi hS h2] at h1; cases h1
 have hS2 : SR w.heap.size w Store.empty g2 w := by
  refine ⟨.refl _ _, Nat.le_refl _, fun b c hc => ?_, rfl, fun id o h => by simp [Store.empty] at h, fun id id' p p' h => by simp [g2] at h, fun id p h => by simp [g2] at h, fun id p h => by simp [g2] at h⟩
  by_cases hv : Live σ g b
  · simp only [g2, if_pos hv] at hc ⊢
    cases hq : cellsAt w b with
    | none => rw [hq] at hc; cases hc
    | some q =>
     obtain ⟨c', t⟩ := q
     rw [hq] at hc
     cases hc
     exact ⟨t, (0, 0), live_cells hS hv hq, fun ty hty => by simp at hty; exact ⟨hty, rfl⟩⟩
  · simp only [g2, if_neg hv] at hc ⊢
    exact hS.phi b c hc
 have hrel2 : ∀ j c, args[j]? = some c → RelV g2 c (vs.getD j undef) := fun j c hj => NoId.rel (fun b c hc => by
  simp only [g2, if_neg (hnl b c hc.1)]; exact hc) (hn.get j c hj) (hrel j c hj)
 refine (h w.heap.size w g2 w vs hS2 hl hrel2).mono ?_
 rintro x w' ⟨r, σ', g', hfz, hE, hS', hr⟩
 have hb := hS'.below
 have hblk : ∀ k, k < w.heap.size → w'.heap[k]? = w.heap[k]? := hb.block
 have hlive : ∀ b c, Live σ g b → g'.Φ b = some c → g'.vis b = none → False := fun b c hv h1 h2 => by
  have hlt := (live_lt hS hv).2
  cases hq : cellsAt w b with
  | some q =>
   have h3 : g2.Φ b = some q.1 := by simp only [g2, if_pos hv, hq, Option.map]
   have h4 := hE.see b _ h3
   rw [h2] at h4
   simp only [g2, if_pos hv, hq, Option.map] at h4
   cases h4
  | none =>
   obtain ⟨t, fr, h3, _⟩ := hS'.phi b c h1
   rw [hblk b hlt] at h3
   rw [cellsAt_of h3] at hq
   cases hq
 have hold : ∀ b, Live σ g b → b < w.heap.size := fun b hv => (live_lt hS hv).2
 obtain ⟨hSf, hEf⟩ := backG_ok (g' := g') (w' := w') (σ' := σ') (old := Live σ g) (gΦ := fun _ => none) (gv := fun _ => none) hS hS' hold (fun b hv => ⟨hv, rfl⟩)
  (fun b c hc => ⟨fun hv => absurd hv (hnl b c hc), fun hv => by
   have h3 : g2.Φ b = some c := by simp only [g2, if_neg hv]; exact hc
   exact ⟨hE.phi b c h3, by rw [hE.see b c h3]; simp only [g2, if_neg hv]⟩⟩) (fun b c hv h => by cases h)
 refine ⟨v, σ, _, ⟨rfl, rfl⟩, hEf, hSf, ?_⟩
 refine Frz.rel hS' (backG_new hS' hold) hfz (by decide) (fun _ b c hc => ?_) hr
 have h1 : ¬ Live σ g b := fun hv => hlive b c hv hc.1 hc.2
 have h2 : ¬ Live σ' g' b := fun hv => by rw [live_phi hS' hv] at hc; exact absurd hc.1 (by simp)
 simp only [backG, if_neg h1, if_neg h2]
 exact hc
open Classical in
theorem calls_b {P : Program} {f : FuncId} {args args' : List AV} {v : AV} {σ : Store} (hf : FrzL σ 2 args args') (h : ACalls P f args' Store.empty fun x s => Frz s 0 x v) : ACalls P f args σ fun x s => x = v ∧ s = σ := by
 intro B w0 g w vs hS hl hrel
 have hrel2 : ∀ j c, args'[j]? = some c → RelV (g0 w) c (vs.getD j undef) := fun j c hj => by
  have := FrzL.rel (gt := g0 w) (o := 0) (cells := vs) hS (fun id ty ver sz es p h1 h2 => by
   obtain ⟨p', hp', _, _, _, _, cells, h5, _⟩ := hS.objs id _ h1
   rw [h2] at hp'
   cases hp'
   exact ⟨cells, _, h5, by simp only [g0, h5], rfl⟩) hf (by decide) (fun _ b c hc => by
    obtain ⟨t, fr, h3, _⟩ := hS.phi b c hc.1
    exact ⟨by simp only [g0, h3], rfl⟩) (fun j c hj => by have := hrel j c hj; rwa [Nat.zero_add]) j c hj
  rwa [Nat.zero_add] at this
 refine (h w.heap.size w (g0 w) w vs (sr0 w) (by rw [hf.get.1]; exact hl) hrel2).mono ?_
 rintro x w' ⟨r, σ', g', hfz, hE, hS', hr⟩
 have hlt : ∀ b c, g.Φ b = some c → b < w.heap.size := fun b c hc => by
  obtain ⟨t, fr, h3, _⟩ := hS.phi b c hc
  exact (Array.getElem?_eq_some_iff.1 h3).1
 obtain ⟨hSf, hEf⟩ := backG_ok (g' := g') (w' := w') (σ' := σ') (old := fun b => b < w.heap.size) (gΦ := g.Φ) (gv := g.vis) hS hS' (fun _ h => h) (fun b hv => ⟨(live_lt hS hv).2, live_phi hS hv⟩)
  (fun b c hc => ⟨fun _ => ⟨hc, rfl⟩, fun hn => absurd (hlt b c hc) hn⟩) (fun b c _ hc => hS.phi b c hc)
 exact ⟨v, σ, _, ⟨rfl, rfl⟩, hEf, hSf, Frz.rel hS' (backG_new hS' fun _ h => h) hfz (by decide) (fun h2 => absurd h2 (by decide)) hr⟩
theorem puOK_no (P : Program) : PuOK P fun _ => .no := ⟨fun f r h => (by cases h), fun f r h => (by cases h)⟩
def RaOK (P : Program) (f : FuncId) (r : List AV → RR) : Prop := ∀ args v, r args = .val v → NoIdL args → ∀ σ, ACalls P f args σ fun x s => x = v ∧ s = σ
def RbOK (P : Program) (f : FuncId) (r : List AV → RR) : Prop := ∀ args args' v σ, r args' = .val v → FrzL σ 2 args args' → ACalls P f args σ fun x s => x = v ∧ s = σ
theorem ra_apart {P : Program} {tab : ETab} {pu : Pure} (ht : ETabOK P tab) (hp : PuOK P pu) (fuel : Nat) (f : FuncId) : RaOK P f (apart tab pu fuel 2 f) := fun args v hr hn σ => calls_a hn (run_apart ht hp (by decide) hr) σ
theorem rb_apart {P : Program} {tab : ETab} {pu : Pure} (ht : ETabOK P tab) (hp : PuOK P pu) (fuel : Nat) (f : FuncId) : RbOK P f (apart tab pu fuel 0 f) := fun args args' v σ hr hf => calls_b hf (run_apart ht hp (by decide) hr)
theorem puOK_a {P : Program} {pu : Pure} (h : PuOK P pu) {f : FuncId} {r : List AV → RR} (hr : RaOK P f r) : PuOK P (puAt f (.goA r) pu) := by
 refine ⟨fun g q hg => ?_, fun g q hg => ?_⟩ <;> unfold puAt at hg <;> cases hb : Nat.beq g f with
 | true =>
  rw [hb] at hg
  have := Nat.eq_of_beq_eq_true hb
  subst this
  first
  | (cases hg; exact hr)
  | cases hg
 | false =>
  rw [hb] at hg
  first
  | exact h.a g q hg
  | exact h.b g q hg
theorem puOK_b {P : Program} {pu : Pure} (h : PuOK P pu) {f : FuncId} {r : List AV → RR} (hr : RbOK P f r) : PuOK P (puAt f (.goB r) pu) := by
 refine ⟨fun g q hg => ?_, fun g q hg => ?_⟩ <;> unfold puAt at hg <;> cases hb : Nat.beq g f with
 | true =>
  rw [hb] at hg
  have := Nat.eq_of_beq_eq_true hb
  subst this
  first
  | (cases hg; exact hr)
  | cases hg
 | false =>
  rw [hb] at hg
  first
  | exact h.a g q hg
  | exact h.b g q hg
noncomputable def etabL (l : List (Nat × FEnt)) : ETab := fun f => Option.rec (motive := fun _ => EE) .no (fun e => FEnt.rec (motive := fun _ => EE) (fun n c rs => .ok n (dCode c) rs) e) ((trE l).get f)
theorem etabL_ok {P : Program} {l : List (Nat × FEnt)} (h : EntsOK P l) : ETabOK P (etabL l) := fun f => by
 unfold etabL
 cases hg : (trE l).get f with
 | none => exact ⟨fun m c rs hf => (by cases hf), fun F hf => (by cases hf)⟩
 | some e => exact ⟨fun m c rs hf => (by cases hf; exact ⟨e.c, rfl, trE_ok h f e hg⟩), fun F hf => (by cases hf)⟩
noncomputable def etabAt (f : FuncId) (e : EE) (t : ETab) : ETab := fun g => Bool.rec (motive := fun _ => EE) (t g) e (Nat.beq g f)
theorem etabAt_ok {P : Program} {f : FuncId} {e : EE} {t : ETab} (he : EOK P f e) (ht : ETabOK P t) : ETabOK P (etabAt f e t) := fun g => by
 unfold etabAt
 cases hb : Nat.beq g f with
 | true => have := Nat.eq_of_beq_eq_true hb; subst this; exact he
 | false => exact ht g
noncomputable def sameN : EE := .nat fun args n h K => List.rec (motive := fun _ => RR) .no (fun a r _ => List.rec (motive := fun _ => RR) (K [a] n h) (fun _ _ _ => .no) r) args
theorem sameN_ok {P : Program} {f : FuncId} (h : ∀ (v : Value) (w : World), (callFunc f #[v]).run P w = .ok (.value v) w) : EOK P f sameN := by
 refine ⟨fun m c rs hf => (by cases hf), fun F hf => ?_⟩
 cases hf
 intro w args n h' K hw e
 match args, e with
 | [], e => cases e
 | [a], e =>
  intro B w0 g w' vs hS hl hrel
  have hv : vs = #[vs.getD 0 undef] := by
   apply Array.ext
   · simpa using hl
   · intro i h1 h2
     have : i = 0 := by simp at h2; exact h2
     subst this
     simp [Array.getD_eq_getD_getElem?, h1]
  rw [hv]
  exact .inr ⟨_, _, h _ _, a, stH n h', g, ⟨[a], n, h', hw, rfl, rfl, e⟩, .refl g, hS, by
   have := hrel 0 a rfl
   simpa using this⟩
 | a :: b :: r, e => cases e
noncomputable def isR (v : AV) (x : RR) : Bool := RR.rec (motive := fun _ => Bool) false (fun _ _ _ => false) (fun u => eqV 100 v u) x
theorem isR_val {v : AV} {x : RR} (h : isR v x = true) : x = .val v := by
 cases x with
 | val u => rw [eqV_ok 100 v u h]
 | no => cases h
 | yes _ _ _ => cases h
end Go.AL
